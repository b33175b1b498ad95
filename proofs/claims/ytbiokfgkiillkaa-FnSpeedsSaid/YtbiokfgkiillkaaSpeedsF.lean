/-
  The law FnSpeeds, walked: as few turns as possible last long enough, and a shortened tune has no common beat. True for all bytes.
-/
import Derived.Test.YtbiokfgkiillkaaSpeedMath
import Derived.Test.YtbiokfgkiillkaaTime
import Derived.Test.YtbiokfgkiillkaaAt
import Derived.Deep.DeepCutAuto
namespace Go.Proofs.Ytbiokfgkiillkaa
open Go.RowKit

/-- three slices of notes, in a world in which nothing of W has turned -/
def SI3 (W : World) (A1 A4 A5 : Option Addr) (c1 c4 c5 N : Nat) (xs ys : List (Int × Int)) (w : World) : Prop :=
  w.ownsRow W.heap.size 44 2 (.slice A1 N c1) N (pc xs) ∧ w.ownsRow W.heap.size 44 2 (.slice A4 N c4) N (pc ys) ∧ w.ownsRow W.heap.size 44 2 (.slice A5 N c5) N (pc ys) ∧ Below W.heap.size W w
section
variable {W w w' : World} {A1 A4 A5 : Option Addr} {c1 c4 c5 N : Nat} {xs ys : List (Int × Int)}
theorem SI3.step (h : SI3 W A1 A4 A5 c1 c4 c5 N xs ys w) (hb : Below w.heap.size w w') : SI3 W A1 A4 A5 c1 c4 c5 N xs ys w' :=
  ⟨own_below h.1 hb, own_below h.2.1 hb, own_below h.2.2.1 hb, h.2.2.2.trans (hb.mono h.2.2.2.size)⟩
theorem SI3.drewN (h : SI3 W A1 A4 A5 c1 c4 c5 N xs ys w) (k : Nat) : SI3 W A1 A4 A5 c1 c4 c5 N xs ys (w.drewN k) := h.step (Go.Joins.below_draws _ _ _)
end
theorem btoi_is (b : Bool) (w : World) : Calls Try.prog 32 #[.bool b] w fun e w' => e = .returned (.int .i64 (if b = true then 1 else 0)) ∧ w = w' := by
  cases b
  all_goals
    go_enter Try.func32, Try.ntmps32
    go_wp2
    go_ret
    exact ⟨rfl, rfl⟩

theorem turns_two {a b s : Int} (ht : timeB a b = true) (s0 : 0 ≤ s) (s1 : s ≤ 3600) :
    (TurnsForZ a b s < 0 ∧ PlayZ a b 1000 < s) ∨ (0 ≤ TurnsForZ a b s ∧ s ≤ PlayZ a b (TurnsForZ a b s) ∧ TurnsForZ a b s ≤ 1000 ∧ (0 < TurnsForZ a b s → PlayZ a b (TurnsForZ a b s - 1) < s)) := by
  obtain ⟨n0, n1⟩ := time_bd ht
  obtain ⟨q0, q1, q2⟩ := ceil_bd n0 s0
  have hpz : ∀ k, 0 ≤ k → k ≤ 1000 → PlayZ a b k = a * b * k / 1000 := fun k k0 k1 => by unfold PlayZ; rw [if_pos ⟨ht, inB_true ⟨k0, k1⟩⟩]
  unfold TurnsForZ
  rw [if_pos ⟨ht, inB_true ⟨s0, s1⟩⟩]
  by_cases hc : 1000 < ceilQ (a * b) s
  · rw [if_pos hc, hpz 1000 (by omega) (by omega)]
    exact Or.inl ⟨by omega, play_lt n0 q2 hc⟩
  · rw [if_neg hc]
    refine Or.inr ⟨q0, ?_, by omega, fun hp => ?_⟩
    · rw [hpz _ q0 (by omega)]
      omega
    · rw [hpz _ (by omega) (by omega)]
      exact play_lt n0 q2 (by omega)

set_option maxHeartbeats 8000000 in
set_option maxRecDepth 100000 in
theorem fnSpeeds_walk (W : World) (A : Option Addr) (n c : Nat) (bs : List Int) (r : Rd W W.heap.size 1 A n (bs.map (Value.int .u8))) (_l : bs.length = n) (_nc : n ≤ c) (_nm : n ≤ 9223372036854775807)
    (wb : ∀ x ∈ bs, (Lit.int .u8 x).wf = true) :
    Calls Try.prog 9 #[.slice A n c] W fun e w' => e = .returned (.bool true) ∧ Below W.heap.size W w' := by
  have hbs : ∀ x ∈ bs, 0 ≤ x ∧ x ≤ 255 := fun x hx => bounds_u8 (wb x hx)
  have R := Lib.hid r
  have HBS := Lib.hid hbs
  clear r hbs wb
  by_cases hn : n ≤ 1048576
  case neg =>
    have hb : decide (1048576 < n) = true := by simp; omega
    go_enter Try.func9, Try.ntmps9
    go_wp2_with (go_at_call 27; refine (big_any _ _ _ _).mono ?_; rintro e w' ⟨rfl, rfl⟩; rw [hb])
    go_ret
    exact ⟨rfl, Below.refl _ _⟩
  have hb : decide (1048576 < n) = false := by simp; omega
  have HB := Lib.hid hb
  clear hb
  have A0 := atZ_bd HBS.out 0
  have A1 := atZ_bd HBS.out 1
  have A2 := atZ_bd HBS.out 2
  have Q0 := Lib.hid (at_is A n c bs 0 W W.heap.size R.out HBS.out hn (by omega) (by omega))
  have Q1 := Lib.hid (at_is A n c bs 1 W W.heap.size R.out HBS.out hn (by omega) (by omega))
  have Q2 := Lib.hid (at_is A n c bs 2 W W.heap.size R.out HBS.out hn (by omega) (by omega))
  generalize atZ bs 0 = x0 at *
  generalize atZ bs 1 = x1 at *
  generalize atZ bs 2 = s at *
  obtain ⟨A00, A01⟩ := A0
  obtain ⟨A10, A11⟩ := A1
  obtain ⟨A20, A21⟩ := A2
  go_enter Try.func9, Try.ntmps9
  go_wp2_with fail
  refine (big_any _ _ _ _).mono ?_
  rintro e w' ⟨rfl, rfl⟩
  rw [HB.out]
  go_wp2_with fail
  refine Q0.out.mono ?_
  rintro e w' ⟨rfl, rfl⟩
  go_wp2_with fail
  refine Q1.out.mono ?_
  rintro e w' ⟨rfl, rfl⟩
  go_wp2_with fail
  refine Q2.out.mono ?_
  rintro e w' ⟨rfl, rfl⟩
  obtain ⟨a, ha, a0, a1⟩ : ∃ a, a = 1 + x0 % 96 ∧ 1 ≤ a ∧ a ≤ 96 := ⟨_, rfl, by omega, by omega⟩
  obtain ⟨b, hb, b0, b1⟩ : ∃ b, b = 1 + x1 * 3 ∧ 1 ≤ b ∧ b ≤ 1000 := ⟨_, rfl, by omega, by omega⟩
  rw [← ha, ← hb]
  clear ha hb Q0 Q1 Q2
  go_wp2_with fail
  refine (iTurnsForTime a b s _).mono ?_
  rintro e w' ⟨rfl, rfl⟩
  have ht : timeB a b = true := by simp [timeB, inB_true ⟨a0, a1⟩, inB_true ⟨b0, b1⟩]
  obtain ⟨n0, n1⟩ := time_bd ht
  have hz : TimeZ a b = a * b := by simp [TimeZ, ht]
  have TT := Lib.hid (fun w => ((iTurnTime a b w).mono fun e w' (h : _ ∧ _) => (⟨by rw [h.1, hz], h.2⟩ : e = .returned (.int .i64 (a * b)) ∧ w = w')))
  have two := Lib.hid (turns_two ht A20 (show s ≤ 3600 by omega))
  have PL := Lib.hid (fun k w => iPlayTime a b k w)
  obtain ⟨q, hq⟩ : ∃ q, q = TurnsForZ a b s := ⟨_, rfl⟩
  rw [← hq] at two ⊢
  clear ht hz hq
  go_upto_region 7 with fail
  go_cut [75] (fun q wx => q = .bool false ∧ W = wx)
  case first =>
    rcases two.out with ⟨h1, h2⟩ | ⟨h1, h2, h3⟩
    · have P3 := Lib.hid (PL.out 1000)
      generalize PlayZ a b 1000 = p3 at *
      have d1 : decide (s ≤ p3) = false := by simp; omega
      clear two PL
      go_wp2_with (first | (go_at_call 11; refine (TT.out _).mono ?_; rintro e w' ⟨rfl, rfl⟩) | (go_at_call 13; refine (P3.out _).mono ?_; rintro e w' ⟨rfl, rfl⟩))
      go_meet
      exact ⟨rfl, rfl⟩
    · obtain ⟨h4, h3⟩ := h3
      have P1 := Lib.hid (PL.out q)
      have P2 := Lib.hid (PL.out (q - 1))
      generalize PlayZ a b q = p1 at *
      generalize PlayZ a b (q - 1) = p2 at *
      clear two PL
      have d1 : decide (p1 < s) = false := by simp; omega
      by_cases hq : 0 < q
      · have h3 := h3 hq
        have d2 : decide (s ≤ p2) = false := by simp; omega
        go_wp2_with (first | (go_at_call 11; refine (TT.out _).mono ?_; rintro e w' ⟨rfl, rfl⟩) | (with_reducible (go_at_call 13; refine (P1.out _).mono ?_; rintro e w' ⟨rfl, rfl⟩)) | (with_reducible (go_at_call 13; refine (P2.out _).mono ?_; rintro e w' ⟨rfl, rfl⟩)))
        go_meet
        exact ⟨rfl, rfl⟩
      · clear h3
        go_wp2_with (first | (go_at_call 11; refine (TT.out _).mono ?_; rintro e w' ⟨rfl, rfl⟩) | (with_reducible (go_at_call 13; refine (P1.out _).mono ?_; rintro e w' ⟨rfl, rfl⟩)))
        go_meet
        exact ⟨rfl, rfl⟩
  case rest =>
    obtain ⟨rfl, rfl⟩ := hcut
    go_wp2_with fail
    refine (DrawTune_any _ _ _ _ _ R.out hn HBS.out).mono ?_
    rintro e w1 ⟨xs, hd, A1, c1, rfl, ho1, hb1⟩
    obtain ⟨N, hN⟩ : ∃ N, N = xs.length := ⟨_, rfl⟩
    rw [← hN] at ho1 ⊢
    obtain ⟨ht, h11, hdn⟩ := hd
    have hN11 : N ≤ 11 := by omega
    have hN2 : N ≤ 1048576 := by omega
    obtain ⟨us, hus⟩ : ∃ us, us = moveL xs 3 0 0 := ⟨_, rfl⟩
    obtain ⟨vs, hvs⟩ : ∃ vs, vs = moveL us 1 7 0 := ⟨_, rfl⟩
    have hut : tuneB us = true := by
      rw [hus]
      exact move_tune ht (by omega) fun p hp => by have := hdn p hp; unfold drawnNote at this; omega
    have hvt : tuneB vs = true := by
      rw [hvs]
      refine move_tune hut (by omega) fun p hp => ?_
      rw [hus] at hp
      obtain ⟨p', hp', rfl⟩ := List.mem_map.1 hp
      have := hdn p' hp'
      unfold drawnNote at this
      simp only [mvP]
      omega
    have hul : us.length = N := by rw [hus, moveL_len, hN]
    have hvl : vs.length = N := by rw [hvs, moveL_len, hul]
    obtain ⟨g, hg⟩ : ∃ g, g = beatsTo xs N := ⟨_, rfl⟩
    obtain ⟨g0, g1⟩ := beatsTo_bd ht N (by omega)
    rw [← hg] at g0 g1
    have hbx : beatsZ xs = g := by rw [beats_yes ht, ← hN, hg]
    have hgu : beatsTo us N = 3 * g := by rw [hus, beats_move ht 3 0 0 (by omega) N (by omega), hg]
    have hgv : beatsTo vs N = 3 * g := by rw [hvs, beats_move hut 1 7 0 (by omega) N (by omega), hgu]; omega
    have hbv : beatsZ vs = 3 * g := by rw [beats_yes hvt, hvl, hgv]
    obtain ⟨ys, hys⟩ : ∃ ys, ys = shTo xs g N := ⟨_, rfl⟩
    have hyl : ys.length = N := by rw [hys, shTo_len]
    have hsx : shortV xs = ys := by rw [short_yes ht, ← hN, hys, hg]
    have hsu : shTo us (3 * g) N = ys := by rw [hus, hg, sh_same ht 3 0 (by omega) hN, hys, hg]
    have hsv : shortV vs = ys := by
      have := sh_same hut 1 7 (by omega) hul.symm
      rw [Int.one_mul] at this
      rw [short_yes hvt, hvl, hgv, ← hgu, hvs, this, hgu, hsu]
    have hby : beatsZ ys = if 0 < g then 1 else 0 := by
      have := beats_one ht
      rw [hsx, ← hN, ← hg] at this
      exact this
    have hfit : ∀ S, inB S 4 96 = true → fitsB xs S = fitsTo ys S := fun S hS => by simp [fitsB, ht, hS, hsx]
    have hyk : ∀ k x y, xs[k]? = some (x, y) → ∃ q, ys[k]? = some (q, y) ∧ (0 < g → q * g = bt xs k) ∧ (g = 0 → q = 0) := fun k x y hk => by
      have hkN : k < N := by have := (List.getElem?_eq_some_iff.1 hk).1; omega
      have hs := sh_get xs g N k hkN
      rw [← hys] at hs
      rw [nt_of hk] at hs
      refine ⟨_, hs, fun hp => ?_, fun hp => ?_⟩
      · have := beat_mul ht hkN (by omega)
        rw [← hg] at this
        rw [show max 1 g = g by omega, Int.mul_comm]
        exact this
      · have := beat_zero ht hkN (by omega) (by rw [← hg]; exact hp)
        rw [this]
        simp
    have hlast : ∀ M, M + 1 = N → ∃ q y, ys[M]? = some (q, y) ∧ ∀ S, inB S 4 96 = true → fitsB xs S = decide (q < S) := fun M hM => by
      have hs := sh_get xs g N M (by omega)
      rw [← hys] at hs
      refine ⟨_, _, hs, fun S hS => ?_⟩
      rw [hfit S hS]
      have := fits_last (g := g) (s := S) ht (n := M) (by omega)
      rw [hM, ← hys] at this
      exact this
    have hnone : N = 0 → ∀ S, inB S 4 96 = true → fitsB xs S = true := fun h0 S hS => by
      rw [hfit S hS]
      have : ys = [] := List.eq_nil_of_length_eq_zero (by omega)
      rw [this]
      rfl
    have hnil : fitsB [] 4 = true := by decide
    have CS := Lib.hid (fun w (h : Rd w w.heap.size 2 A1 N (pc xs)) => sSlower_yes A1 N c1 xs 3 w h ht (by rw [← hus]; exact hut) (by omega))
    unfold MadeT at CS
    rw [← hus, hul] at CS
    have CL := Lib.hid (fun A2 c2 w (h : Rd w w.heap.size 2 A2 N (pc us)) => sLater_yes A2 N c2 us 7 w h hut (by rw [← hvs]; exact hvt) (by omega))
    unfold MadeT at CL
    rw [← hvs, hvl] at CL
    have CB := Lib.hid (fun w (h : Rd w w.heap.size 2 A1 N (pc xs)) => iBeatsOf A1 N c1 xs w h hN2)
    rw [hbx] at CB
    have CV := Lib.hid (fun A3 c3 w (h : Rd w w.heap.size 2 A3 N (pc vs)) => iBeatsOf A3 N c3 vs w h hN2)
    rw [hbv] at CV
    have CY := Lib.hid (fun A3 c3 w (h : Rd w w.heap.size 2 A3 N (pc ys)) => iBeatsOf A3 N c3 ys w h hN2)
    rw [hby] at CY
    have SX := Lib.hid (fun w (h : Rd w w.heap.size 2 A1 N (pc xs)) => iShortened A1 N c1 xs w h hN2)
    unfold MadeP at SX
    rw [hsx, hyl] at SX
    have SV := Lib.hid (fun A3 c3 w (h : Rd w w.heap.size 2 A3 N (pc vs)) => iShortened A3 N c3 vs w h hN2)
    unfold MadeP at SV
    rw [hsv, hyl] at SV
    have FT := Lib.hid (fun S w (h : Rd w w.heap.size 2 A1 N (pc xs)) => iFitsTurn A1 N c1 xs S w h hN2)
    have FN := Lib.hid (fun w => iFitsTurn none 0 0 [] 4 w (Rd.nil _ _ _ _) (by omega))
    rw [hnil] at FN
    have HYK := Lib.hid hyk
    have HLA := Lib.hid hlast
    have HNO := Lib.hid hnone
    have HNN := Lib.hid hN
    have HBD := Lib.hid (fun k p (hk : xs[k]? = some p) => (by have := hdn p (List.mem_of_getElem? hk); unfold drawnNote at this; exact this : drawnNote p))
    unfold drawnNote at HBD
    have HBT := Lib.hid (fun k (p q : Int × Int) (hk : xs[k]? = some p) (h0 : xs[0]? = some q) => (by unfold bt; rw [nt_of hk, nt_of h0] : bt xs k = p.1 - q.1))
    clear hyk hlast hnone hN hnil hfit hby hsv hsu hsx hyl hys hbv hgv hgu hbx hg hvl hul hvt hut hvs hus ht h11 hdn
    go_wp2_with fail
    refine (CS.out _ (Rd.of_own ho1)).mono ?_
    rintro e w2 ⟨A2, c2, rfl, ho2, hb2⟩
    have t2 := own_below ho1 hb2
    have b2 := hb1.trans (hb2.mono hb1.size)
    clear ho1 hb1 hb2
    go_wp2_with fail
    refine (CL.out _ _ _ (Rd.of_own ho2)).mono ?_
    rintro e w3 ⟨A3, c3, rfl, ho3, hb3⟩
    have t3 := own_below t2 hb3
    have v3 := own_base ho3 b2.size
    have b3 := b2.trans (hb3.mono b2.size)
    clear t2 ho2 ho3 b2 hb3
    go_wp2_with fail
    refine (CB.out _ (Rd.of_own t3)).mono ?_
    rintro e w4 ⟨rfl, hb4⟩
    have t4 := own_below t3 hb4
    have v4 := own_below v3 hb4
    have b4 := b3.trans (hb4.mono b3.size)
    clear t3 v3 b3 hb4
    go_wp2_with fail
    refine (SX.out _ (Rd.of_own t4)).mono ?_
    rintro e w5 ⟨A4, c4, rfl, ho5, hb5⟩
    have t5 := own_below t4 hb5
    have v5 := own_below v4 hb5
    have x5 := own_base ho5 b4.size
    have b5 := b4.trans (hb5.mono b4.size)
    clear t4 v4 b4 hb5 ho5
    go_wp2_with fail
    refine (SV.out _ _ _ (Rd.of_own v5)).mono ?_
    rintro e w6 ⟨A5, c5, rfl, ho6, hb6⟩
    have t6 := own_below t5 hb6
    have v6 := own_below v5 hb6
    have x6 := own_below x5 hb6
    have y6 := own_base ho6 b5.size
    have b6 := b5.trans (hb6.mono b5.size)
    clear t5 v5 x5 b5 hb6 ho6
    go_wp2_with fail
    refine (CV.out _ _ _ (Rd.of_own v6)).mono ?_
    rintro e w7 ⟨rfl, hb7⟩
    have I7 : SI3 W A1 A4 A5 c1 c4 c5 N xs ys w7 := SI3.step ⟨t6, x6, y6, b6⟩ hb7
    clear t6 v6 x6 y6 b6 hb7
    have hN11i : (N : Int) ≤ 11 := by omega
    go_wp2_with fail
    go_loopw [15] (fun i wr => ∃ k : Nat, k ≤ N ∧ i = .int .i64 k ∧ SI3 W A1 A4 A5 c1 c4 c5 N xs ys wr) (fun i _ => N - (intOf i).toNat)
    case atStart => exact ⟨0, Nat.zero_le _, rfl, I7⟩
    case round =>
      obtain ⟨k, hk, rfl, hI⟩ := hrel
      by_cases hlt : (k : Int) < N
      · obtain ⟨p1, o1, rfl, _, hc1⟩ := (Rd.of_own hI.1).pairAt (by omega)
        obtain ⟨p4, o4, rfl, _, hc4⟩ := (Rd.of_own hI.2.1).pairAt (by omega)
        obtain ⟨p5, o5, rfl, _, hc5⟩ := (Rd.of_own hI.2.2.1).pairAt (by omega)
        obtain ⟨⟨x, y⟩, hx⟩ : ∃ p, xs[k]? = some p := ⟨_, List.getElem?_eq_getElem (by rw [← HNN.out]; omega)⟩
        obtain ⟨⟨x0', y0'⟩, hx0⟩ : ∃ p, xs[0]? = some p := ⟨_, List.getElem?_eq_getElem (by rw [← HNN.out]; omega)⟩
        obtain ⟨q, hq, hqp, hqz⟩ := HYK.out k x y hx
        have hbt := HBT.out k _ _ hx hx0
        obtain ⟨d0, d1, d2, d3⟩ := HBD.out k _ hx
        obtain ⟨d4, d5, d6, d7⟩ := HBD.out 0 _ hx0
        simp only at hbt d0 d1 d2 d3 d4 d5 d6 d7
        obtain ⟨t0, t1⟩ := hc1 k _ hx
        obtain ⟨s0, _⟩ := hc1 0 _ hx0
        rw [show o1 + 0 * 2 = o1 by omega] at s0
        obtain ⟨f0, f1⟩ := hc4 k _ hq
        obtain ⟨e0, e1⟩ := hc5 k _ hq
        have HI := Lib.hid hI
        clear hx hx0 hq hc1 hc4 hc5 hI
        have hw2 : IntKind.i64.wrap (x - x0') = x - x0' := IntWalk.i64_in _ (by omega)
        by_cases hgp : 0 < g
        · have hqq := hqp hgp
          have hw1 : IntKind.i64.wrap (q * g) = x - x0' := by rw [hqq, hbt]; exact hw2
          have hgz : (g == 0) = false := by simp; omega
          clear hqp hqz hqq hbt
          go_wp2_with fail
          go_quiet (fail)
          go_wp2_with fail
          go_roundw
          case rel => exact ⟨k + 1, by omega, by go_num, HI.out.drewN _⟩
          case measure => simp [intOf] <;> omega
        · have hg0 : g = 0 := by omega
          have hq0 := hqz hg0
          have hgz : (g == 0) = true := by simp [hg0]
          have hgd : decide (0 < g) = false := by simp; omega
          have hgd2 : g ≤ 0 := by omega
          clear hqp hqz hbt hg0
          subst hq0
          go_wp2_with fail
          go_quiet (fail)
          go_wp2_with fail
          go_roundw
          case rel => exact ⟨k + 1, by omega, by go_num, HI.out.drewN _⟩
          case measure => simp [intOf] <;> omega
      · obtain rfl : k = N := by omega
        have HI := Lib.hid hI
        clear hI
        have Y8 := Lib.hid (fun w (h : SI3 W A1 A4 A5 c1 c4 c5 k xs ys w) => CY.out A4 c4 w (Rd.of_own h.2.1))
        have F8 := Lib.hid (fun S w (h : SI3 W A1 A4 A5 c1 c4 c5 k xs ys w) => FT.out S w (Rd.of_own h.1))
        clear CY FT
        by_cases hN0 : (0 : Int) < k
        · obtain ⟨M, hM⟩ : ∃ M, M + 1 = k := ⟨k - 1, by omega⟩
          obtain ⟨q, y, hq, hf⟩ := HLA.out M hM
          have f16 := hf 16 (by decide)
          have f4 := hf 4 (by decide)
          have T16 := Lib.hid (F8.out 16)
          have T4 := Lib.hid (F8.out 4)
          rw [f16] at T16
          rw [f4] at T4
          obtain ⟨p4, o4, rfl, _, hc4⟩ := (Rd.of_own HI.out.2.1).pairAt (by omega)
          obtain ⟨e0, e1⟩ := hc4 M _ hq
          have hj : ((k : Int) == 0) = false := by simp; omega
          have hw : IntKind.i64.wrap ((k : Int) - 1) = M := by rw [IntWalk.i64_in _ (by omega)]; omega
          have hs2 : (k : Int) - 1 = M := by omega
          have hml : (M : Int) < k := by omega
          clear f16 f4 F8 hc4 hq hf hM HLA HNO HYK HBD HBT
          by_cases hgp : 0 < g
          all_goals
            first | rw [if_pos hgp] at Y8 | rw [if_neg hgp] at Y8
            try have hgd : decide (0 < g) = false := by simp; omega
            go_wp2_with fail
            refine (Y8.out _ HI.out).mono ?_
            rintro e w9 ⟨rfl, hb9⟩
            have I9 := HI.out.step hb9
            go_wp2_with (go_at_call 32; refine (btoi_is _ _).mono ?_; rintro e w' ⟨rfl, rfl⟩)
            refine (T16.out _ I9).mono ?_
            rintro e w10 ⟨rfl, hb10⟩
            have I10 := I9.step hb10
            go_wp2_with fail
            refine (T4.out _ I10).mono ?_
            rintro e w11 ⟨rfl, hb11⟩
            have I11 := I10.step hb11
            go_wp2_with fail
            refine (FN.out _).mono ?_
            rintro e w12 ⟨rfl, hb12⟩
            have I12 := I11.step hb12
            go_wp2
            go_ret
            exact ⟨by simp, I12.2.2.2⟩
        · have hk0 : k = 0 := by omega
          have f16 := HNO.out hk0 16 (by decide)
          have f4 := HNO.out hk0 4 (by decide)
          have T16 := Lib.hid (F8.out 16)
          have T4 := Lib.hid (F8.out 4)
          rw [f16] at T16
          rw [f4] at T4
          clear f16 f4 F8 HLA HNO HYK HBD HBT hk0
          by_cases hgp : 0 < g
          all_goals
            first | rw [if_pos hgp] at Y8 | rw [if_neg hgp] at Y8
            try have hgd : decide (0 < g) = false := by simp; omega
            go_wp2_with fail
            refine (Y8.out _ HI.out).mono ?_
            rintro e w9 ⟨rfl, hb9⟩
            have I9 := HI.out.step hb9
            go_wp2_with (go_at_call 32; refine (btoi_is _ _).mono ?_; rintro e w' ⟨rfl, rfl⟩)
            refine (T16.out _ I9).mono ?_
            rintro e w10 ⟨rfl, hb10⟩
            have I10 := I9.step hb10
            go_wp2_with fail
            refine (T4.out _ I10).mono ?_
            rintro e w11 ⟨rfl, hb11⟩
            have I11 := I10.step hb11
            go_wp2_with fail
            refine (FN.out _).mono ?_
            rintro e w12 ⟨rfl, hb12⟩
            have I12 := I11.step hb12
            go_wp2
            go_ret
            exact ⟨by simp, I12.2.2.2⟩

end Go.Proofs.Ytbiokfgkiillkaa
