/-
  The law FnChords, walked: notes that are sweet are sweet in both directions and an octave higher. True for all bytes.
-/
import Derived.Test.YteidigbjllicpaaChordMath
import Derived.Test.YteidigbjllicpaaMoveH
import Derived.Test.YteidigbjllicpaaAt
namespace Go.Proofs.Yteidigbjllicpaa
open Go.RowKit

/-- two slices of notes and two literal slices of numbers, in a world in which nothing of W has turned -/
def CI (W : World) (A1 A2 : Option Addr) (c1 c2 N : Nat) (xs us : List (Int × Int)) (g1 g2 : Nat) (l1 l2 : Array Value) (w : World) : Prop :=
  w.ownsRow W.heap.size 48 2 (.slice A1 N c1) N (pc xs) ∧ w.ownsRow W.heap.size 48 2 (.slice A2 N c2) N (pc us) ∧ Blk w g1 3 l1 ∧ Blk w g2 3 l2 ∧ Below W.heap.size W w
section
variable {W w w' : World} {A1 A2 : Option Addr} {c1 c2 N : Nat} {xs us : List (Int × Int)} {g1 g2 : Nat} {l1 l2 : Array Value}
theorem CI.step (h : CI W A1 A2 c1 c2 N xs us g1 g2 l1 l2 w) (hb : Below w.heap.size w w') : CI W A1 A2 c1 c2 N xs us g1 g2 l1 l2 w' :=
  ⟨own_below h.1 hb, own_below h.2.1 hb, h.2.2.1.below hb h.2.2.1.lt, h.2.2.2.1.below hb h.2.2.2.1.lt, h.2.2.2.2.trans (hb.mono h.2.2.2.2.size)⟩
theorem CI.drewN (h : CI W A1 A2 c1 c2 N xs us g1 g2 l1 l2 w) (k : Nat) : CI W A1 A2 c1 c2 N xs us g1 g2 l1 l2 (w.drewN k) := h.step (Go.Joins.below_draws _ _ _)
theorem CI.alloc (h : CI W A1 A2 c1 c2 N xs us g1 g2 l1 l2 w) (o : Obj) : CI W A1 A2 c1 c2 N xs us g1 g2 l1 l2 (w.alloc o) := h.step ((Below.refl _ _).alloc (Nat.le_refl _) _)
end
theorem btoi_any (b : Bool) (w : World) : Calls Try.prog 34 #[.bool b] w fun e w' => e = .returned (.int .i64 (if b = true then 1 else 0)) ∧ w = w' := by
  cases b
  all_goals
    go_enter Try.func34, Try.ntmps34
    go_wp2
    go_ret
    exact ⟨rfl, rfl⟩

set_option maxHeartbeats 400000 in
theorem has_any (A : Option Addr) (n c : Nat) (xs : List Int) (y : Int) (w : World) (B : Nat) (h : Rd w B 1 A n (xs.map (Value.int .i64))) (hn : n ≤ 1048576) :
    Calls Try.prog 31 #[.slice A n c, .int .i64 y] w fun e w' => e = .returned (.bool (decide (y ∈ xs))) ∧ w = w' := by
  have hlen : xs.length = n := by simpa using h.1
  have H := Lib.hid h
  have HL := Lib.hid hlen
  clear h hlen
  have hni : (n : Int) ≤ 1048576 := by omega
  obtain ⟨v, hv⟩ : ∃ v, v = decide (y ∈ xs) := ⟨_, rfl⟩
  rw [← hv]
  have HV := Lib.hid hv
  clear hv
  go_enter Try.func31, Try.ntmps31
  go_wp2
  go_loop [5] (fun i => ∃ k : Nat, k ≤ n ∧ i = .int .i64 k ∧ Hid (y ∉ xs.take k)) (fun i => n - (intOf i).toNat)
  case atStart => exact ⟨0, Nat.zero_le _, rfl, Lib.hid (by simp)⟩
  case round =>
    obtain ⟨k, hk, rfl, hno⟩ := hrel
    by_cases hlt : (k : Int) < n
    · obtain ⟨b, o, rfl, hbB, hcell⟩ := H.out.cell (by omega)
      obtain ⟨z, hz⟩ : ∃ z, xs[k]? = some z := ⟨_, List.getElem?_eq_getElem (by rw [HL.out]; omega)⟩
      have c1 : w.cell? ⟨b, o + k, none⟩ = some (.int .i64 z) := hcell k _ (by simp [hz])
      have HZ := Lib.hid hz
      clear hcell hz
      by_cases e : z = y
      · have hin : decide (y ∈ xs) = true := decide_eq_true (e ▸ List.mem_of_getElem? HZ.out)
        have HI := Lib.hid (HV.out.trans hin)
        subst e
        clear hin
        go_wp2
        go_ret
        exact ⟨by rw [HI.out]; rfl, rfl⟩
      · have hb : (z == y) = false := by simp [e]
        have hno2 : y ∉ xs.take (k + 1) := by
          rw [take_one HZ.out, List.mem_append, List.mem_singleton]
          rintro (h1 | h1)
          · exact hno.out h1
          · exact e h1.symm
        have HN := Lib.hid hno2
        clear hno2 e
        go_wp2
        go_round
        case rel => exact ⟨k + 1, by omega, by go_num, HN⟩
        case measure => simp [intOf]; omega
    · obtain rfl : k = n := by omega
      have hin : decide (y ∈ xs) = false := by
        have := hno.out
        rw [List.take_of_length_le (by rw [HL.out]; omega)] at this
        exact decide_eq_false this
      have HI := Lib.hid (HV.out.trans hin)
      clear hin
      go_wp2
      go_ret
      exact ⟨by rw [HI.out]; rfl, rfl⟩

set_option maxHeartbeats 8000000 in
set_option maxRecDepth 100000 in
theorem fnChords_walk (W : World) (A : Option Addr) (n c : Nat) (bs : List Int) (r : Rd W W.heap.size 1 A n (bs.map (Value.int .u8))) (_l : bs.length = n) (_nc : n ≤ c) (_nm : n ≤ 9223372036854775807)
    (wb : ∀ x ∈ bs, (Lit.int .u8 x).wf = true) :
    Calls Try.prog 9 #[.slice A n c] W fun e w' => e = .returned (.bool true) ∧ Below W.heap.size W w' := by
  have hbs : ∀ x ∈ bs, 0 ≤ x ∧ x ≤ 255 := fun x hx => bounds_u8 (wb x hx)
  have R := Lib.hid r
  have HBS := Lib.hid hbs
  clear r hbs wb
  by_cases hn : n ≤ 1048576
  case neg =>
    have hb : decide (1048576 < n) = true := by simp; omega
    go_enter Try.func9, Try.ntmps9
    go_wp2_with (go_at_call 29; refine (big_any _ _ _ _).mono ?_; rintro e w' ⟨rfl, rfl⟩; rw [hb])
    go_ret
    exact ⟨rfl, Below.refl _ _⟩
  have hb : decide (1048576 < n) = false := by simp; omega
  have HB := Lib.hid hb
  clear hb
  have A0 := atZ_bd HBS.out 0
  have A1 := atZ_bd HBS.out 1
  have A2 := atZ_bd HBS.out 2
  have Q0 := Lib.hid (at_is A n c bs 0 W W.heap.size R.out HBS.out hn (by omega) (by omega))
  have Q1 := Lib.hid (at_is A n c bs 1 W W.heap.size R.out HBS.out hn (by omega) (by omega))
  have Q2 := Lib.hid (at_is A n c bs 2 W W.heap.size R.out HBS.out hn (by omega) (by omega))
  generalize atZ bs 0 = x0 at *
  generalize atZ bs 1 = x1 at *
  generalize atZ bs 2 = x2 at *
  obtain ⟨A00, A01⟩ := A0
  obtain ⟨A10, A11⟩ := A1
  obtain ⟨A20, A21⟩ := A2
  go_enter Try.func9, Try.ntmps9
  go_wp2_with fail
  refine (big_any _ _ _ _).mono ?_
  rintro e w' ⟨rfl, rfl⟩
  rw [HB.out]
  go_wp2_with fail
  refine Q0.out.mono ?_
  rintro e w' ⟨rfl, rfl⟩
  go_wp2_with fail
  refine Q1.out.mono ?_
  rintro e w' ⟨rfl, rfl⟩
  go_wp2_with fail
  refine Q2.out.mono ?_
  rintro e w' ⟨rfl, rfl⟩
  go_wp2_with fail
  obtain ⟨a, ha, a0, a1⟩ : ∃ a, a = x0 % 40 ∧ 0 ≤ a ∧ a ≤ 39 := ⟨_, rfl, by omega, by omega⟩
  obtain ⟨b, hb, b0, b1⟩ : ∃ b, b = x1 % 40 ∧ 0 ≤ b ∧ b ≤ 39 := ⟨_, rfl, by omega, by omega⟩
  obtain ⟨r, hr, r1⟩ : ∃ r : Nat, x2 % 12 = (r : Int) ∧ r < 12 := ⟨(x2 % 12).toNat, by omega, by omega⟩
  rw [← ha, ← hb, hr]
  have r2 : (r : Int) < 12 := by omega
  clear ha hb hr Q0 Q1 Q2
  have sl := steps_low (a := a) (b := b) (by omega) (by omega)
  have su := (steps_bd a b).2
  have e1 := steps_comm b a
  have e2 := steps_up (a := a) (b := b) (by omega) (by omega)
  have D0 := Lib.hid (fun w => iStepsOf a b w)
  have D1 := Lib.hid (fun w => iStepsOf b a w)
  have D2 := Lib.hid (fun w => iStepsOf (a + 12) b w)
  rw [e1] at D1
  rw [e2] at D2
  generalize StepsZ a b = d at *
  have f1 := sweet_comm b a
  have f2 := sweet_self (a := a) (by omega)
  have f3 := chord_two (a := a) (b := b) (by omega) (by omega)
  have S0 := Lib.hid (fun w => iIsSweet a b w)
  have S1 := Lib.hid (fun w => iIsSweet b a w)
  have S2 := Lib.hid (fun w => iIsSweet a a w)
  rw [f1] at S1
  rw [f2] at S2
  have HAS := Lib.hid (fun p (h0 : 0 ≤ p) (h1 : p ≤ 60) => sweet_has (a := a) (b := b) (p := p) (by omega) (by omega) ⟨h0, h1⟩)
  have SF := Lib.hid (fun g (w : World) (hg : w.heap.size = g) => (by
    subst hg
    exact iSweetFor _ 2 2 [a, b] 0 60 _ (rd_blk (Blk.new w 3 #[.int .i64 a, .int .i64 b]) (by simp)) (by omega) :
      Calls Try.prog 26 #[.slice (some ⟨g, 0, none⟩) 2 2, .int .i64 0, .int .i64 60] (w.alloc (.cells #[.int .i64 a, .int .i64 b] 3)) (MadeI (w.alloc (.cells #[.int .i64 a, .int .i64 b] 3)) (sweetV [a, b] 0 60))))
  have CH := Lib.hid (fun g (w : World) (hg : w.heap.size = g) => (by
    subst hg
    rw [← f3]
    exact iIsChord _ 2 2 [a, b] _ (rd_blk (Blk.new w 3 #[.int .i64 a, .int .i64 b]) (by simp)) (by omega) (by omega) :
      Calls Try.prog 16 #[.slice (some ⟨g, 0, none⟩) 2 2] (w.alloc (.cells #[.int .i64 a, .int .i64 b] 3)) fun e w' => e = .returned (.bool (sweetB a b)) ∧ Below (w.alloc (.cells #[.int .i64 a, .int .i64 b] 3)).heap.size (w.alloc (.cells #[.int .i64 a, .int .i64 b] 3)) w'))
  have smal : (sweetV [a, b] 0 60).length ≤ 1048576 := fnExactSweetFor_small
  obtain ⟨sv, hsv⟩ : ∃ sv, sv = sweetV [a, b] 0 60 := ⟨_, rfl⟩
  rw [← hsv] at SF smal HAS
  obtain ⟨q, hq⟩ : ∃ q, q = sweetB a b := ⟨_, rfl⟩
  rw [← hq] at S0 S1 CH
  clear e1 e2 f1 f2 f3 hsv hq
  refine (D0.out _).mono ?_
  rintro e w' ⟨rfl, rfl⟩
  go_wp2_with fail
  refine (SF.out _ _ rfl).mono ?_
  rintro e w1 ⟨A1, c1, rfl, ho1, hb1⟩
  have R1 := Lib.hid (Rd.of_own ho1)
  have b1' : Below W.heap.size W w1 := ((Below.refl _ _).alloc (Nat.le_refl _) _).trans (hb1.mono (by simp))
  clear ho1 hb1
  go_wp2_with fail
  go_loop [8] (fun i => ∃ k : Nat, k ≤ 61 ∧ i = .int .i64 k) (fun i => 61 - (intOf i).toNat)
  case atStart => exact ⟨0, Nat.zero_le _, rfl⟩
  case round =>
    obtain ⟨k, hk, rfl⟩ := hrel
    by_cases hlt : (k : Int) ≤ 60
    · have hh := HAS.out k (by omega) hlt
      have HH := Lib.hid (fun w h => has_any A1 _ c1 sv k w w1.heap.size h smal)
      rw [hh] at HH
      have P0 := Lib.hid (fun w => iIsSweet (k : Int) a w)
      have P1 := Lib.hid (fun w => iIsSweet (k : Int) b w)
      clear hh
      cases hs1 : sweetB (k : Int) a
      · rw [hs1] at HH P0
        go_wp2_with (first | (with_reducible (go_at_call 31; refine (HH.out _ R1.out).mono ?_; rintro e w' ⟨rfl, rfl⟩)) | (with_reducible (go_at_call 13; refine (P0.out _).mono ?_; rintro e w' ⟨rfl, rfl⟩)))
        go_round
        case rel => exact ⟨k + 1, by omega, by go_num⟩
        case measure => simp [intOf]; omega
      · rw [hs1] at HH P0
        cases hs2 : sweetB (k : Int) b
        all_goals
          rw [hs2] at HH P1
          go_wp2_with (first | (with_reducible (go_at_call 31; refine (HH.out _ R1.out).mono ?_; rintro e w' ⟨rfl, rfl⟩)) | (with_reducible (go_at_call 13; refine (P0.out _).mono ?_; rintro e w' ⟨rfl, rfl⟩)) | (with_reducible (go_at_call 13; refine (P1.out _).mono ?_; rintro e w' ⟨rfl, rfl⟩)))
          go_round
          case rel => exact ⟨k + 1, by omega, by go_num⟩
          case measure => simp [intOf]; omega
    · obtain rfl : k = 61 := by omega
      clear HAS SF
      go_wp2_with fail
      refine (DrawTune_any _ _ _ _ _ ((R.out.below b1').more b1'.size) hn HBS.out).mono ?_
      rintro e w2 ⟨xs, hd, A2, c2, rfl, ho2, hb2⟩
      obtain ⟨N, hN⟩ : ∃ N, N = xs.length := ⟨_, rfl⟩
      rw [← hN] at ho2 ⊢
      obtain ⟨ht, h11, hdn⟩ := hd
      unfold drawnNote at hdn
      have hN2 : N ≤ 1048576 := by omega
      obtain ⟨us, hus⟩ : ∃ us, us = moveL xs 1 0 12 := ⟨_, rfl⟩
      have hut : tuneB us = true := by
        rw [hus]
        exact move_tune ht (by omega) fun p hp => by have := hdn p hp; omega
      have hul : us.length = N := by rw [hus, moveL_len, hN]
      have hzu : harshZ us = harshZ xs := by
        rw [hus]
        exact harsh_up ht (by rw [← hus]; exact hut) fun p hp => by have := hdn p hp; omega
      have hzx : harshZ xs = hAll xs N := by unfold harshZ; rw [if_pos ht, hN]
      rw [hzx] at hzu
      have CX := Lib.hid (fun w (h : Rd w w.heap.size 2 A2 N (pc xs)) => iHarsh A2 N c2 xs w h hN2 (own_capS ho2))
      rw [hzx] at CX
      have CU := Lib.hid (fun A3 c3 w (h : Rd w w.heap.size 2 A3 N (pc us)) (hc : N ≤ c3) => iHarsh A3 N c3 us w h hN2 hc)
      rw [hzu] at CU
      have CS := Lib.hid (fun w (h : Rd w w.heap.size 2 A2 N (pc xs)) => sHigher_yes A2 N c2 xs 12 w h ht (by rw [← hus]; exact hut) (by omega))
      unfold MadeT at CS
      rw [← hus, hul] at CS
      have HH := Lib.hid (fun k (hk : k ≤ N) => hAll_bd xs k (by omega))
      have HT := Lib.hid (fun k j (hk : k < N) (hj : j ≤ k) => (by have := hIn_bd xs k j; omega : 0 ≤ hIn xs k j ∧ hIn xs k j ≤ 40))
      have HNN := Lib.hid hN
      have b2 := b1'.trans (hb2.mono b1'.size)
      have t2 := own_base ho2 b1'.size
      have hN11 : (N : Int) ≤ 11 := by omega
      have b2s := b2.size
      clear hul hzu hzx hus hut hN ht h11 hdn ho2 hb2
      go_wp2_with fail
      refine (CX.out _ (Rd.of_own t2)).mono ?_
      rintro e w3 ⟨rfl, hb3⟩
      have t3 := own_below t2 hb3
      have b3 := b2.trans (hb3.mono b2s)
      clear t2 b2 hb3 b2s
      go_wp2_with fail
      refine (CS.out _ (Rd.of_own t3)).mono ?_
      rintro e w4 ⟨A3, c3, rfl, ho4, hb4⟩
      have u4 := own_base ho4 b3.size
      have t4 := own_below t3 hb4
      have b4 := b3.trans (hb4.mono b3.size)
      have b4s := b4.size
      have I5 : CI W A2 A3 c2 c3 N xs us w4.heap.size (w4.heap.size + 1) #[.int .i64 (r + 7), .int .i64 (r + 16), .int .i64 r, .int .i64 (r + 24)] #[.int .i64 r, .int .i64 (r + 3), .int .i64 (r + 7)]
          ((w4.alloc (.cells #[.int .i64 (r + 7), .int .i64 (r + 16), .int .i64 r, .int .i64 (r + 24)] 3)).alloc (.cells #[.int .i64 r, .int .i64 (r + 3), .int .i64 (r + 7)] 3)) := by
        refine ⟨(t4.alloc _).alloc _, (u4.alloc _).alloc _, (Blk.new w4 _ _).alloc _, ?_, (b4.alloc b4s _).alloc (by simp; omega) _⟩
        have := Blk.new (w4.alloc (.cells #[.int .i64 (r + 7), .int .i64 (r + 16), .int .i64 r, .int .i64 (r + 24)] 3)) 3 #[.int .i64 r, .int .i64 (r + 3), .int .i64 (r + 7)]
        simpa using this
      have HI5 := Lib.hid I5
      clear I5 u4 t4 b4 ho4 hb4 t3 b3 CS CX
      go_wp2_with fail
      go_loopw [15, 16] (fun s i wr => ∃ k : Nat, k ≤ N ∧ i = .int .i64 k ∧ s = .int .i64 (hAll xs k) ∧ CI W A2 A3 c2 c3 N xs us w4.heap.size (w4.heap.size + 1) #[.int .i64 (r + 7), .int .i64 (r + 16), .int .i64 r, .int .i64 (r + 24)] #[.int .i64 r, .int .i64 (r + 3), .int .i64 (r + 7)] wr) (fun _ i _ => N - (intOf i).toNat)
      case atStart => exact ⟨0, Nat.zero_le _, rfl, rfl, HI5.out⟩
      case round =>
        obtain ⟨k, hk, rfl, rfl, hI⟩ := hrel
        by_cases hlt : (k : Int) < N
        · have HI := Lib.hid hI
          clear hI
          have hS := HH.out k (by omega)
          obtain ⟨S, hSS⟩ : ∃ S, S = hAll xs k := ⟨_, rfl⟩
          rw [← hSS] at hS ⊢
          obtain ⟨S0, S1⟩ := hS
          have HSS := Lib.hid hSS
          clear hSS
          go_wp2_with fail
          go_loopw [15, 17] (fun s i wr => ∃ j : Nat, j ≤ k ∧ i = .int .i64 j ∧ s = .int .i64 (S + hIn xs k j) ∧ CI W A2 A3 c2 c3 N xs us w4.heap.size (w4.heap.size + 1) #[.int .i64 (r + 7), .int .i64 (r + 16), .int .i64 r, .int .i64 (r + 24)] #[.int .i64 r, .int .i64 (r + 3), .int .i64 (r + 7)] wr) (fun _ i _ => k - (intOf i).toNat)
          case atStart => exact ⟨0, Nat.zero_le _, rfl, by simp [hIn], HI.out⟩
          case round =>
            obtain ⟨j, hj, rfl, rfl, hJ⟩ := hrel
            have hT := HT.out k j (by omega) hj
            by_cases hjk : (j : Int) < k
            · obtain ⟨bb, o, rfl, _, hc⟩ := (Rd.of_own hJ.1).pairAt (by omega)
              obtain ⟨⟨x, y⟩, hx⟩ : ∃ p, xs[k]? = some p := ⟨_, List.getElem?_eq_getElem (by rw [← HNN.out]; omega)⟩
              obtain ⟨⟨x', y'⟩, hx'⟩ : ∃ p, xs[j]? = some p := ⟨_, List.getElem?_eq_getElem (by rw [← HNN.out]; omega)⟩
              obtain ⟨t0, t1⟩ := hc k _ hx
              obtain ⟨s0, s1⟩ := hc j _ hx'
              have hst : hIn xs k (j + 1) = hIn xs k j + oneH (x, y) (x', y') := by
                rw [show hIn xs k (j + 1) = hIn xs k j + oneH (xs.getD k (0, 0)) (xs.getD j (0, 0)) from rfl, getD_of hx, getD_of hx']
              have HST := Lib.hid hst
              have HJ := Lib.hid hJ
              generalize hIn xs k j = T at *
              obtain ⟨T0, T1⟩ := hT
              clear hx hx' hc hJ hst
              have PS := Lib.hid (fun w => iIsSweet y y' w)
              have w0 : IntKind.i64.wrap (S + T) = S + T := IntWalk.i64_in _ (by omega)
              have w1 : IntKind.i64.wrap (S + T + 1) = S + T + 1 := IntWalk.i64_in _ (by omega)
              by_cases hxx : x = x'
              · subst hxx
                cases hs : sweetB y y'
                · rw [hs] at PS
                  have h1 : oneH (x, y) (x, y') = 1 := by simp [oneH, harshB, hs]
                  rw [h1] at HST
                  clear h1 hs
                  go_wp2_with fail
                  go_quiet ((first | (go_at_call 13; exact quiet_t (PS.out _)) | (go_at_call 34; exact quiet_t (btoi_any true _))))
                  go_wp2_with fail
                  go_roundw
                  case rel => exact ⟨j + 1, by omega, by go_num, by rw [HST.out, ← Int.add_assoc], HJ.out.drewN _⟩
                  case measure => simp [intOf] <;> omega
                · rw [hs] at PS
                  have h1 : oneH (x, y) (x, y') = 0 := by simp [oneH, harshB, hs]
                  rw [h1, Int.add_zero] at HST
                  clear h1 hs
                  go_wp2_with fail
                  go_quiet ((first | (go_at_call 13; exact quiet_t (PS.out _)) | (go_at_call 34; exact quiet_t (btoi_any false _))))
                  go_wp2_with fail
                  go_roundw
                  case rel => exact ⟨j + 1, by omega, by go_num, by rw [HST.out], HJ.out.drewN _⟩
                  case measure => simp [intOf] <;> omega
              · have h1 : oneH (x, y) (x', y') = 0 := by simp [oneH, harshB, hxx]
                rw [h1, Int.add_zero] at HST
                have hxb : (x == x') = false := by simp [hxx]
                clear h1 hxx
                go_wp2_with fail
                go_quiet ((go_at_call 34; exact quiet_t (btoi_any false _)))
                go_wp2_with fail
                go_roundw
                case rel => exact ⟨j + 1, by omega, by go_num, by rw [HST.out], HJ.out.drewN _⟩
                case measure => simp [intOf] <;> omega
            · obtain rfl : j = k := by omega
              have HJ := Lib.hid hJ
              clear hJ
              go_wp2_with fail
              go_roundw
              case rel => exact ⟨j + 1, by omega, by go_num, by rw [HSS.out]; rfl, HJ.out⟩
              case measure => simp [intOf] <;> omega
        · obtain rfl : k = N := by omega
          have HI := Lib.hid hI
          clear hI HH HT HI5
          generalize hAll xs k = z at *
          go_wp2_with (first | (with_reducible (go_at_call 11; refine (D1.out _).mono ?_; rintro e w' ⟨rfl, rfl⟩)) | (with_reducible (go_at_call 11; refine (D2.out _).mono ?_; rintro e w' ⟨rfl, rfl⟩)) | (with_reducible (go_at_call 13; refine (S0.out _).mono ?_; rintro e w' ⟨rfl, rfl⟩)) | (with_reducible (go_at_call 13; refine (S1.out _).mono ?_; rintro e w' ⟨rfl, rfl⟩)) | (with_reducible (go_at_call 13; refine (S2.out _).mono ?_; rintro e w' ⟨rfl, rfl⟩)) | fail)
          refine (CH.out _ _ rfl).mono ?_
          rintro e w6 ⟨rfl, hb6⟩
          have I6 := Lib.hid ((HI.out.alloc _).step hb6)
          clear hb6
          go_wp2_with (first | (with_reducible (go_at_call 13; refine (S0.out _).mono ?_; rintro e w' ⟨rfl, rfl⟩)) | fail)
          refine (CU.out _ _ _ (Rd.of_own I6.out.2.1) (own_capS I6.out.2.1)).mono ?_
          rintro e w7 ⟨rfl, hb7⟩
          have I7 := Lib.hid (I6.out.step hb7)
          clear hb7
          go_wp2_with fail
          have K1 := iRootOf _ 4 4 [(r : Int) + 7, (r : Int) + 16, (r : Int), (r : Int) + 24] w7 (rd_blk I7.out.2.2.1 (by simp)) (by omega)
          rw [root_maj r r1] at K1
          refine K1.mono ?_
          rintro e w8 ⟨rfl, hb8⟩
          have I8 := Lib.hid (I7.out.step hb8)
          clear hb8 K1
          go_wp2_with fail
          have K1 := iRootOf _ 3 3 [(r : Int), (r : Int) + 3, (r : Int) + 7] w8 (rd_blk I8.out.2.2.2.1 (by simp)) (by omega)
          rw [root_min r r1] at K1
          refine K1.mono ?_
          rintro e w9 ⟨rfl, hb9⟩
          have I9 := Lib.hid (I8.out.step hb9)
          clear hb9 K1
          go_wp2_with fail
          have K1 := iIsChord _ 4 4 [(r : Int) + 7, (r : Int) + 16, (r : Int), (r : Int) + 24] w9 (rd_blk I9.out.2.2.1 (by simp)) (by omega) (by omega)
          rw [chord_maj r r1] at K1
          refine K1.mono ?_
          rintro e w10 ⟨rfl, hb10⟩
          have I10 := Lib.hid (I9.out.step hb10)
          clear hb10 K1
          go_wp2_with fail
          have K1 := iRootOf _ 2 2 [(r : Int), (r : Int) + 1] (w10.alloc (.cells #[.int .i64 r, .int .i64 (r + 1)] 3)) (rd_blk (Blk.new w10 _ _) (by simp)) (by omega)
          rw [root_none r r1] at K1
          refine K1.mono ?_
          rintro e w11 ⟨rfl, hb11⟩
          have I11 := Lib.hid ((I10.out.alloc _).step hb11)
          clear hb11 K1
          go_wp2
          go_ret
          exact ⟨by simp, I11.out.2.2.2.2⟩

end Go.Proofs.Yteidigbjllicpaa
