/-
  The law FnFiles, walked: files make a tooth higher and lower by fixed steps, and the fewest files reach the tone. True for all bytes.
-/
import Derived.Test.YtbgoednppihboaaToothLaws
import Derived.Test.YtbgoednppihboaaDrawTooth
import Derived.Test.YtbgoednppihboaaAt
import Derived.Deep.DeepCutAuto
namespace Go.Proofs.Ytbgoednppihboaa
open Go.RowKit

/-! ### Plain facts -/
theorem steps_want {z t r g a b x y : Int} {ok : Bool} (h : StepsToOf z t r g x y ok) (ht : tooB z t r = true) (hg : 0 ≤ g ∧ g ≤ 6000) (ha : 0 ≤ a ∧ a ≤ t) (hb : 0 ≤ b ∧ b ≤ r) (e : z + 7 * a - 11 * b = g) :
    ok = true ∧ 0 ≤ x ∧ x ≤ t ∧ 0 ≤ y ∧ y ≤ r ∧ z + 7 * x - 11 * y = g ∧ x + y ≤ a + b := by
  unfold StepsToOf at h
  rw [if_pos ⟨ht, hg.1, hg.2⟩] at h
  rcases h with ⟨rfl, h1, h2, h3, h4, h5, h6⟩ | ⟨rfl, rfl, rfl, h6⟩
  · exact ⟨rfl, h1, h2, h3, h4, h5, h6 a b ha.1 ha.2 hb.1 hb.2 e⟩
  · exact absurd e (h6 a b ha.1 ha.2 hb.1 hb.2)
theorem steps_reach {z t r g x y : Int} {ok : Bool} (h : StepsToOf z t r g x y ok) (ht : tooB z t r = true) (hc : canBe z t r g) : ok = true := by
  obtain ⟨h0, h1, a, b, a0, a1, b0, b1, e⟩ := hc
  exact (steps_want h ht ⟨h0, h1⟩ ⟨a0, a1⟩ ⟨b0, b1⟩ e.symm).1
theorem closest_is {z t r g c : Int} (h : ClosestOf z t r g c) (ht : tooB z t r = true) (hg : 0 ≤ g ∧ g ≤ 6000) : ClosestIs z t r g c := by
  unfold ClosestOf at h
  rwa [if_pos ⟨ht, hg.1, hg.2⟩] at h
theorem closest_self {z t r g c : Int} (h : ClosestIs z t r g c) (hc : canBe z t r g) : c = g := by
  have := h.2 g hc
  unfold better at this
  omega
theorem closest_exact {z t r g c x y : Int} {ok : Bool} (h : ClosestIs z t r g c) (hs : StepsToOf z t r g x y ok) (ht : tooB z t r = true) (hg : 0 ≤ g ∧ g ≤ 6000) : ok = decide (c = g) := by
  cases ok with
  | true =>
    unfold StepsToOf at hs
    rw [if_pos ⟨ht, hg.1, hg.2⟩] at hs
    rcases hs with ⟨_, h1, h2, h3, h4, h5, _⟩ | ⟨h0, _⟩
    · have : canBe z t r g := ⟨hg.1, hg.2, x, y, h1, h2, h3, h4, h5.symm⟩
      simp [closest_self h this]
    · cases h0
  | false =>
    by_cases e : c = g
    · subst e
      have := steps_reach hs ht h.1
      cases this
    · simp [e]

theorem tip_d {z t r : Int} (h : drawnTooth z t r) (w : World) : Calls Try.prog 13 #[.agg #[.int .i64 z, .int .i64 t, .int .i64 r]] w fun e w' =>
    ∃ (u v x : Int) (q : Bool), e = .returned (.tuple #[.agg #[.int .i64 u, .int .i64 v, .int .i64 x], .bool q]) ∧ ((0 < t ∧ q = true ∧ u = z + 7 ∧ v = t - 1) ∨ (t = 0 ∧ q = false)) ∧ Below w.heap.size w w' := by
  unfold drawnTooth at h
  have hb : tooB z t r = true := tooB_iff.2 (by omega)
  refine (iFileTip z t r w).mono fun e w' ⟨he, hw⟩ => ?_
  by_cases h0 : 0 < t
  · rw [show TipT z t r = (z + 7, t - 1, r, true) by unfold TipT; rw [if_pos ((tip_iff hb).2 (by omega))]] at he
    exact ⟨_, _, _, _, he, Or.inl ⟨h0, rfl, rfl, rfl⟩, hw⟩
  · rw [show TipT z t r = (z, t, r, false) by unfold TipT; rw [if_neg (fun k => by have := (tip_iff hb).1 k; omega)]] at he
    exact ⟨_, _, _, _, he, Or.inr ⟨by omega, rfl⟩, hw⟩
theorem root_d {z t r : Int} (h : drawnTooth z t r) (w : World) : Calls Try.prog 16 #[.agg #[.int .i64 z, .int .i64 t, .int .i64 r]] w fun e w' =>
    ∃ (u v x : Int) (q : Bool), e = .returned (.tuple #[.agg #[.int .i64 u, .int .i64 v, .int .i64 x], .bool q]) ∧ ((0 < r ∧ q = true ∧ u = z - 11 ∧ x = r - 1) ∨ (r = 0 ∧ q = false)) ∧ Below w.heap.size w w' := by
  unfold drawnTooth at h
  have hb : tooB z t r = true := tooB_iff.2 (by omega)
  refine (iFileRoot z t r w).mono fun e w' ⟨he, hw⟩ => ?_
  by_cases h0 : 0 < r
  · rw [show RootT z t r = (z - 11, t, r - 1, true) by unfold RootT; rw [if_pos ((root_iff hb).2 (by omega))]] at he
    exact ⟨_, _, _, _, he, Or.inl ⟨h0, rfl, rfl, rfl⟩, hw⟩
  · rw [show RootT z t r = (z, t, r, false) by unfold RootT; rw [if_neg (fun k => by have := (root_iff hb).1 k; omega)]] at he
    exact ⟨_, _, _, _, he, Or.inr ⟨by omega, rfl⟩, hw⟩

theorem at_q {k : Nat} (A : Option Addr) (n c : Nat) (bs : List Int) (i : Int) (w : World) (B : Nat) (h : Rd w B 1 A n (bs.map (Value.int .u8))) (hbs : ∀ x ∈ bs, 0 ≤ x ∧ x ≤ 255) (hn : n ≤ 1048576) (hi0 : 0 ≤ i) (hi : i ≤ 1000) :
    Calls Try.prog 23 #[.slice A n c, .int .i64 i] (w.drewN k) fun e w' => e = .returned (.int .i64 (atZ bs i)) ∧ ∃ m, w' = w.drewN m :=
  (at_is A n c bs i (w.drewN k) B (h.keep fun _ _ => rfl) hbs hn hi0 hi).mono fun _ _ ⟨he, hw⟩ => ⟨he, k, hw.symm⟩

set_option maxHeartbeats 8000000 in
set_option maxRecDepth 100000 in
theorem fnFiles_walk (W : World) (A : Option Addr) (n c : Nat) (bs : List Int) (r : Rd W W.heap.size 1 A n (bs.map (Value.int .u8))) (_l : bs.length = n) (_nc : n ≤ c) (_nm : n ≤ 9223372036854775807)
    (wb : ∀ x ∈ bs, (Lit.int .u8 x).wf = true) :
    Calls Try.prog 8 #[.slice A n c] W fun e w' => e = .returned (.bool true) ∧ Below W.heap.size W w' := by
  have hbs : ∀ x ∈ bs, 0 ≤ x ∧ x ≤ 255 := fun x hx => bounds_u8 (wb x hx)
  have R := Lib.hid r
  have HBS := Lib.hid hbs
  clear r hbs wb
  by_cases hn : n ≤ 1048576
  case neg =>
    have hb : decide (1048576 < n) = true := by simp; omega
    go_enter Try.func8, Try.ntmps8
    go_wp2_with (go_at_call 21; refine (big_any _ _ _ _).mono ?_; rintro e w' ⟨rfl, rfl⟩; rw [hb])
    go_ret
    exact ⟨rfl, Below.refl _ _⟩
  have hb : decide (1048576 < n) = false := by simp; omega
  have HB := Lib.hid hb
  clear hb
  go_enter Try.func8, Try.ntmps8
  go_wp2_with fail
  refine (big_any _ _ _ _).mono ?_
  rintro e w' ⟨rfl, rfl⟩
  rw [HB.out]
  go_wp2_with fail
  refine (DrawTooth_any _ _ _ _ _ R.out hn HBS.out).mono ?_
  rintro e w1 ⟨z, t, r, rfl, hd, hb1⟩
  have hsz1 := hb1.size
  have b1 : Below W.heap.size W (w1.alloc (.cells #[.int .i64 z, .int .i64 t, .int .i64 r] 25)) := hb1.alloc hsz1 _
  have s1 := Blk.new w1 25 #[.int .i64 z, .int .i64 t, .int .i64 r]
  have HD := Lib.hid hd
  unfold drawnTooth at hd
  obtain ⟨z0, z1, t0, t1, r0, r1⟩ := hd
  obtain ⟨k0, k1, k2⟩ := s1.c3
  go_wp2_with fail
  refine (tip_d HD.out _).mono ?_
  rintro e w2 ⟨u, v, x, one, rfl, h1, hb2⟩
  have z2 := hb2.size
  simp at z2
  have s2 := s1.below hb2 (by simp)
  have b2 := b1.trans (hb2.mono (by simp; omega))
  obtain ⟨k0, k1, k2⟩ := s2.c3
  have l2 := s2.lt
  clear s1 b1
  go_wp2_with fail
  refine (root_d HD.out _).mono ?_
  rintro e w3 ⟨u', v', x', two, rfl, h2, hb3⟩
  have s3 := (s2.alloc (.cells #[.int .i64 u, .int .i64 v, .int .i64 x] 25)).below hb3 (by simp; omega)
  have p3 := (Blk.new w2 25 #[.int .i64 u, .int .i64 v, .int .i64 x]).below hb3 (by simp)
  have b3 := (b2.alloc b2.size (.cells #[.int .i64 u, .int .i64 v, .int .i64 x] 25)).trans (hb3.mono (by have := b2.size; simp; omega))
  have S3 := Lib.hid s3
  have P3 := Lib.hid p3
  have B3 := Lib.hid b3
  have l3 := s3.lt
  have m3 := p3.lt
  clear s2 b2 hb2 hb3 k0 k1 k2 s3 p3 b3
  obtain ⟨k0, k1, k2⟩ := S3.out.c3
  obtain ⟨j0, j1, j2⟩ := P3.out.c3
  have Q3 := Lib.hid (Blk.new w3 25 #[.int .i64 u', .int .i64 v', .int .i64 x'])
  have H1 := Lib.hid h1
  have H2 := Lib.hid h2
  clear h1 h2
  go_upto_region 6 with fail
  go_cut [87] (fun s wx => s = .bool false ∧ wx = w3.alloc (.cells #[.int .i64 u', .int .i64 v', .int .i64 x'] 25))
  case first =>
    rcases H1.out with ⟨t2, rfl, rfl, rfl⟩ | ⟨rfl, rfl⟩
    all_goals rcases H2.out with ⟨r2, rfl, rfl, rfl⟩ | ⟨rfl, rfl⟩
    all_goals
      clear H1 H2
      go_wp2
      go_meet
      exact ⟨rfl, rfl⟩
  case rest =>
    obtain ⟨rfl, rfl⟩ := hcut
    obtain ⟨w4, hw4⟩ : ∃ w4, w4 = w3.alloc (.cells #[.int .i64 u', .int .i64 v', .int .i64 x'] 25) := ⟨_, rfl⟩
    have b4 : Below W.heap.size W w4 := by rw [hw4]; exact B3.out.alloc B3.out.size _
    have s4 : Blk w4 w1.heap.size 25 #[.int .i64 z, .int .i64 t, .int .i64 r] := by rw [hw4]; exact S3.out.alloc _
    rw [← hw4]
    clear hw4 k0 k1 k2 j0 j1 j2 l3 m3 H1 H2 S3 P3 Q3 B3
    obtain ⟨k0, k1, k2⟩ := s4.c3
    have A0 := atZ_bd HBS.out 0
    have A1 := atZ_bd HBS.out 1
    have A2 := atZ_bd HBS.out 2
    have Q0 := Lib.hid (fun k w (hb : Below W.heap.size W w) => at_q (k := k) A n c bs 0 w W.heap.size (R.out.below hb) HBS.out hn (by omega) (by omega))
    have Q1 := Lib.hid (fun k w (hb : Below W.heap.size W w) => at_q (k := k) A n c bs 1 w W.heap.size (R.out.below hb) HBS.out hn (by omega) (by omega))
    have Q2 := Lib.hid (fun k w (hb : Below W.heap.size W w) => at_q (k := k) A n c bs 2 w W.heap.size (R.out.below hb) HBS.out hn (by omega) (by omega))
    generalize atZ bs 0 = a0 at *
    generalize atZ bs 1 = a1 at *
    generalize atZ bs 2 = a2 at *
    obtain ⟨A00, A01⟩ := A0
    obtain ⟨A10, A11⟩ := A1
    obtain ⟨A20, A21⟩ := A2
    have ma0 := Int.emod_nonneg a0 (show t + 1 ≠ 0 by omega)
    have ma1 := Int.emod_lt_of_pos a0 (show 0 < t + 1 by omega)
    have mb0 := Int.emod_nonneg a1 (show r + 1 ≠ 0 by omega)
    have mb1 := Int.emod_lt_of_pos a1 (show 0 < r + 1 by omega)
    go_wp2_with fail
    go_quiet ((go_at_call 23; exact Q0.out _ _ b4))
    obtain ⟨w5, hw5⟩ : ∃ w, w = w4.drewN nq := ⟨_, rfl⟩
    have s5 : Blk w5 w1.heap.size 25 #[.int .i64 z, .int .i64 t, .int .i64 r] := by rw [hw5]; exact s4
    have b5 : Below W.heap.size W w5 := by rw [hw5]; exact b4.trans (Go.Joins.below_draws _ _ _)
    rw [← hw5]
    clear hw5 k0 k1 k2 s4 b4
    obtain ⟨k0, k1, k2⟩ := s5.c3
    generalize a0 % (t + 1) = a at *
    go_wp2_with fail
    go_quiet ((go_at_call 23; exact Q1.out _ _ b5))
    obtain ⟨w6, hw6⟩ : ∃ w, w = w5.drewN nq := ⟨_, rfl⟩
    have s6 : Blk w6 w1.heap.size 25 #[.int .i64 z, .int .i64 t, .int .i64 r] := by rw [hw6]; exact s5
    have b6 : Below W.heap.size W w6 := by rw [hw6]; exact b5.trans (Go.Joins.below_draws _ _ _)
    rw [← hw6]
    clear hw6 k0 k1 k2 s5 b5
    obtain ⟨k0, k1, k2⟩ := s6.c3
    generalize a1 % (r + 1) = b at *
    clear Q0 Q1 A00 A01 A10 A11
    obtain ⟨g, hg⟩ : ∃ g, g = z + 7 * a - 11 * b := ⟨_, rfl⟩
    have g0 : 0 ≤ g ∧ g ≤ 6000 := by omega
    have HG := Lib.hid hg
    have ht : tooB z t r = true := tooB_iff.2 (by omega)
    have HT := Lib.hid ht
    have hcan : canBe z t r g := ⟨g0.1, g0.2, a, b, ma0, by omega, mb0, by omega, hg⟩
    have CAN := Lib.hid hcan
    clear hg ht hcan
    go_wp2_with fail
    rw [← HG.out]
    refine (iStepsTo _ _ _ _ _).mono ?_
    rintro e w7 ⟨x, y, ok, rfl, hst, hb7⟩
    obtain ⟨rfl, xx0, xx1, yy0, yy1, hxy, hle⟩ := steps_want hst HT.out g0 ⟨ma0, by omega⟩ ⟨mb0, by omega⟩ HG.out.symm
    clear hst
    have s7 := s6.below hb7 s6.lt
    have b7 := b6.trans (hb7.mono b6.size)
    clear k0 k1 k2 s6 b6 hb7
    obtain ⟨k0, k1, k2⟩ := s7.c3
    have hxe : (z + 7 * x - 11 * y == g) = true := by simp [hxy]
    have HXY := Lib.hid hxy
    clear hxy
    go_wp2_with fail
    refine (iClosestTone _ _ _ _ _).mono ?_
    rintro e w8 ⟨cc, rfl, hcl, hb8⟩
    have hcg := closest_self (closest_is hcl HT.out g0) CAN.out
    clear hcl
    subst hcg
    have s8 := s7.below hb8 s7.lt
    have b8 := b7.trans (hb8.mono b7.size)
    clear k0 k1 k2 s7 b7 hb8
    obtain ⟨k0, k1, k2⟩ := s8.c3
    go_wp2_with fail
    go_quiet ((go_at_call 23; exact Q2.out _ _ b8))
    obtain ⟨w9, hw9⟩ : ∃ w, w = w8.drewN nq := ⟨_, rfl⟩
    have s9 : Blk w9 w1.heap.size 25 #[.int .i64 z, .int .i64 t, .int .i64 r] := by rw [hw9]; exact s8
    have b9 : Below W.heap.size W w9 := by rw [hw9]; exact b8.trans (Go.Joins.below_draws _ _ _)
    rw [← hw9]
    clear hw9 k0 k1 k2 s8 b8
    obtain ⟨k0, k1, k2⟩ := s9.c3
    obtain ⟨p, hp⟩ : ∃ p, p = z + a2 % 60 - 30 := ⟨_, rfl⟩
    have p0 : 0 ≤ p ∧ p ≤ 6000 := by omega
    have HP := Lib.hid hp
    clear hp Q2
    go_wp2_with fail
    rw [← HP.out]
    refine (iClosestTone _ _ _ _ _).mono ?_
    rintro e w10 ⟨cl, rfl, hcl, hb10⟩
    have hci := closest_is hcl HT.out p0
    have HCI := Lib.hid hci
    have hbet := hci.2 cc CAN.out
    unfold better at hbet
    have hcl0 := hci.1.1
    have hcl1 := hci.1.2.1
    obtain ⟨p0, p1⟩ := p0
    clear hcl hci
    have s10 := s9.below hb10 s9.lt
    have b10 := b9.trans (hb10.mono b9.size)
    clear k0 k1 k2 s9 b9 hb10
    obtain ⟨k0, k1, k2⟩ := s10.c3
    go_wp2_with fail
    refine (iStepsTo _ _ _ _ _).mono ?_
    rintro e w11 ⟨x3, y3, ok3, rfl, hst3, hb11⟩
    obtain rfl := steps_reach hst3 HT.out HCI.out.1
    clear hst3
    have s11 := s10.below hb11 s10.lt
    have b11 := b10.trans (hb11.mono b10.size)
    clear k0 k1 k2 s10 b10 hb11
    obtain ⟨k0, k1, k2⟩ := s11.c3
    by_cases hcp : cl = p
    · subst hcp
      have d0 : ¬ cl - cl < cl - cl := by omega
      by_cases h2 : cc - cl < cl - cc
      case pos =>
        have de : 0 ≤ cl - cc := by omega
        clear hbet
        go_wp2_with fail
        refine (iStepsTo _ _ _ _ _).mono ?_
        rintro e w12 ⟨x4, y4, ok4, rfl, hst4, hb12⟩
        have hok := closest_exact HCI.out hst4 HT.out (by omega)
        rw [decide_eq_true rfl] at hok
        subst hok
        clear hst4
        have s12 := s11.below hb12 s11.lt
        have b12 := b11.trans (hb12.mono b11.size)
        clear k0 k1 k2 s11 b11 hb12
        obtain ⟨k0, k1, k2⟩ := s12.c3
        go_wp2_with fail
        refine (iToothOk _ _ _ _).mono ?_
        rintro e w13 ⟨rfl, hb13⟩
        rw [HT.out]
        go_wp2
        go_ret
        exact ⟨rfl, b12.trans (hb13.mono b12.size)⟩
      case neg =>
        have de : 0 ≤ cc - cl := by omega
        clear hbet
        go_wp2_with fail
        refine (iStepsTo _ _ _ _ _).mono ?_
        rintro e w12 ⟨x4, y4, ok4, rfl, hst4, hb12⟩
        have hok := closest_exact HCI.out hst4 HT.out (by omega)
        rw [decide_eq_true rfl] at hok
        subst hok
        clear hst4
        have s12 := s11.below hb12 s11.lt
        have b12 := b11.trans (hb12.mono b11.size)
        clear k0 k1 k2 s11 b11 hb12
        obtain ⟨k0, k1, k2⟩ := s12.c3
        go_wp2_with fail
        refine (iToothOk _ _ _ _).mono ?_
        rintro e w13 ⟨rfl, hb13⟩
        rw [HT.out]
        go_wp2
        go_ret
        exact ⟨rfl, b12.trans (hb13.mono b12.size)⟩
    · by_cases h1 : cl - p < p - cl
      case pos =>
        by_cases h2 : cc - p < p - cc
        case pos =>
          have de : p - cl ≤ p - cc := by omega
          have dz : (p - cl == 0) = false := by simp; omega
          clear hbet
          go_wp2_with fail
          refine (iStepsTo _ _ _ _ _).mono ?_
          rintro e w12 ⟨x4, y4, ok4, rfl, hst4, hb12⟩
          have hok := closest_exact HCI.out hst4 HT.out (by omega)
          rw [decide_eq_false hcp] at hok
          subst hok
          clear hst4
          have s12 := s11.below hb12 s11.lt
          have b12 := b11.trans (hb12.mono b11.size)
          clear k0 k1 k2 s11 b11 hb12
          obtain ⟨k0, k1, k2⟩ := s12.c3
          go_wp2_with fail
          refine (iToothOk _ _ _ _).mono ?_
          rintro e w13 ⟨rfl, hb13⟩
          rw [HT.out]
          go_wp2
          go_ret
          exact ⟨rfl, b12.trans (hb13.mono b12.size)⟩
        case neg =>
          have de : p - cl ≤ cc - p := by omega
          have dz : (p - cl == 0) = false := by simp; omega
          clear hbet
          go_wp2_with fail
          refine (iStepsTo _ _ _ _ _).mono ?_
          rintro e w12 ⟨x4, y4, ok4, rfl, hst4, hb12⟩
          have hok := closest_exact HCI.out hst4 HT.out (by omega)
          rw [decide_eq_false hcp] at hok
          subst hok
          clear hst4
          have s12 := s11.below hb12 s11.lt
          have b12 := b11.trans (hb12.mono b11.size)
          clear k0 k1 k2 s11 b11 hb12
          obtain ⟨k0, k1, k2⟩ := s12.c3
          go_wp2_with fail
          refine (iToothOk _ _ _ _).mono ?_
          rintro e w13 ⟨rfl, hb13⟩
          rw [HT.out]
          go_wp2
          go_ret
          exact ⟨rfl, b12.trans (hb13.mono b12.size)⟩
      case neg =>
        by_cases h2 : cc - p < p - cc
        case pos =>
          have de : cl - p ≤ p - cc := by omega
          have dz : (cl - p == 0) = false := by simp; omega
          clear hbet
          go_wp2_with fail
          refine (iStepsTo _ _ _ _ _).mono ?_
          rintro e w12 ⟨x4, y4, ok4, rfl, hst4, hb12⟩
          have hok := closest_exact HCI.out hst4 HT.out (by omega)
          rw [decide_eq_false hcp] at hok
          subst hok
          clear hst4
          have s12 := s11.below hb12 s11.lt
          have b12 := b11.trans (hb12.mono b11.size)
          clear k0 k1 k2 s11 b11 hb12
          obtain ⟨k0, k1, k2⟩ := s12.c3
          go_wp2_with fail
          refine (iToothOk _ _ _ _).mono ?_
          rintro e w13 ⟨rfl, hb13⟩
          rw [HT.out]
          go_wp2
          go_ret
          exact ⟨rfl, b12.trans (hb13.mono b12.size)⟩
        case neg =>
          have de : cl - p ≤ cc - p := by omega
          have dz : (cl - p == 0) = false := by simp; omega
          clear hbet
          go_wp2_with fail
          refine (iStepsTo _ _ _ _ _).mono ?_
          rintro e w12 ⟨x4, y4, ok4, rfl, hst4, hb12⟩
          have hok := closest_exact HCI.out hst4 HT.out (by omega)
          rw [decide_eq_false hcp] at hok
          subst hok
          clear hst4
          have s12 := s11.below hb12 s11.lt
          have b12 := b11.trans (hb12.mono b11.size)
          clear k0 k1 k2 s11 b11 hb12
          obtain ⟨k0, k1, k2⟩ := s12.c3
          go_wp2_with fail
          refine (iToothOk _ _ _ _).mono ?_
          rintro e w13 ⟨rfl, hb13⟩
          rw [HT.out]
          go_wp2
          go_ret
          exact ⟨rfl, b12.trans (hb13.mono b12.size)⟩
end Go.Proofs.Ytbgoednppihboaa
