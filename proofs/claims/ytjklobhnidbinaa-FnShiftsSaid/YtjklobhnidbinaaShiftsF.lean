/-
  The law of shifts, walked: whatever the bytes, it gives true.
-/
import Derived.Test.YtjklobhnidbinaaDrawPair
import Derived.Test.YtjklobhnidbinaaShiftFact
import Derived.Test.YtjklobhnidbinaaPartAll
import Derived.Test.YtjklobhnidbinaaShiftAll
import Derived.Test.YtjklobhnidbinaaMergeAll
import Derived.Test.YtjklobhnidbinaaHoldsI
import Derived.Test.YtjklobhnidbinaaDisturb
import Derived.Test.YtjklobhnidbinaaCls
namespace Go.Proofs.Ytjklobhnidbinaa
open Go.RowKit

/-- a cylinder in a box of its own, and its pins -/
def Box (w : World) (g : Nat) (s t : Int) (A : Option Addr) (L c : Nat) (xs : List (Int × Int)) : Prop := Blk w g 28 #[.int .i64 s, .int .i64 t, .slice A L c] ∧ Rd w w.heap.size 2 A L (pc xs)
section
variable {w w' : World} {g L c : Nat} {s t : Int} {A : Option Addr} {xs : List (Int × Int)}
theorem Box.below (h : Box w g s t A L c xs) (hb : Below w.heap.size w w') : Box w' g s t A L c xs := ⟨h.1.below hb h.1.lt, (h.2.below hb).more hb.size⟩
theorem Box.alloc (h : Box w g s t A L c xs) (o : Obj) : Box (w.alloc o) g s t A L c xs := h.below ((Below.refl _ _).alloc (Nat.le_refl _) o)
theorem Box.drewN (h : Box w g s t A L c xs) (k : Nat) : Box (w.drewN k) g s t A L c xs := h
theorem Box.new (h : Rd w w.heap.size 2 A L (pc xs)) : Box (w.alloc (.cells #[.int .i64 s, .int .i64 t, .slice A L c] 28)) w.heap.size s t A L c xs := ⟨Blk.new _ _ _, (h.below ((Below.refl _ _).alloc (Nat.le_refl _) _)).more (by simp)⟩
theorem Box.c3 (h : Box w g s t A L c xs) : w.cell? ⟨g, 0, none⟩ = some (.int .i64 s) ∧ w.cell? ⟨g, 1, none⟩ = some (.int .i64 t) ∧ w.cell? ⟨g, 2, none⟩ = some (.slice A L c) := h.1.c3
end
theorem rdcs_two {w : World} {g t0 : Nat} {s t s' t' : Int} {A A' : Option Addr} {L c L' c' : Nat} {xs ys : List (Int × Int)} (h : Blk w g t0 #[.int .i64 s, .int .i64 t, .slice A L c, .int .i64 s', .int .i64 t', .slice A' L' c']) (hx : Rd w w.heap.size 2 A L (pc xs)) (hy : Rd w w.heap.size 2 A' L' (pc ys)) (hL : L ≤ c ∧ L ≤ 1048576) (hL' : L' ≤ c' ∧ L' ≤ 1048576) :
    RdCS w w.heap.size (some ⟨g, 0, none⟩) 2 [(A, c), (A', c')] [(s, t, xs), (s', t', ys)] := by
  have e1 := hx.pair
  have e2 := hy.pair
  refine ⟨rfl, rfl, fun _ => ⟨g, 0, rfl, h.lt, fun k u v h1 h2 => ?_⟩, fun k u v h1 h2 => ?_⟩
  · match k, h1, h2 with
    | 0, h1, h2 =>
      simp only [List.getElem?_cons_zero, Option.some.injEq] at h1 h2
      subst h1 h2
      exact ⟨h.cell 0, h.cell 1, by rw [e1]; exact h.cell 2⟩
    | 1, h1, h2 =>
      simp only [List.getElem?_cons_succ, List.getElem?_cons_zero, Option.some.injEq] at h1 h2
      subst h1 h2
      exact ⟨h.cell 3, h.cell 4, by rw [e2]; exact h.cell 5⟩
    | k + 2, h1, h2 => simp at h1
  · match k, h1, h2 with
    | 0, h1, h2 =>
      simp only [List.getElem?_cons_zero, Option.some.injEq] at h1 h2
      subst h1 h2
      exact ⟨by rw [e1]; exact hx, by rw [e1]; exact hL.1, by rw [e1]; exact hL.2⟩
    | 1, h1, h2 =>
      simp only [List.getElem?_cons_succ, List.getElem?_cons_zero, Option.some.injEq] at h1 h2
      subst h1 h2
      exact ⟨by rw [e2]; exact hy, by rw [e2]; exact hL'.1, by rw [e2]; exact hL'.2⟩
    | k + 2, h1, h2 => simp at h1

/-- what holds while the last region is walked -/
def ShInv (W : World) (gX gY gM gG : Nat) (s t sg tg : Int) (A1 A2 A3 A7 : Option Addr) (X Y M G c1 c2 c3 c7 : Nat) (xs ys m gl : List (Int × Int)) (w : World) : Prop :=
  Box w gX s t A1 X c1 xs ∧ Box w gY s t A2 Y c2 ys ∧ Box w gM s 100 A3 M c3 m ∧ Box w gG sg tg A7 G c7 gl ∧ Below W.heap.size W w
theorem ShInv.step {W : World} {gX gY gM gG : Nat} {s t sg tg : Int} {A1 A2 A3 A7 : Option Addr} {X Y M G c1 c2 c3 c7 : Nat} {xs ys m gl : List (Int × Int)} {w w' : World} (h : ShInv W gX gY gM gG s t sg tg A1 A2 A3 A7 X Y M G c1 c2 c3 c7 xs ys m gl w) (hb : Below w.heap.size w w') : ShInv W gX gY gM gG s t sg tg A1 A2 A3 A7 X Y M G c1 c2 c3 c7 xs ys m gl w' :=
  ⟨h.1.below hb, h.2.1.below hb, h.2.2.1.below hb, h.2.2.2.1.below hb, h.2.2.2.2.trans (hb.mono h.2.2.2.2.size)⟩

set_option maxHeartbeats 8000000 in
set_option maxRecDepth 100000 in
theorem fnShifts_walk (W : World) (A : Option Addr) (n c : Nat) (bs : List Int) (r : Rd W W.heap.size 1 A n (bs.map (Value.int .u8))) (_l : bs.length = n) (_nc : n ≤ c) (_nm : n ≤ 9223372036854775807)
    (wb : ∀ x ∈ bs, (Lit.int .u8 x).wf = true) :
    Calls Try.prog 7 #[.slice A n c] W fun e w' => e = .returned (.bool true) ∧ Below W.heap.size W w' := by
  have hbs : ∀ x ∈ bs, 0 ≤ x ∧ x ≤ 255 := fun x hx => bounds_u8 (wb x hx)
  have R := Lib.hid r
  have HBS := Lib.hid hbs
  clear r hbs wb
  by_cases hn : n ≤ 1048576
  case neg =>
    have hb : decide (1048576 < n) = true := by simp; omega
    go_enter Try.func7, Try.ntmps7
    go_wp2_with (go_at_call 25; refine (big_any _ _ _ _).mono ?_; rintro e w' ⟨rfl, rfl⟩; rw [hb])
    go_ret
    exact ⟨rfl, Below.refl _ _⟩
  have hb : decide (1048576 < n) = false := by simp; omega
  have HB := Lib.hid hb
  clear hb
  go_enter Try.func7, Try.ntmps7
  go_wp2_with fail
  refine (big_any _ _ _ _).mono ?_
  rintro e w' ⟨rfl, rfl⟩
  rw [HB.out]
  go_wp2_with fail
  refine (drawPair_any _ _ _ _ _ R.out hn HBS.out).mono ?_
  rintro e w1 ⟨s, t, xs, ys, A1, A2, c1, c2, rfl, hdx, hdy, ox, oy, hb1⟩
  obtain ⟨s0, s1, t0, t1, lx, cx⟩ := hdx
  obtain ⟨_, _, _, _, ly, cy⟩ := hdy
  obtain ⟨m, hm, cm, lm, P0, P1, P2⟩ := pair_facts cx cy t1 ⟨lx, ly⟩
  have MF := Lib.hid (merge_facts cx cy ⟨lx, ly⟩)
  have SF := Lib.hid (shift_facts cx t1)
  have CX := Lib.hid cx
  have CY := Lib.hid cy
  have CM := Lib.hid cm
  have HM := Lib.hid hm
  have Q0 := Lib.hid P0
  have Q1 := Lib.hid P1
  have Q2 := Lib.hid P2
  clear cx cy cm hm P0 P1 P2
  have RX1 := Rd.of_own ox
  have RY1 := Rd.of_own oy
  have kx := own_capS ox
  have ky := own_capS oy
  obtain ⟨X, hX⟩ : ∃ X, X = xs.length := ⟨_, rfl⟩
  obtain ⟨Y, hY⟩ : ∃ Y, Y = ys.length := ⟨_, rfl⟩
  rw [← hX] at RX1 kx lx lm ⊢
  rw [← hY] at RY1 ky ly lm ⊢
  have LX := Lib.hid hX
  have LY := Lib.hid hY
  have BW := Lib.hid hb1
  have zW := hb1.size
  have W1 : (w1.alloc (.cells #[.int .i64 s, .int .i64 t, .slice A1 X c1] 28)).heap.size = w1.heap.size + 1 := by simp
  have W2 : ((w1.alloc (.cells #[.int .i64 s, .int .i64 t, .slice A1 X c1] 28)).alloc (.cells #[.int .i64 s, .int .i64 t, .slice A2 Y c2] 28)).heap.size = w1.heap.size + 1 + 1 := by simp
  have RY2 : Rd (w1.alloc (.cells #[.int .i64 s, .int .i64 t, .slice A1 X c1] 28)) (w1.alloc (.cells #[.int .i64 s, .int .i64 t, .slice A1 X c1] 28)).heap.size 2 A2 Y (pc ys) := (RY1.alloc (Nat.le_refl _) _).more (by simp)
  have X2 := ((Box.new (s := s) (t := t) (c := c1) RX1).alloc (.cells #[.int .i64 s, .int .i64 t, .slice A2 Y c2] 28)).alloc (.cells #[.int .i64 s, .int .i64 t, .slice A1 X c1, .int .i64 s, .int .i64 t, .slice A2 Y c2] 28)
  have Y2 := (Box.new (s := s) (t := t) (c := c2) RY2).alloc (.cells #[.int .i64 s, .int .i64 t, .slice A1 X c1, .int .i64 s, .int .i64 t, .slice A2 Y c2] 28)
  rw [W1] at Y2
  have S2 := Blk.new ((w1.alloc (.cells #[.int .i64 s, .int .i64 t, .slice A1 X c1] 28)).alloc (.cells #[.int .i64 s, .int .i64 t, .slice A2 Y c2] 28)) 28 #[.int .i64 s, .int .i64 t, .slice A1 X c1, .int .i64 s, .int .i64 t, .slice A2 Y c2]
  rw [W2] at S2
  have H2 := iHolds (some ⟨w1.heap.size + 1 + 1, 0, none⟩) 2 2 _ _ 3 _ (rdcs_two S2 X2.2 Y2.2 ⟨kx, by omega⟩ ⟨ky, by omega⟩) (by omega)
  rw [HM.out] at H2
  have H3 := Lib.hid H2
  have B2 := Lib.hid (((BW.out.alloc zW (.cells #[.int .i64 s, .int .i64 t, .slice A1 X c1] 28)).alloc (by simp; omega) (.cells #[.int .i64 s, .int .i64 t, .slice A2 Y c2] 28)).alloc (by simp; omega) (.cells #[.int .i64 s, .int .i64 t, .slice A1 X c1, .int .i64 s, .int .i64 t, .slice A2 Y c2] 28))
  have BX := Lib.hid X2
  have BY := Lib.hid Y2
  clear ox oy hX hY hb1 RX1 RY1 RY2 X2 Y2 S2 H2 W1 W2 BW zW HM
  go_wp2_with fail
  refine H3.out.mono ?_
  rintro e w3 ⟨A3, c3, rfl, o3, hb3⟩
  obtain ⟨M, hM⟩ : ∃ M, M = m.length := ⟨_, rfl⟩
  simp only [cyS, cyT, cyP, Option.isSome_some] at o3 ⊢
  rw [← hM] at o3 lm ⊢
  have LM := Lib.hid lm
  have M18 : M ≤ 18 := by omega
  clear lm hM
  have BW := Lib.hid (B2.out.trans (hb3.mono B2.out.size))
  replace BX := Lib.hid (BX.out.below hb3)
  replace BY := Lib.hid (BY.out.below hb3)
  have zW := BW.out.size
  have BM := Lib.hid (Box.new (s := s) (t := 100) (c := c3) (Rd.of_own o3))
  replace BX := Lib.hid (BX.out.alloc (.cells #[.int .i64 s, .int .i64 100, .slice A3 M c3] 28))
  replace BY := Lib.hid (BY.out.alloc (.cells #[.int .i64 s, .int .i64 100, .slice A3 M c3] 28))
  replace BW := Lib.hid (BW.out.alloc zW (.cells #[.int .i64 s, .int .i64 100, .slice A3 M c3] 28))
  clear o3 hb3 zW
  have G0 := iPartAt_all s 100 A3 M c3 m 3 0 _ BM.out.2 (by omega)
  rw [Q0.out] at G0
  have G4 := Lib.hid G0
  clear G0
  go_wp2_with fail
  refine G4.out.mono ?_
  rintro e w4 ⟨A4, c4, rfl, o4, hb4⟩
  simp only [cyS, cyT, cyP, Option.isSome_some] at o4 ⊢
  rw [← LX.out] at o4 ⊢
  have zW := BW.out.size
  replace BW := Lib.hid (BW.out.trans (hb4.mono zW))
  clear zW G4
  replace BX := Lib.hid (BX.out.below hb4)
  replace BY := Lib.hid (BY.out.below hb4)
  replace BM := Lib.hid (BM.out.below hb4)
  have zW := BW.out.size
  have BP0 := Lib.hid (Box.new (s := s) (t := 34) (c := c4) (Rd.of_own o4))
  replace BX := Lib.hid (BX.out.alloc (.cells #[.int .i64 s, .int .i64 34, .slice A4 X c4] 28))
  replace BY := Lib.hid (BY.out.alloc (.cells #[.int .i64 s, .int .i64 34, .slice A4 X c4] 28))
  replace BM := Lib.hid (BM.out.alloc (.cells #[.int .i64 s, .int .i64 34, .slice A4 X c4] 28))
  replace BW := Lib.hid (BW.out.alloc zW (.cells #[.int .i64 s, .int .i64 34, .slice A4 X c4] 28))
  clear o4 hb4 zW
  have G0 := iPartAt_all s 100 A3 M c3 m 3 1 _ BM.out.2 (by omega)
  rw [Q1.out] at G0
  have G5 := Lib.hid G0
  clear G0
  obtain ⟨d0, d1, d2⟩ := BM.out.c3
  go_wp2_with fail
  refine G5.out.mono ?_
  rintro e w5 ⟨A5, c5, rfl, o5, hb5⟩
  simp only [cyS, cyT, cyP, Option.isSome_some] at o5 ⊢
  rw [← LY.out] at o5 ⊢
  clear d0 d1 d2
  have zW := BW.out.size
  replace BW := Lib.hid (BW.out.trans (hb5.mono zW))
  clear zW G5
  replace BX := Lib.hid (BX.out.below hb5)
  replace BY := Lib.hid (BY.out.below hb5)
  replace BM := Lib.hid (BM.out.below hb5)
  replace BP0 := Lib.hid (BP0.out.below hb5)
  have zW := BW.out.size
  have BP1 := Lib.hid (Box.new (s := s) (t := 34) (c := c5) (Rd.of_own o5))
  replace BX := Lib.hid (BX.out.alloc (.cells #[.int .i64 s, .int .i64 34, .slice A5 Y c5] 28))
  replace BY := Lib.hid (BY.out.alloc (.cells #[.int .i64 s, .int .i64 34, .slice A5 Y c5] 28))
  replace BM := Lib.hid (BM.out.alloc (.cells #[.int .i64 s, .int .i64 34, .slice A5 Y c5] 28))
  replace BP0 := Lib.hid (BP0.out.alloc (.cells #[.int .i64 s, .int .i64 34, .slice A5 Y c5] 28))
  replace BW := Lib.hid (BW.out.alloc zW (.cells #[.int .i64 s, .int .i64 34, .slice A5 Y c5] 28))
  clear o5 hb5 zW
  have G0 := iPartAt_all s 100 A3 M c3 m 3 2 _ BM.out.2 (by omega)
  rw [Q2.out] at G0
  have G6 := Lib.hid G0
  clear G0
  obtain ⟨d0, d1, d2⟩ := BM.out.c3
  go_wp2_with fail
  refine G6.out.mono ?_
  rintro e w6 ⟨A6, c6, rfl, o6, hb6⟩
  simp only [cyS, cyT, cyP, Option.isSome_some, List.length_nil] at o6 ⊢
  clear d0 d1 d2
  have zW := BW.out.size
  replace BW := Lib.hid (BW.out.trans (hb6.mono zW))
  clear zW G6
  replace BX := Lib.hid (BX.out.below hb6)
  replace BY := Lib.hid (BY.out.below hb6)
  replace BM := Lib.hid (BM.out.below hb6)
  replace BP0 := Lib.hid (BP0.out.below hb6)
  replace BP1 := Lib.hid (BP1.out.below hb6)
  have zW := BW.out.size
  have BP2 := Lib.hid (Box.new (s := s) (t := 34) (c := c6) (Rd.of_own o6))
  replace BX := Lib.hid (BX.out.alloc (.cells #[.int .i64 s, .int .i64 34, .slice A6 0 c6] 28))
  replace BY := Lib.hid (BY.out.alloc (.cells #[.int .i64 s, .int .i64 34, .slice A6 0 c6] 28))
  replace BM := Lib.hid (BM.out.alloc (.cells #[.int .i64 s, .int .i64 34, .slice A6 0 c6] 28))
  replace BP0 := Lib.hid (BP0.out.alloc (.cells #[.int .i64 s, .int .i64 34, .slice A6 0 c6] 28))
  replace BP1 := Lib.hid (BP1.out.alloc (.cells #[.int .i64 s, .int .i64 34, .slice A6 0 c6] 28))
  replace BW := Lib.hid (BW.out.alloc zW (.cells #[.int .i64 s, .int .i64 34, .slice A6 0 c6] 28))
  clear o6 hb6 zW
  obtain ⟨x0, x1, x2⟩ := BX.out.c3
  obtain ⟨y0, y1, y2⟩ := BY.out.c3
  obtain ⟨m0, m1, m2⟩ := BM.out.c3
  obtain ⟨p0, p1, p2⟩ := BP0.out.c3
  obtain ⟨q0, q1, q2⟩ := BP1.out.c3
  obtain ⟨r0, r1, r2⟩ := BP2.out.c3
  have hMi : (X : Int) + (Y : Int) = (M : Int) := by have := LM.out; omega
  go_wp2_with fail
  clear x0 x1 x2 y0 y1 y2 m0 m1 m2 p0 p1 p2 q0 q1 q2 r0 r1 r2 BP2
  go_loopw [13] (fun i wr => ∃ k : Nat, k ≤ X ∧ i = .int .i64 k ∧ Below W.heap.size W wr ∧ Box wr w1.heap.size s t A1 X c1 xs ∧ Box wr (w1.heap.size + 1) s t A2 Y c2 ys ∧ Box wr w3.heap.size s 100 A3 M c3 m ∧ Box wr w4.heap.size s 34 A4 X c4 xs ∧ Box wr w5.heap.size s 34 A5 Y c5 ys) (fun i _ => X - (intOf i).toNat)
  case atStart => exact ⟨0, Nat.zero_le _, rfl, BW.out, BX.out, BY.out, BM.out, BP0.out, BP1.out⟩
  case round =>
    obtain ⟨k, hk, rfl, rw_, rx, ry, rm, rp, rq⟩ := hrel
    have BW := Lib.hid rw_
    have BX := Lib.hid rx
    have BY := Lib.hid ry
    have BM := Lib.hid rm
    have BP0 := Lib.hid rp
    have BP1 := Lib.hid rq
    clear rw_ rx ry rm rp rq
    obtain ⟨u0, u1, u2⟩ := BX.out.c3
    obtain ⟨v0, v1, v2⟩ := BP0.out.c3
    by_cases hlt : (k : Int) < X
    · obtain ⟨b, o, hAe, hbB, hcell⟩ := BX.out.2.pairAt (by omega)
      obtain ⟨b', o', hAe', hbB', hcell'⟩ := BP0.out.2.pairAt (by omega)
      obtain ⟨⟨x, y⟩, hx⟩ : ∃ p, xs[k]? = some p := ⟨_, List.getElem?_eq_getElem (by rw [← LX.out]; omega)⟩
      obtain ⟨g0, g1⟩ := hcell k _ hx
      obtain ⟨g2, g3⟩ := hcell' k _ hx
      subst hAe hAe'
      clear hcell hcell' hx
      go_wp2
      go_quiet (fail)
      go_wp2
      go_roundw
      case rel => exact ⟨k + 1, by omega, by go_num, BW.out.trans (Go.Joins.below_draws _ _ _), BX.out.drewN _, BY.out.drewN _, BM.out.drewN _, BP0.out.drewN _, BP1.out.drewN _⟩
      case measure => simp [intOf] <;> omega
    · obtain rfl : X = k := by omega
      clear u0 u1 v0 v1 v2
      go_wp2_with fail
      obtain ⟨wo, rfl⟩ : ∃ wo : World, wo = wr := ⟨_, rfl⟩
      go_loopw [14] (fun i wr => ∃ k : Nat, k ≤ Y ∧ i = .int .i64 k ∧ Below W.heap.size W wr ∧ Box wr w1.heap.size s t A1 X c1 xs ∧ Box wr (w1.heap.size + 1) s t A2 Y c2 ys ∧ Box wr w3.heap.size s 100 A3 M c3 m ∧ Box wr w4.heap.size s 34 A4 X c4 xs ∧ Box wr w5.heap.size s 34 A5 Y c5 ys) (fun i _ => Y - (intOf i).toNat)
      case atStart => exact ⟨0, Nat.zero_le _, rfl, BW.out, BX.out, BY.out, BM.out, BP0.out, BP1.out⟩
      case round =>
        obtain ⟨k, hk, rfl, rw_, rx, ry, rm, rp, rq⟩ := hrel
        have BW := Lib.hid rw_
        have BX := Lib.hid rx
        have BY := Lib.hid ry
        have BM := Lib.hid rm
        have BP0 := Lib.hid rp
        have BP1 := Lib.hid rq
        clear rw_ rx ry rm rp rq
        obtain ⟨u0, u1, u2⟩ := BY.out.c3
        obtain ⟨v0, v1, v2⟩ := BP1.out.c3
        by_cases hlt : (k : Int) < Y
        · obtain ⟨b, o, hAe, hbB, hcell⟩ := BY.out.2.pairAt (by omega)
          obtain ⟨b', o', hAe', hbB', hcell'⟩ := BP1.out.2.pairAt (by omega)
          obtain ⟨⟨x, y⟩, hx⟩ : ∃ p, ys[k]? = some p := ⟨_, List.getElem?_eq_getElem (by rw [← LY.out]; omega)⟩
          obtain ⟨g0, g1⟩ := hcell k _ hx
          obtain ⟨g2, g3⟩ := hcell' k _ hx
          subst hAe hAe'
          clear hcell hcell' hx
          go_wp2
          go_quiet (fail)
          go_wp2
          go_roundw
          case rel => exact ⟨k + 1, by omega, by go_num, BW.out.trans (Go.Joins.below_draws _ _ _), BX.out.drewN _, BY.out.drewN _, BM.out.drewN _, BP0.out.drewN _, BP1.out.drewN _⟩
          case measure => simp [intOf] <;> omega
        · obtain rfl : Y = k := by omega
          clear u0 u1 u2 v0 v1 v2 BP0 BP1
          obtain ⟨x0, x1, x2⟩ := BX.out.c3
          obtain ⟨y0, y1, y2⟩ := BY.out.c3
          obtain ⟨D, hD⟩ : ∃ D, D = distL s 1 xs ys := ⟨_, rfl⟩
          obtain ⟨E, hE⟩ : ∃ E, E = distL s 3 xs ys := ⟨_, rfl⟩
          have hDE : D ≤ E := by rw [hD, hE]; exact dist_mono (by omega) xs ys
          have hE3 : E ≤ 81 := by
            rw [hE]
            have h1 := dist_le s 3 xs ys
            have h4 := Nat.mul_le_mul (show xs.length ≤ 9 by rw [← LX.out]; omega) (show ys.length ≤ 9 by rw [← LY.out]; omega)
            omega
          have mf := MF.out
          have gM := iMerge_all s t A1 X c1 xs s t A2 Y c2 ys _ BX.out.2 BY.out.2 (by omega) (by omega)
          have gL := mergeC_len s t xs s t ys
          rw [← hD, ← LX.out, ← LY.out] at mf
          unfold MadeCO at gM
          generalize mergeC s t xs s t ys = og at mf gM gL
          obtain ⟨mf1, mf2⟩ := mf
          rw [mf1] at gM
          generalize cyS og = sg at gM
          generalize cyT og = tg at gM
          generalize cyP og = gl at gM mf2 gL
          obtain ⟨G, hG⟩ : ∃ G, G = gl.length := ⟨_, rfl⟩
          rw [← hG] at gL mf2
          have GM := Lib.hid gM
          have MG := Lib.hid mf2
          have LG := Lib.hid hG
          have HD := Lib.hid hD
          have HE := Lib.hid hE
          clear gM mf1 mf2 hG hD hE
          go_wp2_with fail
          refine GM.out.mono ?_
          rintro e w7 ⟨A7, c7, rfl, o7, hb7⟩
          rw [← LG.out] at o7 ⊢
          clear x0 x1 x2 y0 y1 y2 GM
          have zW := BW.out.size
          replace BW := Lib.hid (BW.out.trans (hb7.mono zW))
          have zW := BW.out.size
          replace BX := Lib.hid (BX.out.below hb7)
          replace BY := Lib.hid (BY.out.below hb7)
          replace BM := Lib.hid (BM.out.below hb7)
          have BG := Lib.hid (Box.new (s := sg) (t := tg) (c := c7) (Rd.of_own o7))
          replace BW := Lib.hid (BW.out.alloc zW (.cells #[.int .i64 sg, .int .i64 tg, .slice A7 G c7] 28))
          replace BX := Lib.hid (BX.out.alloc (.cells #[.int .i64 sg, .int .i64 tg, .slice A7 G c7] 28))
          replace BY := Lib.hid (BY.out.alloc (.cells #[.int .i64 sg, .int .i64 tg, .slice A7 G c7] 28))
          replace BM := Lib.hid (BM.out.alloc (.cells #[.int .i64 sg, .int .i64 tg, .slice A7 G c7] 28))
          clear o7 hb7 zW
          obtain ⟨x0, x1, x2⟩ := BX.out.c3
          obtain ⟨y0, y1, y2⟩ := BY.out.c3
          have G8 := Lib.hid (iDisturbs s t A1 X c1 xs t A2 Y c2 ys 1 _ BX.out.2 BY.out.2 (by omega) (by omega) CX.out CY.out (by omega))
          go_wp2_with fail
          refine G8.out.mono ?_
          rintro e w8 ⟨rfl, hb8⟩
          rw [← HD.out]
          clear x0 x1 x2 y0 y1 y2 G8
          have zW := BW.out.size
          replace BW := Lib.hid (BW.out.trans (hb8.mono zW))
          replace BX := Lib.hid (BX.out.below hb8)
          replace BY := Lib.hid (BY.out.below hb8)
          replace BM := Lib.hid (BM.out.below hb8)
          replace BG := Lib.hid (BG.out.below hb8)
          clear hb8 zW
          obtain ⟨x0, x1, x2⟩ := BX.out.c3
          have G9 := iShiftedTracks_all s t A1 X c1 xs 2 1 _ BX.out.2 (by omega)
          rw [SF.out.1] at G9
          have H9 := Lib.hid G9
          clear G9
          go_wp2_with fail
          refine H9.out.mono ?_
          rintro e w9 ⟨A9, c9, rfl, o9, hb9⟩
          simp only [cyS, cyT, cyP, Option.isSome_some] at o9 ⊢
          rw [SF.out.2, ← LX.out] at o9 ⊢
          clear x0 x1 x2 H9
          have zW := BW.out.size
          replace BW := Lib.hid (BW.out.trans (hb9.mono zW))
          have zW := BW.out.size
          replace BX := Lib.hid (BX.out.below hb9)
          replace BY := Lib.hid (BY.out.below hb9)
          replace BM := Lib.hid (BM.out.below hb9)
          replace BG := Lib.hid (BG.out.below hb9)
          have BS := Lib.hid (Box.new (s := s) (t := 100) (c := c9) (Rd.of_own o9))
          replace BW := Lib.hid (BW.out.alloc zW (.cells #[.int .i64 s, .int .i64 100, .slice A9 X c9] 28))
          replace BX := Lib.hid (BX.out.alloc (.cells #[.int .i64 s, .int .i64 100, .slice A9 X c9] 28))
          replace BY := Lib.hid (BY.out.alloc (.cells #[.int .i64 s, .int .i64 100, .slice A9 X c9] 28))
          replace BM := Lib.hid (BM.out.alloc (.cells #[.int .i64 s, .int .i64 100, .slice A9 X c9] 28))
          replace BG := Lib.hid (BG.out.alloc (.cells #[.int .i64 s, .int .i64 100, .slice A9 X c9] 28))
          clear o9 hb9 zW
          obtain ⟨x0, x1, x2⟩ := BX.out.c3
          obtain ⟨z0, z1, z2⟩ := BS.out.c3
          go_wp2_with fail
          clear x0 x1 x2 z0 z1 z2
          obtain ⟨wo2, rfl⟩ : ∃ wo : World, wo = wr := ⟨_, rfl⟩
          go_loopw [20] (fun i wr => ∃ k : Nat, k ≤ X ∧ i = .int .i64 k ∧ Below W.heap.size W wr ∧ Box wr w1.heap.size s t A1 X c1 xs ∧ Box wr (w1.heap.size + 1) s t A2 Y c2 ys ∧ Box wr w3.heap.size s 100 A3 M c3 m ∧ Box wr w7.heap.size sg tg A7 G c7 gl ∧ Box wr w9.heap.size s 100 A9 X c9 (shiftL 2 1 xs)) (fun i _ => X - (intOf i).toNat)
          case atStart => exact ⟨0, Nat.zero_le _, rfl, BW.out, BX.out, BY.out, BM.out, BG.out, BS.out⟩
          case round =>
            clear BW BX BY BM BG BS
            obtain ⟨k, hk, rfl, rw_, rx, ry, rm, rp, rq⟩ := hrel
            have BW := Lib.hid rw_
            have BX := Lib.hid rx
            have BY := Lib.hid ry
            have BM := Lib.hid rm
            have BG := Lib.hid rp
            have BS := Lib.hid rq
            clear rw_ rx ry rm rp rq
            obtain ⟨u0, u1, u2⟩ := BX.out.c3
            obtain ⟨v0, v1, v2⟩ := BS.out.c3
            by_cases hlt : (k : Int) < X
            · obtain ⟨b, o, hAe, hbB, hcell⟩ := BX.out.2.pairAt (by omega)
              obtain ⟨b', o', hAe', hbB', hcell'⟩ := BS.out.2.pairAt (by omega)
              obtain ⟨⟨x, y⟩, hx⟩ : ∃ p, xs[k]? = some p := ⟨_, List.getElem?_eq_getElem (by rw [← LX.out]; omega)⟩
              obtain ⟨g0, g1⟩ := hcell k _ hx
              obtain ⟨g2, g3⟩ := hcell' k (shP 2 1 (x, y)) (by unfold shiftL; rw [List.getElem?_map, hx]; rfl)
              obtain ⟨q0, q1, _, _⟩ := pin_lo CX.out hx
              simp only [shP] at q0 q1 g0 g1 g2 g3
              obtain ⟨z, hz⟩ : ∃ z, z = x * 2 + 1 := ⟨_, rfl⟩
              rw [← hz] at g2
              have hz2 : 2 * x + 1 = z := by omega
              subst hAe hAe'
              clear hcell hcell' hx hz
              go_wp2
              go_quiet (fail)
              go_wp2
              go_roundw
              case rel => exact ⟨k + 1, by omega, by go_num, BW.out.trans (Go.Joins.below_draws _ _ _), BX.out.drewN _, BY.out.drewN _, BM.out.drewN _, BG.out.drewN _, BS.out.drewN _⟩
              case measure => simp [intOf] <;> omega
            · obtain rfl : X = k := by omega
              clear u0 u1 v0 v1
              go_wp2_with fail
              generalize w1.heap.size + 1 = gY at *
              generalize w1.heap.size = gX at *
              generalize w3.heap.size = gM at *
              generalize w7.heap.size = gG at *
              obtain ⟨inv, hinv⟩ : ∃ inv, inv = ShInv W gX gY gM gG s t sg tg A1 A2 A3 A7 X Y M G c1 c2 c3 c7 xs ys m gl := ⟨_, rfl⟩
              have hI : inv wr.drew := by
                rw [hinv]
                exact ⟨BX.out.drewN 1, BY.out.drewN 1, BM.out.drewN 1, BG.out.drewN 1, BW.out.drew⟩
              have C1 := Lib.hid (fun p : Cls inv => by
                have h : ShInv W gX gY gM gG s t sg tg A1 A2 A3 A7 X Y M G c1 c2 c3 c7 xs ys m gl p.w := by rw [← hinv]; exact p.h
                exact Calls.cls (Inv := inv) ((iDisturbs s t A2 Y c2 ys t A1 X c1 xs 3 p.w h.2.1.2 h.1.2 (by omega) (by omega) CY.out CX.out (by omega)).mono fun _ _ ⟨he, hb⟩ => ⟨he.trans (by rw [dist_comm, ← HE.out]), by rw [hinv]; exact h.step hb⟩))
              have C2 := Lib.hid (fun p : Cls inv => by
                have h : ShInv W gX gY gM gG s t sg tg A1 A2 A3 A7 X Y M G c1 c2 c3 c7 xs ys m gl p.w := by rw [← hinv]; exact p.h
                exact Calls.cls (Inv := inv) ((iDisturbs s t A1 X c1 xs t A2 Y c2 ys 3 p.w h.1.2 h.2.1.2 (by omega) (by omega) CX.out CY.out (by omega)).mono fun _ _ ⟨he, hb⟩ => ⟨he.trans (by rw [← HE.out]), by rw [hinv]; exact h.step hb⟩))
              have C3 := Lib.hid (fun p : Cls inv => by
                have h : ShInv W gX gY gM gG s t sg tg A1 A2 A3 A7 X Y M G c1 c2 c3 c7 xs ys m gl p.w := by rw [← hinv]; exact p.h
                exact Calls.cls (Inv := inv) ((iCylOk s 100 A3 M c3 m p.w h.2.2.1.2 (by omega)).mono fun _ _ ⟨he, hb⟩ => ⟨he.trans (by rw [CM.out]), by rw [hinv]; exact h.step hb⟩))
              have hE2 : ∀ p : Cls inv, ShInv W gX gY gM gG s t sg tg A1 A2 A3 A7 X Y M G c1 c2 c3 c7 xs ys m gl p.w := fun p => by rw [← hinv]; exact p.h
              have k0 := fun p : Cls inv => (hE2 p).1.c3.1
              have k1 := fun p : Cls inv => (hE2 p).1.c3.2.1
              have k2 := fun p : Cls inv => (hE2 p).1.c3.2.2
              have j0 := fun p : Cls inv => (hE2 p).2.1.c3.1
              have j1 := fun p : Cls inv => (hE2 p).2.1.c3.2.1
              have j2 := fun p : Cls inv => (hE2 p).2.1.c3.2.2
              have i0 := fun p : Cls inv => (hE2 p).2.2.1.c3.1
              have i1 := fun p : Cls inv => (hE2 p).2.2.1.c3.2.1
              have i2 := fun p : Cls inv => (hE2 p).2.2.1.c3.2.2
              have l2 := fun p : Cls inv => (hE2 p).2.2.2.1.c3.2.2
              have hend := Lib.hid (fun p : Cls inv => (hE2 p).2.2.2.2)
              have hDEi : (D : Int) ≤ E := by omega
              have hD0i : (0 : Int) ≤ D := by omega
              have hdec : decide (D = 0) = ((D : Int) == 0) := by
                by_cases h : D = 0
                · simp [h]
                · have : ¬ (D : Int) = 0 := by omega
                  simp [h]
              rw [hdec]
              by_cases h0 : D = 0
              case pos =>
                have hq : ((D : Int) == 0) = true := by simp [h0]
                have hGi : ((G : Int) == (M : Int)) = true := by have h1 := MG.out h0; have h2 := LM.out; simp; omega
                rw [hq]
                clear hdec h0 hE2 hinv u2 v2
                refine wp_region_cls (Inv := inv) (by kernel_rfl) (by kernel_rfl) hI ?_
                haveI : Nonempty (Cls inv) := ⟨⟨_, hI⟩⟩
                repeat (first | go_big_quiet_step ((first | (go_at_call 27; first | with_reducible exact C1.out _ | with_reducible exact C2.out _) | (go_at_call 28; with_reducible exact C3.out _))))
                refine wpQuiet_nil ?_
                rintro _ ⟨p, rfl⟩
                go_wp2
                go_ret
                exact ⟨rfl, hend.out p⟩
              case neg =>
                have hq : ((D : Int) == 0) = false := by simp; omega
                rw [hq]
                clear hdec h0 hE2 hinv u2 v2
                refine wp_region_cls (Inv := inv) (by kernel_rfl) (by kernel_rfl) hI ?_
                haveI : Nonempty (Cls inv) := ⟨⟨_, hI⟩⟩
                repeat (first | go_big_quiet_step ((first | (go_at_call 27; first | with_reducible exact C1.out _ | with_reducible exact C2.out _) | (go_at_call 28; with_reducible exact C3.out _))))
                refine wpQuiet_nil ?_
                rintro _ ⟨p, rfl⟩
                go_wp2
                go_ret
                exact ⟨rfl, hend.out p⟩

end Go.Proofs.Ytjklobhnidbinaa
