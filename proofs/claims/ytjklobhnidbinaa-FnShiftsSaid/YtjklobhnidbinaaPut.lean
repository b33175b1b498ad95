/-
  The reference's l06Put: one pin put into an ascending list at its place, if it is not there; and a copy of a cylinder. A list of at most 1000 pins.
-/
import Derived.Test.YtjklobhnidbinaaRowPin
import Derived.Test.YtjklobhnidbinaaCylOk
import Derived.Test.YtjklobhnidbinaaShiftMath
import Derived.Deep.RegionHeld3
namespace Go.Proofs.Ytjklobhnidbinaa
open Go.RowKit

theorem blk_drewP {w : World} {g : Nat} {t : TypeId} {cs : Array Value} (h : Blk w g t cs) : Blk w.drew g t cs := h
theorem pc_takeP : ∀ (l : List (Int × Int)) (j : Nat), pc (l.take j) = (pc l).take (j * 2)
  | [], j => by simp [pc]
  | p :: l, 0 => by simp [pc]
  | p :: l, j + 1 => by
    rw [List.take_succ_cons, show (j + 1) * 2 = j * 2 + 1 + 1 by omega]
    simp [pc, pc_takeP l j]
theorem pc_dropP : ∀ (l : List (Int × Int)) (j : Nat), pc (l.drop j) = (pc l).drop (j * 2)
  | [], j => by simp [pc]
  | p :: l, 0 => by simp
  | p :: l, j + 1 => by
    rw [List.drop_succ_cons, show (j + 1) * 2 = j * 2 + 1 + 1 by omega]
    simp [pc, pc_dropP l j]
theorem Rd.takeP {w : World} {B n j : Nat} {A : Option Addr} {xs : List (Int × Int)} (h : Rd w B 2 A n (pc xs)) (hj : j ≤ n) : Rd w B 2 A j (pc (xs.take j)) := by
  have hl := h.pair
  refine ⟨by rw [pc_length, List.length_take]; omega, fun h0 => ?_⟩
  obtain ⟨b, o, e, hb, hc⟩ := h.2 (by omega)
  refine ⟨b, o, e, hb, fun i u hu => hc i u ?_⟩
  rw [pc_takeP, List.getElem?_take] at hu
  split at hu
  · exact hu
  · cases hu
theorem Rd.dropP {w : World} {B n j b o : Nat} {xs : List (Int × Int)} (h : Rd w B 2 (some ⟨b, o, none⟩) n (pc xs)) (hj : j ≤ n) : Rd w B 2 (some ⟨b, o + j * 2, none⟩) (n - j) (pc (xs.drop j)) := by
  have hl := h.pair
  refine ⟨by rw [pc_length, List.length_drop, hl], fun h0 => ?_⟩
  obtain ⟨b', o', e, hb, hc⟩ := h.2 (by omega)
  injection e with e
  injection e with e1 e2
  subst e1 e2
  refine ⟨b, o + j * 2, rfl, hb, fun i u hu => ?_⟩
  rw [pc_dropP, List.getElem?_drop] at hu
  rw [Nat.add_assoc]
  exact hc _ u hu
theorem rd_of_blkP {w : World} {g : Nat} {x y : Int} (h : Blk w g 50 #[.int .i64 x, .int .i64 y]) : Rd w (g + 1) 2 (some ⟨g, 0, none⟩) 1 (pc [(x, y)]) :=
  ⟨rfl, fun _ => ⟨g, 0, rfl, by omega, fun j u hu => by
    rw [Nat.zero_add, h.cell j]
    simpa [pc] using hu⟩⟩
/-- what l06Put knows while it makes its list: the pin's box and the list that it read -/
def PQ (w u : World) (x y : Int) (A : Option Addr) (n : Nat) (xs : List (Int × Int)) : Prop :=
  Blk u w.heap.size 50 #[.int .i64 x, .int .i64 y] ∧ Rd u w.heap.size 2 A n (pc xs) ∧ Below w.heap.size w u
section
variable {w u u' : World} {x y : Int} {A : Option Addr} {n : Nat} {xs : List (Int × Int)}
theorem PQ.step (h : PQ w u x y A n xs) (hb : Below u.heap.size u u') : PQ w u' x y A n xs :=
  ⟨h.1.below hb h.1.lt, h.2.1.below (hb.mono h.2.2.size), h.2.2.trans (hb.mono h.2.2.size)⟩
theorem PQ.alloc (h : PQ w u x y A n xs) (o : Obj) : PQ w (u.alloc o) x y A n xs := h.step ((Below.refl _ _).alloc (Nat.le_refl _) _)
theorem PQ.drew (h : PQ w u x y A n xs) : PQ w u.drew x y A n xs := ⟨h.1, h.2.1, h.2.2.drew⟩
theorem PQ.drewN (h : PQ w u x y A n xs) (k : Nat) : PQ w (u.drewN k) x y A n xs := ⟨h.1, h.2.1, h.2.2.trans (Go.Joins.below_draws _ _ _)⟩
theorem PQ.grown {g : Nat} (h : PQ w u x y A n xs) (hg : u.grownBy u' (some g)) (hw : w.heap.size < g) : PQ w u' x y A n xs :=
  ⟨h.1.grown hg (by simp; omega), h.2.1.keep fun p hp => World.cell?_of_block (hg.block p.block (by have := h.2.2.size; omega) (fun e => by injection e with e; omega)), h.2.2.grown hg h.2.2.size fun k hk => by injection hk with hk; omega⟩
theorem PQ.cells (h : PQ w u x y A n xs) : u.cell? ⟨w.heap.size, 0, none⟩ = some (.int .i64 x) ∧ u.cell? ⟨w.heap.size, 1, none⟩ = some (.int .i64 y) := h.1.c2
theorem PQ.at (h : PQ w u x y A n xs) {k b o : Nat} {p : Int × Int} (hA : A = some ⟨b, o, none⟩) (hk : xs[k]? = some p) : u.cell? ⟨b, o + k * 2, none⟩ = some (.int .i64 p.1) ∧ u.cell? ⟨b, o + k * 2 + 1, none⟩ = some (.int .i64 p.2) := by
  have hl := h.2.1.pair
  obtain ⟨b', o', e, _, hc⟩ := h.2.1.pairAt (by have := (List.getElem?_eq_some_iff.1 hk).1; omega)
  rw [hA] at e
  injection e with e
  injection e with e1 e2
  subst e1 e2
  exact hc k p hk
end
/-- a list and a bool that l06Put made -/
def MadePut (w : World) (xs : List (Int × Int)) (p : Int × Int) (E : Ending) (w' : World) : Prop :=
  ∃ A c, E = .returned (.tuple #[.slice A (insQ xs p).length c, .bool (!hasQ xs p)]) ∧ w'.ownsRow w.heap.size 50 2 (.slice A (insQ xs p).length c) (insQ xs p).length (pc (insQ xs p)) ∧ Below w.heap.size w w'
theorem less_clsQ {a b x y : Int} {q : Bool} {w : World} (hq : lessQ (a, b) (x, y) = q) : Calls Try.prog 46 #[.agg #[.int .i64 a, .int .i64 b], .agg #[.int .i64 x, .int .i64 y]] w fun e w' => e = .returned (.bool q) ∧ Below w.heap.size w w' :=
  (sLessQ a b x y w).mono fun _ _ ⟨he, hw⟩ => ⟨by rw [he, hq], by rw [hw]; exact pinBoxes_below _ _ _⟩

set_option maxHeartbeats 2000000 in
theorem sPut (A : Option Addr) (n c : Nat) (xs : List (Int × Int)) (x y : Int) (w : World) (h : Rd w w.heap.size 2 A n (pc xs)) (hn : n ≤ 1000) (hc : n ≤ c) (hs : (A = none ∧ c = 0) ∨ ∃ b o, A = some ⟨b, o, none⟩) :
    Calls Try.prog 38 #[.slice A n c, .agg #[.int .i64 x, .int .i64 y]] w (MadePut w xs (x, y)) := by
  have hlen := h.pair
  have HL := Lib.hid hlen
  have Q0 := Lib.hid (show PQ w (w.alloc (.cells #[.int .i64 x, .int .i64 y] 50)) x y A n xs from ⟨Blk.new _ _ _, h.alloc (Nat.le_refl _) _, (Below.refl _ _).alloc (Nat.le_refl _) _⟩)
  have hni : (n : Int) ≤ 1000 := by omega
  have hci : (n : Int) ≤ c := by omega
  clear h hlen
  go_enter Try.func38, Try.ntmps38
  go_wp2
  go_loopw [6] (fun i wr => ∃ j : Nat, j ≤ atQ xs (x, y) ∧ i = .int .i64 j ∧ PQ w wr x y A n xs) (fun i _ => n - (intOf i).toNat)
  case atStart => exact ⟨0, Nat.zero_le _, rfl, Q0.out⟩
  case round =>
    obtain ⟨j, hj, rfl, hQ⟩ := hrel
    have hle := atQ_le xs (x, y)
    rw [HL.out] at hle
    have HQ := Lib.hid hQ
    obtain ⟨p0, p1⟩ := hQ.cells
    clear hQ
    by_cases hjn : (j : Int) < n
    · obtain ⟨b, o, rfl, hbB, _⟩ := HQ.out.2.1.pairAt (by omega)
      obtain ⟨⟨u, v⟩, hz⟩ : ∃ p, xs[j]? = some p := ⟨_, List.getElem?_eq_getElem (by rw [HL.out]; omega)⟩
      obtain ⟨d0, d1⟩ := HQ.out.at rfl hz
      have HZ := Lib.hid hz
      have hbs : b < wr.heap.size := by have := HQ.out.2.2.size; omega
      have hws : w.heap.size < wr.heap.size := HQ.out.1.lt
      have hjc : j < c := by omega
      have hj0 : (0 : Int) ≤ j := by omega
      have hjl : decide (j < n) = true := by simp; omega
      have hjl2 : j < n := by omega
      clear hz
      cases hq : lessQ (u, v) (x, y)
      · have ha : atQ xs (x, y) = j := by
          rcases Nat.lt_or_ge j (atQ xs (x, y)) with h1 | h1
          · rw [atQ_before h1 HZ.out] at hq
            cases hq
          · omega
        have HAJ := Lib.hid ha
        have HLS := Lib.hid (fun w => less_clsQ (w := w) hq)
        clear hq ha
        go_wp2
        go_region_held3 (fun w' => w'.cell? ⟨w.heap.size, 0, none⟩ = some (.int .i64 x) ∧ w'.cell? ⟨w.heap.size, 1, none⟩ = some (.int .i64 y) ∧ w'.cell? ⟨b, o + j * 2, none⟩ = some (.int .i64 u) ∧ w'.cell? ⟨b, o + j * 2 + 1, none⟩ = some (.int .i64 v)) (first | exact ⟨p0, p1, d0, d1⟩ | exact ⟨k0, k1, k2, k3⟩) ((go_at_call 46; refine (HLS.out _).mono ?_; rintro e w1 ⟨rfl, hb1⟩; have Q1 := HQ.out.drew.step hb1; have k0 := Q1.cells.1; have k1 := Q1.cells.2; have k2 := (Q1.at rfl HZ.out).1; have k3 := (Q1.at rfl HZ.out).2))
        have HQ1 := Lib.hid Q1
        clear Q1 hb1
        obtain ⟨b0, b1⟩ : 0 ≤ j ∧ j < n := ⟨by omega, hjl2⟩
        by_cases e1 : u = x ∧ v = y
        · obtain ⟨rfl, rfl⟩ := e1
          have hhas : hasQ xs (u, v) = true := by unfold hasQ; rw [HAJ.out, HZ.out]; simp
          have HHQ := Lib.hid hhas
          have HINS := Lib.hid (show insQ xs (u, v) = xs by unfold insQ; rw [if_pos hhas])
          clear hhas
          go_wp2
          go_quiet (fail)
          obtain ⟨w2, hw2⟩ : ∃ w2, w2 = w1.drewN nq := ⟨_, rfl⟩
          have Q2 := HQ1.out.drewN nq
          rw [← hw2] at Q2 ⊢
          clear hw2 k0 k1 k2 k3
          have HQ2 := Lib.hid Q2
          have OE := Lib.hid (own_empty w2 50 2 w2.heap.size (Nat.le_refl _))
          have z2 : w.heap.size < w2.heap.size := HQ2.out.1.lt
          clear Q2
          go_wp2_with (at_builtin; refine wpList_app_any rfl (.tmp 33) (.tmp 34) rfl w2.heap.size _ 0 0 w.heap.size [] xs _ n c rfl OE.out rfl (HQ2.out.alloc (.cells #[] 50)).2.1 (by omega) (by simp) ?_; intro g3 c3 w3 o3 hg3)
          have Q3 := (HQ2.out.alloc (.cells #[] 50)).grown hg3 (by omega)
          have O3 := Lib.hid (own_base o3 (Nat.le_of_lt z2))
          have B3 := Lib.hid Q3.2.2
          clear Q3 o3 hg3
          go_ret2
          refine ⟨some ⟨g3, 0, none⟩, c3, ?_, ?_, B3.out⟩
          · rw [HINS.out, HL.out, HHQ.out]
            rfl
          · rw [HINS.out, HL.out]
            simpa using O3.out
        have hhas : hasQ xs (x, y) = false := by
          unfold hasQ
          rw [HAJ.out, HZ.out]
          refine decide_eq_false fun e => e1 ?_
          injection e with e
          injection e with e2 e3
          exact ⟨e2, e3⟩
        have HHQ := Lib.hid hhas
        have hins : insQ xs (x, y) = xs.take j ++ [(x, y)] ++ xs.drop j := by unfold insQ putQ; rw [if_neg (by rw [hhas]; simp), HAJ.out]
        have HINS := Lib.hid hins
        have HNL : Hid ((insQ xs (x, y)).length = j + 1 + (n - j)) := Lib.hid (by rw [hins]; simp [HL.out]; omega)
        have hux : (u == x) = false ∨ ((u == x) = true ∧ (v == y) = false) := by
          by_cases e2 : u = x
          · right; exact ⟨by simp [e2], by simp; intro e3; exact e1 ⟨e2, e3⟩⟩
          · left; simp [e2]
        clear hhas hins e1
        have hjc4 : ¬ c = j := by omega
        have hjc2 : (j : Int) < c := by omega
        have hjc3 : j < c := by omega
        have hjn1 : j ≤ n := by omega
        have hjn2 : n ≤ c := by omega
        have hjn3 : j ≤ c := by omega
        have hjn4 : (j : Int) ≤ n := by omega
        have hjn5 : (j : Int) ≤ c := by omega
        have hjn7 : (0 : Int) ≤ n := by omega
        rcases hux with hux | ⟨hux, hvy⟩
        all_goals
          go_wp2
          go_quiet (fail)
          obtain ⟨w2, hw2⟩ : ∃ w2, w2 = w1.drewN nq := ⟨_, rfl⟩
          have Q2 := HQ1.out.drewN nq
          rw [← hw2] at Q2 ⊢
          clear hw2 k0 k1 k2 k3
          have HQ2 := Lib.hid Q2
          clear Q2
          have z2 : w.heap.size < w2.heap.size := HQ2.out.1.lt
          have q20 := HQ2.out.cells
          have q2e := (HQ2.out.alloc (.cells #[] 50)).cells
          have q2p := (HQ2.out.alloc (.cells #[.int .i64 x, .int .i64 y] 50)).cells
          have q2ep := ((HQ2.out.alloc (.cells #[] 50)).alloc (.cells #[.int .i64 x, .int .i64 y] 50)).cells
          have q2pe := ((HQ2.out.alloc (.cells #[.int .i64 x, .int .i64 y] 50)).alloc (.cells #[] 50)).cells
          have X1 : Hid (Blk ((w2.alloc (.cells #[] 50)).alloc (.cells #[.int .i64 x, .int .i64 y] 50)).drew (w2.heap.size + 1) 50 #[.int .i64 x, .int .i64 y]) := Lib.hid (blk_drewP (by simpa using Blk.new (w2.alloc (.cells #[] 50)) 50 #[.int .i64 x, .int .i64 y]))
          have X2 : Hid (((w2.alloc (.cells #[.int .i64 x, .int .i64 y] 50)).alloc (.cells #[] 50)).drew.ownsRow w2.heap.size 50 2 (.slice (some ⟨w2.heap.size + 1, 0, none⟩) 0 0) 0 (pc [])) := Lib.hid (own_drew1 (by simpa [pc] using own_empty (w2.alloc (.cells #[.int .i64 x, .int .i64 y] 50)) 50 2 w2.heap.size (by simp)))
          have X3 := Lib.hid (blk_drewP ((Blk.new w2 50 #[.int .i64 x, .int .i64 y]).alloc (.cells #[] 50)))
          have X4 : w2.heap.size + 1 ≠ w2.heap.size := by omega
          have X5 : w2.heap.size ≠ w2.heap.size + 1 := by omega
          have YJ : j ≤ n := by omega
          go_wp2
          go_region_held3 (fun w' => w'.cell? ⟨w.heap.size, 0, none⟩ = some (.int .i64 x) ∧ w'.cell? ⟨w.heap.size, 1, none⟩ = some (.int .i64 y)) (first | exact q20 | exact q2e | exact q2p | exact q2ep | exact q2pe | exact q3c | exact q3p | exact q4c | exact q5c) (first | ((first | (refine step_app_any (w := (w2.alloc (.cells #[] 50)).drew) (by rfl) (.tmp 36) (.tmp 39) (by rfl) w2.heap.size _ 0 0 w.heap.size [] (xs.take j) (some ⟨b, o, none⟩) j _ (by rfl) (own_drew1 (own_empty w2 50 2 w2.heap.size (Nat.le_refl _))) (by rfl) (((HQ2.out.alloc (.cells #[] 50)).drew).2.1.takeP YJ) (by omega) (by first | exact Nat.le_refl _ | (simp; omega) | simp) ?_; intro g3 c3 w3 o3 hg3; rw [Nat.zero_add] at o3 ⊢; have Q3 := ((HQ2.out.alloc (.cells #[] 50)).drew).grown hg3 (by omega)) | (refine step_app_any (w := ((w2.alloc (.cells #[] 50)).alloc (.cells #[.int .i64 x, .int .i64 y] 50)).drew) (by rfl) (.tmp 36) (.tmp 39) (by rfl) w2.heap.size _ 0 0 w.heap.size [] (xs.take j) (some ⟨b, o, none⟩) j _ (by rfl) (own_drew1 ((own_empty w2 50 2 w2.heap.size (Nat.le_refl _)).alloc (.cells #[.int .i64 x, .int .i64 y] 50))) (by rfl) ((((HQ2.out.alloc (.cells #[] 50)).alloc (.cells #[.int .i64 x, .int .i64 y] 50)).drew).2.1.takeP YJ) (by omega) (by first | exact Nat.le_refl _ | (simp; omega) | simp) ?_; intro g3 c3 w3 o3 hg3; rw [Nat.zero_add] at o3 ⊢; have Q3 := (((HQ2.out.alloc (.cells #[] 50)).alloc (.cells #[.int .i64 x, .int .i64 y] 50)).drew).grown hg3 (by omega); have BN := Blk.grown X1.out hg3 (fun e => X4 (by injection e))) | (refine step_app_any (w := ((w2.alloc (.cells #[.int .i64 x, .int .i64 y] 50)).alloc (.cells #[] 50)).drew) (by rfl) (.tmp 36) (.tmp 39) (by rfl) w2.heap.size _ 0 0 w.heap.size [] (xs.take j) (some ⟨b, o, none⟩) j _ (by rfl) (X2.out) (by rfl) ((((HQ2.out.alloc (.cells #[.int .i64 x, .int .i64 y] 50)).alloc (.cells #[] 50)).drew).2.1.takeP YJ) (by omega) (by first | exact Nat.le_refl _ | (simp; omega) | simp) ?_; intro g3 c3 w3 o3 hg3; rw [Nat.zero_add] at o3 ⊢; have Q3 := (((HQ2.out.alloc (.cells #[.int .i64 x, .int .i64 y] 50)).alloc (.cells #[] 50)).drew).grown hg3 (by omega); have BN := Blk.grown X3.out hg3 (fun e => X5 (by injection e)))); have y3 := o3.lt g3 rfl; have q3c := Q3.cells; have q3p := (Q3.alloc (.cells #[.int .i64 x, .int .i64 y] 50)).cells) | ((first | (refine step_app_any (w := w3) (by rfl) (.tmp 40) (.tmp 42) (by rfl) w2.heap.size _ _ _ _ (xs.take j) [(x, y)] _ 1 _ (by rfl) o3 (by rfl) (rd_of_blkP BN) (by omega) (by omega) ?_; intro g4 c4 w4 o4 hg4; have Q4 := Q3.grown hg4 (by omega)) | (refine step_app_any (w := w3.alloc (.cells #[.int .i64 x, .int .i64 y] 50)) (by rfl) (.tmp 40) (.tmp 42) (by rfl) w2.heap.size _ _ _ _ (xs.take j) [(x, y)] _ 1 _ (by rfl) (o3.alloc _) (by rfl) (rd_of_blkP (Blk.new w3 50 #[.int .i64 x, .int .i64 y])) (by omega) (by simp; omega) ?_; intro g4 c4 w4 o4 hg4; have Q4 := (Q3.alloc (.cells #[.int .i64 x, .int .i64 y] 50)).grown hg4 (by omega))); have y4 := o4.lt g4 rfl; have q4c := Q4.cells) | ((refine step_app_any (w := w4) (by rfl) (.tmp 43) (.tmp 46) (by rfl) w2.heap.size _ _ _ w.heap.size _ (xs.drop j) _ (n - j) _ (by rfl) o4 (by rfl) (Q4.2.1.dropP (by omega)) (by omega) (by omega) ?_; intro g5 c5 w5 o5 hg5; have Q5 := Q4.grown hg5 (by omega); have q5c := Q5.cells)))
          all_goals
            have O5 := Lib.hid (own_base o5 (Nat.le_of_lt z2))
            have B5 := Lib.hid Q5.2.2
            clear o5 o4 o3 Q3 Q4 Q5 hg3 hg4 hg5 q20 q2e q2p q2ep q2pe q3c q3p q4c q5c
            go_wp2
            go_ret2
            refine ⟨some ⟨g5, 0, none⟩, c5, ?_, ?_, B5.out⟩
            · rw [HNL.out, HHQ.out]
              rfl
            · rw [HNL.out, HINS.out]
              exact O5.out
      · have hj2 : j + 1 ≤ atQ xs (x, y) := by
          rcases Nat.lt_or_ge j (atQ xs (x, y)) with h1 | h1
          · exact h1
          · have e : j = atQ xs (x, y) := by omega
            have := atQ_stop (e ▸ HZ.out)
            rw [hq] at this
            cases this
        have HLS := Lib.hid (fun w => less_clsQ (w := w) hq)
        clear hq
        go_wp2
        go_region_held3 (fun w' => w'.cell? ⟨w.heap.size, 0, none⟩ = some (.int .i64 x) ∧ w'.cell? ⟨w.heap.size, 1, none⟩ = some (.int .i64 y) ∧ w'.cell? ⟨b, o + j * 2, none⟩ = some (.int .i64 u) ∧ w'.cell? ⟨b, o + j * 2 + 1, none⟩ = some (.int .i64 v)) (first | exact ⟨p0, p1, d0, d1⟩ | exact ⟨k0, k1, k2, k3⟩) ((go_at_call 46; refine (HLS.out _).mono ?_; rintro e w1 ⟨rfl, hb1⟩; have Q1 := HQ.out.drew.step hb1; have k0 := Q1.cells.1; have k1 := Q1.cells.2; have k2 := (Q1.at rfl HZ.out).1; have k3 := (Q1.at rfl HZ.out).2))
        all_goals
          have HQ1 := Lib.hid Q1
          clear Q1 k0 k1 k2 k3 hb1
          go_wp2
          go_roundw
          case rel => exact ⟨j + 1, hj2, by go_num, HQ1.out⟩
          case measure => simp [intOf] <;> omega
    · obtain rfl : j = n := by omega
      have ha : atQ xs (x, y) = j := by omega
      have hhas : hasQ xs (x, y) = false := by
        unfold hasQ
        rw [ha, List.getElem?_eq_none (by rw [HL.out]; exact Nat.le_refl _)]
        rfl
      have HHQ := Lib.hid hhas
      have hins : insQ xs (x, y) = xs.take j ++ [(x, y)] ++ [] := by unfold insQ putQ; rw [if_neg (by rw [hhas]; simp), ha, List.drop_of_length_le (by rw [HL.out]; exact Nat.le_refl _)]
      have HINS := Lib.hid hins
      have HNL : Hid ((insQ xs (x, y)).length = j + 1) := Lib.hid (by rw [hins]; simp [HL.out])
      have hjl : decide (j < j) = false := by simp
      have YJ : j ≤ j := Nat.le_refl _
      clear hhas hins ha p0 p1
      rcases hs with ⟨rfl, rfl⟩ | ⟨b, o, rfl⟩
      · obtain rfl : j = 0 := by omega
        go_wp2
        go_quiet (fail)
        obtain ⟨wa, hwa⟩ : ∃ wa, wa = wr.drewN nq := ⟨_, rfl⟩
        have QA := HQ.out.drewN nq
        rw [← hwa] at QA ⊢
        clear hwa HQ
        go_wp2
        go_quiet (fail)
        obtain ⟨w2, hw2⟩ : ∃ w2, w2 = wa.drewN nq := ⟨_, rfl⟩
        have Q2 := QA.drewN nq
        rw [← hw2] at Q2 ⊢
        clear hw2 QA
        have HQ2 := Lib.hid Q2
        clear Q2
        have z2 : w.heap.size < w2.heap.size := HQ2.out.1.lt
        have q20 := HQ2.out.cells
        have q2e := (HQ2.out.alloc (.cells #[] 50)).cells
        have q2p := (HQ2.out.alloc (.cells #[.int .i64 x, .int .i64 y] 50)).cells
        have q2ep := ((HQ2.out.alloc (.cells #[] 50)).alloc (.cells #[.int .i64 x, .int .i64 y] 50)).cells
        have q2pe := ((HQ2.out.alloc (.cells #[.int .i64 x, .int .i64 y] 50)).alloc (.cells #[] 50)).cells
        have X1 : Hid (Blk ((w2.alloc (.cells #[] 50)).alloc (.cells #[.int .i64 x, .int .i64 y] 50)).drew (w2.heap.size + 1) 50 #[.int .i64 x, .int .i64 y]) := Lib.hid (blk_drewP (by simpa using Blk.new (w2.alloc (.cells #[] 50)) 50 #[.int .i64 x, .int .i64 y]))
        have X2 : Hid (((w2.alloc (.cells #[.int .i64 x, .int .i64 y] 50)).alloc (.cells #[] 50)).drew.ownsRow w2.heap.size 50 2 (.slice (some ⟨w2.heap.size + 1, 0, none⟩) 0 0) 0 (pc [])) := Lib.hid (own_drew1 (by simpa [pc] using own_empty (w2.alloc (.cells #[.int .i64 x, .int .i64 y] 50)) 50 2 w2.heap.size (by simp)))
        have X3 := Lib.hid (blk_drewP ((Blk.new w2 50 #[.int .i64 x, .int .i64 y]).alloc (.cells #[] 50)))
        have X4 : w2.heap.size + 1 ≠ w2.heap.size := by omega
        have X5 : w2.heap.size ≠ w2.heap.size + 1 := by omega
        go_wp2
        go_region_held3 (fun w' => w'.cell? ⟨w.heap.size, 0, none⟩ = some (.int .i64 x) ∧ w'.cell? ⟨w.heap.size, 1, none⟩ = some (.int .i64 y)) (first | exact q20 | exact q2e | exact q2p | exact q2ep | exact q2pe | exact q3c | exact q3p | exact q4c | exact q5c) (first | ((first | (refine step_app_any (w := (w2.alloc (.cells #[] 50)).drew) (by rfl) (.tmp 36) (.tmp 39) (by rfl) w2.heap.size _ 0 0 w.heap.size [] (xs.take 0) _ 0 _ (by rfl) (own_drew1 (own_empty w2 50 2 w2.heap.size (Nat.le_refl _))) (by rfl) (((HQ2.out.alloc (.cells #[] 50)).drew).2.1.takeP YJ) (by omega) (by first | exact Nat.le_refl _ | (simp; omega) | simp) ?_; intro g3 c3 w3 o3 hg3; rw [Nat.zero_add] at o3 ⊢; have Q3 := ((HQ2.out.alloc (.cells #[] 50)).drew).grown hg3 (by omega)) | (refine step_app_any (w := ((w2.alloc (.cells #[] 50)).alloc (.cells #[.int .i64 x, .int .i64 y] 50)).drew) (by rfl) (.tmp 36) (.tmp 39) (by rfl) w2.heap.size _ 0 0 w.heap.size [] (xs.take 0) _ 0 _ (by rfl) (own_drew1 ((own_empty w2 50 2 w2.heap.size (Nat.le_refl _)).alloc (.cells #[.int .i64 x, .int .i64 y] 50))) (by rfl) ((((HQ2.out.alloc (.cells #[] 50)).alloc (.cells #[.int .i64 x, .int .i64 y] 50)).drew).2.1.takeP YJ) (by omega) (by first | exact Nat.le_refl _ | (simp; omega) | simp) ?_; intro g3 c3 w3 o3 hg3; rw [Nat.zero_add] at o3 ⊢; have Q3 := (((HQ2.out.alloc (.cells #[] 50)).alloc (.cells #[.int .i64 x, .int .i64 y] 50)).drew).grown hg3 (by omega); have BN := Blk.grown X1.out hg3 (fun e => X4 (by injection e))) | (refine step_app_any (w := ((w2.alloc (.cells #[.int .i64 x, .int .i64 y] 50)).alloc (.cells #[] 50)).drew) (by rfl) (.tmp 36) (.tmp 39) (by rfl) w2.heap.size _ 0 0 w.heap.size [] (xs.take 0) _ 0 _ (by rfl) (X2.out) (by rfl) ((((HQ2.out.alloc (.cells #[.int .i64 x, .int .i64 y] 50)).alloc (.cells #[] 50)).drew).2.1.takeP YJ) (by omega) (by first | exact Nat.le_refl _ | (simp; omega) | simp) ?_; intro g3 c3 w3 o3 hg3; rw [Nat.zero_add] at o3 ⊢; have Q3 := (((HQ2.out.alloc (.cells #[.int .i64 x, .int .i64 y] 50)).alloc (.cells #[] 50)).drew).grown hg3 (by omega); have BN := Blk.grown X3.out hg3 (fun e => X5 (by injection e)))); have y3 := o3.lt g3 rfl; have q3c := Q3.cells; have q3p := (Q3.alloc (.cells #[.int .i64 x, .int .i64 y] 50)).cells) | ((first | (refine step_app_any (w := w3) (by rfl) (.tmp 40) (.tmp 42) (by rfl) w2.heap.size _ _ _ _ (xs.take 0) [(x, y)] _ 1 _ (by rfl) o3 (by rfl) (rd_of_blkP BN) (by omega) (by omega) ?_; intro g4 c4 w4 o4 hg4; have Q4 := Q3.grown hg4 (by omega)) | (refine step_app_any (w := w3.alloc (.cells #[.int .i64 x, .int .i64 y] 50)) (by rfl) (.tmp 40) (.tmp 42) (by rfl) w2.heap.size _ _ _ _ (xs.take 0) [(x, y)] _ 1 _ (by rfl) (o3.alloc _) (by rfl) (rd_of_blkP (Blk.new w3 50 #[.int .i64 x, .int .i64 y])) (by omega) (by simp; omega) ?_; intro g4 c4 w4 o4 hg4; have Q4 := (Q3.alloc (.cells #[.int .i64 x, .int .i64 y] 50)).grown hg4 (by omega))); have y4 := o4.lt g4 rfl; have q4c := Q4.cells) | ((refine step_app_any (w := w4) (by rfl) (.tmp 43) (.tmp 46) (by rfl) w2.heap.size _ _ _ 0 _ [] _ 0 _ (by rfl) o4 (by rfl) (Rd.nil _ _ _ _) (by omega) (by omega) ?_; intro g5 c5 w5 o5 hg5; have Q5 := Q4.grown hg5 (by omega); have q5c := Q5.cells)))
        all_goals
          have O5 := Lib.hid (own_base o5 (Nat.le_of_lt z2))
          have B5 := Lib.hid Q5.2.2
          clear o5 o4 o3 Q3 Q4 Q5 hg3 hg4 hg5 q20 q2e q2p q2ep q2pe q3c q3p q4c q5c
          go_wp2
          go_ret2
          refine ⟨some ⟨g5, 0, none⟩, c5, ?_, ?_, B5.out⟩
          · rw [HNL.out, HHQ.out]
            rfl
          · rw [HNL.out, HINS.out]
            exact O5.out
      · have hj0 : (0 : Int) ≤ j := by omega
        have hjn5 : (j : Int) ≤ c := by omega
        have hjn2 : j ≤ c := by omega
        rcases Decidable.em (j = c) with hcj | hcj
        all_goals
          (first | subst hcj | (have hjc4 : ¬ c = j := (fun e => hcj e.symm); have hjc2 : (j : Int) < c := (by omega); have hjc3 : j < c := (by omega)))
          go_wp2
          go_quiet (fail)
          obtain ⟨wa, hwa⟩ : ∃ wa, wa = wr.drewN nq := ⟨_, rfl⟩
          have QA := HQ.out.drewN nq
          rw [← hwa] at QA ⊢
          clear hwa HQ
          go_wp2
          go_quiet (fail)
          obtain ⟨w2, hw2⟩ : ∃ w2, w2 = wa.drewN nq := ⟨_, rfl⟩
          have Q2 := QA.drewN nq
          rw [← hw2] at Q2 ⊢
          clear hw2 QA
          have HQ2 := Lib.hid Q2
          clear Q2
          have z2 : w.heap.size < w2.heap.size := HQ2.out.1.lt
          have q20 := HQ2.out.cells
          have q2e := (HQ2.out.alloc (.cells #[] 50)).cells
          have q2p := (HQ2.out.alloc (.cells #[.int .i64 x, .int .i64 y] 50)).cells
          have q2ep := ((HQ2.out.alloc (.cells #[] 50)).alloc (.cells #[.int .i64 x, .int .i64 y] 50)).cells
          have q2pe := ((HQ2.out.alloc (.cells #[.int .i64 x, .int .i64 y] 50)).alloc (.cells #[] 50)).cells
          have X1 : Hid (Blk ((w2.alloc (.cells #[] 50)).alloc (.cells #[.int .i64 x, .int .i64 y] 50)).drew (w2.heap.size + 1) 50 #[.int .i64 x, .int .i64 y]) := Lib.hid (blk_drewP (by simpa using Blk.new (w2.alloc (.cells #[] 50)) 50 #[.int .i64 x, .int .i64 y]))
          have X2 : Hid (((w2.alloc (.cells #[.int .i64 x, .int .i64 y] 50)).alloc (.cells #[] 50)).drew.ownsRow w2.heap.size 50 2 (.slice (some ⟨w2.heap.size + 1, 0, none⟩) 0 0) 0 (pc [])) := Lib.hid (own_drew1 (by simpa [pc] using own_empty (w2.alloc (.cells #[.int .i64 x, .int .i64 y] 50)) 50 2 w2.heap.size (by simp)))
          have X3 := Lib.hid (blk_drewP ((Blk.new w2 50 #[.int .i64 x, .int .i64 y]).alloc (.cells #[] 50)))
          have X4 : w2.heap.size + 1 ≠ w2.heap.size := by omega
          have X5 : w2.heap.size ≠ w2.heap.size + 1 := by omega
          go_wp2
          go_region_held3 (fun w' => w'.cell? ⟨w.heap.size, 0, none⟩ = some (.int .i64 x) ∧ w'.cell? ⟨w.heap.size, 1, none⟩ = some (.int .i64 y)) (first | exact q20 | exact q2e | exact q2p | exact q2ep | exact q2pe | exact q3c | exact q3p | exact q4c | exact q5c) (first | ((first | (refine step_app_any (w := (w2.alloc (.cells #[] 50)).drew) (by rfl) (.tmp 36) (.tmp 39) (by rfl) w2.heap.size _ 0 0 w.heap.size [] (xs.take j) _ j _ (by rfl) (own_drew1 (own_empty w2 50 2 w2.heap.size (Nat.le_refl _))) (by rfl) (((HQ2.out.alloc (.cells #[] 50)).drew).2.1.takeP YJ) (by omega) (by first | exact Nat.le_refl _ | (simp; omega) | simp) ?_; intro g3 c3 w3 o3 hg3; rw [Nat.zero_add] at o3 ⊢; have Q3 := ((HQ2.out.alloc (.cells #[] 50)).drew).grown hg3 (by omega)) | (refine step_app_any (w := ((w2.alloc (.cells #[] 50)).alloc (.cells #[.int .i64 x, .int .i64 y] 50)).drew) (by rfl) (.tmp 36) (.tmp 39) (by rfl) w2.heap.size _ 0 0 w.heap.size [] (xs.take j) _ j _ (by rfl) (own_drew1 ((own_empty w2 50 2 w2.heap.size (Nat.le_refl _)).alloc (.cells #[.int .i64 x, .int .i64 y] 50))) (by rfl) ((((HQ2.out.alloc (.cells #[] 50)).alloc (.cells #[.int .i64 x, .int .i64 y] 50)).drew).2.1.takeP YJ) (by omega) (by first | exact Nat.le_refl _ | (simp; omega) | simp) ?_; intro g3 c3 w3 o3 hg3; rw [Nat.zero_add] at o3 ⊢; have Q3 := (((HQ2.out.alloc (.cells #[] 50)).alloc (.cells #[.int .i64 x, .int .i64 y] 50)).drew).grown hg3 (by omega); have BN := Blk.grown X1.out hg3 (fun e => X4 (by injection e))) | (refine step_app_any (w := ((w2.alloc (.cells #[.int .i64 x, .int .i64 y] 50)).alloc (.cells #[] 50)).drew) (by rfl) (.tmp 36) (.tmp 39) (by rfl) w2.heap.size _ 0 0 w.heap.size [] (xs.take j) _ j _ (by rfl) (X2.out) (by rfl) ((((HQ2.out.alloc (.cells #[.int .i64 x, .int .i64 y] 50)).alloc (.cells #[] 50)).drew).2.1.takeP YJ) (by omega) (by first | exact Nat.le_refl _ | (simp; omega) | simp) ?_; intro g3 c3 w3 o3 hg3; rw [Nat.zero_add] at o3 ⊢; have Q3 := (((HQ2.out.alloc (.cells #[.int .i64 x, .int .i64 y] 50)).alloc (.cells #[] 50)).drew).grown hg3 (by omega); have BN := Blk.grown X3.out hg3 (fun e => X5 (by injection e)))); have y3 := o3.lt g3 rfl; have q3c := Q3.cells; have q3p := (Q3.alloc (.cells #[.int .i64 x, .int .i64 y] 50)).cells) | ((first | (refine step_app_any (w := w3) (by rfl) (.tmp 40) (.tmp 42) (by rfl) w2.heap.size _ _ _ _ (xs.take j) [(x, y)] _ 1 _ (by rfl) o3 (by rfl) (rd_of_blkP BN) (by omega) (by omega) ?_; intro g4 c4 w4 o4 hg4; have Q4 := Q3.grown hg4 (by omega)) | (refine step_app_any (w := w3.alloc (.cells #[.int .i64 x, .int .i64 y] 50)) (by rfl) (.tmp 40) (.tmp 42) (by rfl) w2.heap.size _ _ _ _ (xs.take j) [(x, y)] _ 1 _ (by rfl) (o3.alloc _) (by rfl) (rd_of_blkP (Blk.new w3 50 #[.int .i64 x, .int .i64 y])) (by omega) (by simp; omega) ?_; intro g4 c4 w4 o4 hg4; have Q4 := (Q3.alloc (.cells #[.int .i64 x, .int .i64 y] 50)).grown hg4 (by omega))); have y4 := o4.lt g4 rfl; have q4c := Q4.cells) | ((refine step_app_any (w := w4) (by rfl) (.tmp 43) (.tmp 46) (by rfl) w2.heap.size _ _ _ 0 _ [] _ 0 _ (by rfl) o4 (by rfl) (Rd.nil _ _ _ _) (by omega) (by omega) ?_; intro g5 c5 w5 o5 hg5; have Q5 := Q4.grown hg5 (by omega); have q5c := Q5.cells)))
          all_goals
            have O5 := Lib.hid (own_base o5 (Nat.le_of_lt z2))
            have B5 := Lib.hid Q5.2.2
            clear o5 o4 o3 Q3 Q4 Q5 hg3 hg4 hg5 q20 q2e q2p q2ep q2pe q3c q3p q4c q5c
            go_wp2
            go_ret2
            refine ⟨some ⟨g5, 0, none⟩, c5, ?_, ?_, B5.out⟩
            · rw [HNL.out, HHQ.out]
              rfl
            · rw [HNL.out, HINS.out]
              exact O5.out

end Go.Proofs.Ytjklobhnidbinaa
