/-
  CylinderOk of impl and of spec, and the comparing of two pins: is a cylinder within its bounds, its pins ordered and not too many?
-/
import Derived.Test.YtjklobhnidbinaaPairs
import Derived.Test.YtjklobhnidbinaaPinMath
import Derived.Test.YtjklobhnidbinaaWithin
import Derived.Deep.RegionWith
import Derived.Deep.RegionHeld3
import Derived.IntWalk
namespace Go.Proofs.Ytjklobhnidbinaa
open Go.RowKit

theorem quiet_t {P : Program} {f : FuncId} {args : Array Value} {w : World} {n : Nat} {v : Value}
    (h : Calls P f args (w.drewN n) fun e w' => e = .returned v ∧ w.drewN n = w') : Calls P f args (w.drewN n) fun e w'' => e = .returned v ∧ ∃ m, w'' = w.drewN m :=
  h.mono fun _ _ ⟨he, hm⟩ => ⟨he, n, hm.symm⟩
theorem qIn {v lo hi : Int} {b : Bool} {w : World} {n : Nat} (h : inB v lo hi = b) :
    Calls Try.prog 31 #[.int .i64 v, .int .i64 lo, .int .i64 hi] (w.drewN n) fun e w'' => e = .returned (.bool b) ∧ ∃ m, w'' = w.drewN m := by
  subst h; exact quiet_t (l01In_any _ _ _ _)

/-- what comparing two pins leaves behind: two blocks -/
def pinBoxes (w : World) (p q : Int × Int) : World := (w.alloc (.cells #[.int .i64 p.1, .int .i64 p.2] 50)).alloc (.cells #[.int .i64 q.1, .int .i64 q.2] 50)
theorem pinBoxes_below (w : World) (p q : Int × Int) : Below w.heap.size w (pinBoxes w p q) := ((Below.refl _ _).alloc (Nat.le_refl _) _).alloc (by simp) _

theorem sLessQ (a b x y : Int) (w : World) :
    Calls Try.prog 46 #[.agg #[.int .i64 a, .int .i64 b], .agg #[.int .i64 x, .int .i64 y]] w fun e w' => e = .returned (.bool (lessQ (a, b) (x, y))) ∧ w' = pinBoxes w (a, b) (x, y) := by
  by_cases h1 : b < y
  · rw [show lessQ (a, b) (x, y) = true by simp [lessQ, lessN, sw, h1]]
    go_enter Try.func46, Try.ntmps46
    go_wp2
    go_ret
    exact ⟨rfl, rfl⟩
  by_cases h2 : y < b
  · rw [show lessQ (a, b) (x, y) = false from decide_eq_false (by show ¬ (b < y ∨ (b = y ∧ a < x)); omega)]
    have h3 : (b == y) = false := by simp; omega
    go_enter Try.func46, Try.ntmps46
    go_wp2
    go_ret
    exact ⟨rfl, rfl⟩
  obtain rfl : b = y := by omega
  by_cases h4 : a < x
  · rw [show lessQ (a, b) (x, b) = true by simp [lessQ, lessN, sw, h4]]
    go_enter Try.func46, Try.ntmps46
    go_wp2
    go_ret
    exact ⟨rfl, rfl⟩
  · rw [show lessQ (a, b) (x, b) = false from decide_eq_false (by show ¬ (b < b ∨ (b = b ∧ a < x)); omega)]
    go_enter Try.func46, Try.ntmps46
    go_wp2
    go_ret
    exact ⟨rfl, rfl⟩
theorem cmp_gt {a b x y : Int} (h : ¬ (b < y ∨ (b = y ∧ a < x))) (hn : ¬ (a = x ∧ b = y)) : cmpQ (a, b) (x, y) = 1 := by
  unfold cmpQ
  rw [if_neg (by rw [show lessQ (a, b) (x, y) = false from decide_eq_false h]; simp), if_neg (by simpa using hn)]
theorem iCmpQ (a b x y : Int) (w : World) :
    Calls Try.prog 45 #[.agg #[.int .i64 a, .int .i64 b], .agg #[.int .i64 x, .int .i64 y]] w fun e w' => e = .returned (.int .i64 (cmpQ (a, b) (x, y))) ∧ w' = pinBoxes w (a, b) (x, y) := by
  by_cases h1 : b < y
  · rw [show cmpQ (a, b) (x, y) = -1 by simp [cmpQ, lessQ, lessN, sw, h1]]
    go_enter Try.func45, Try.ntmps45
    go_wp2
    go_ret
    exact ⟨rfl, rfl⟩
  by_cases h2 : y < b
  · rw [cmp_gt (show ¬ (b < y ∨ (b = y ∧ a < x)) by omega) (by omega)]
    have h3 : (b == y) = false := by simp; omega
    go_enter Try.func45, Try.ntmps45
    go_wp2
    go_ret
    exact ⟨rfl, rfl⟩
  obtain rfl : b = y := by omega
  by_cases h4 : a < x
  · rw [show cmpQ (a, b) (x, b) = -1 by simp [cmpQ, lessQ, lessN, sw, h4]]
    go_enter Try.func45, Try.ntmps45
    go_wp2
    go_ret
    exact ⟨rfl, rfl⟩
  by_cases h5 : x < a
  · rw [cmp_gt (show ¬ (b < b ∨ (b = b ∧ a < x)) by omega) (by omega)]
    have h6 : (a == x) = false := by simp; omega
    go_enter Try.func45, Try.ntmps45
    go_wp2
    go_ret
    exact ⟨rfl, rfl⟩
  · obtain rfl : a = x := by omega
    rw [show cmpQ (a, b) (a, b) = 0 by simp [cmpQ, lessQ, lessN, sw]]
    go_enter Try.func45, Try.ntmps45
    go_wp2
    go_ret
    exact ⟨rfl, rfl⟩

set_option maxHeartbeats 1000000 in
theorem iCylOk (s t : Int) (A : Option Addr) (n c : Nat) (xs : List (Int × Int)) (w : World) (h : Rd w w.heap.size 2 A n (pc xs)) (hn : n ≤ 1048576) :
    Calls Try.prog 28 #[.agg #[.int .i64 s, .int .i64 t, .slice A n c]] w fun e w' => e = .returned (.bool (cylB s t xs)) ∧ Below w.heap.size w w' := by
  have hlen := h.pair
  have H := Lib.hid h
  have HL := Lib.hid hlen
  unfold cylB
  rw [HL.out]
  clear h hlen
  cases hs : inB s 4 96
  · rw [Bool.false_and, Bool.false_and, Bool.false_and]
    go_enter Try.func28, Try.ntmps28
    go_wp2_with (go_at_call 33; refine (within_any _ _ _ _).mono ?_; rintro e w' ⟨rfl, rfl⟩; rw [hs])
    go_ret
    exact ⟨rfl, by (repeat (first | exact Below.refl _ _ | assumption | refine Below.alloc ?_ (by first | omega | (simp <;> omega)) _ | refine Below.setCell ?_ (by first | omega | (simp <;> omega)) _ | refine Below.drew ?_ | refine Below.trans ?_ (Below.mono (by assumption) (by first | omega | (simp <;> omega)))))⟩
  cases ht : inB t 1 100
  · rw [Bool.and_false, Bool.false_and, Bool.false_and]
    go_enter Try.func28, Try.ntmps28
    go_wp2_with (go_at_call 33; refine (within_any _ _ _ _).mono ?_; rintro e w' ⟨rfl, rfl⟩; (first | rw [hs] | rw [ht]))
    go_ret
    exact ⟨rfl, by (repeat (first | exact Below.refl _ _ | assumption | refine Below.alloc ?_ (by first | omega | (simp <;> omega)) _ | refine Below.setCell ?_ (by first | omega | (simp <;> omega)) _ | refine Below.drew ?_ | refine Below.trans ?_ (Below.mono (by assumption) (by first | omega | (simp <;> omega)))))⟩
  rw [Bool.true_and, Bool.true_and]
  by_cases h100 : (n : Int) ≤ 100
  case neg =>
    rw [show decide (n ≤ 100) = false by simp; omega, Bool.false_and]
    go_enter Try.func28, Try.ntmps28
    go_wp2_with (go_at_call 33; refine (within_any _ _ _ _).mono ?_; rintro e w' ⟨rfl, rfl⟩; (first | rw [hs] | rw [ht]))
    go_ret
    exact ⟨rfl, by (repeat (first | exact Below.refl _ _ | assumption | refine Below.alloc ?_ (by first | omega | (simp <;> omega)) _ | refine Below.setCell ?_ (by first | omega | (simp <;> omega)) _ | refine Below.drew ?_ | refine Below.trans ?_ (Below.mono (by assumption) (by first | omega | (simp <;> omega)))))⟩
  rw [show decide (n ≤ 100) = true by simp; omega, Bool.true_and]
  obtain ⟨hs0, hs1⟩ := inB_iff.1 hs
  obtain ⟨ht0, ht1⟩ := inB_iff.1 ht
  go_enter Try.func28, Try.ntmps28
  go_wp2_with (go_at_call 33; refine (within_any _ _ _ _).mono ?_; rintro e w' ⟨rfl, rfl⟩; (first | rw [hs] | rw [ht]))
  go_loopw [24] (fun i wr => ∃ k : Nat, k ≤ n ∧ i = .int .i64 k ∧ pinsTo s t xs k = true ∧ Blk wr w.heap.size 28 #[.int .i64 s, .int .i64 t, .slice A n c] ∧ Below w.heap.size w wr) (fun i _ => n - (intOf i).toNat)
  case atStart => exact ⟨0, Nat.zero_le _, rfl, rfl, Blk.new _ _ _, by (repeat (first | exact Below.refl _ _ | assumption | refine Below.alloc ?_ (by first | omega | (simp <;> omega)) _ | refine Below.setCell ?_ (by first | omega | (simp <;> omega)) _ | refine Below.drew ?_ | refine Below.trans ?_ (Below.mono (by assumption) (by first | omega | (simp <;> omega)))))⟩
  case round =>
    obtain ⟨k, hk, rfl, hall, hB, hbl⟩ := hrel
    have HA := Lib.hid hall
    have HB := Lib.hid hB
    obtain ⟨e0, e1, e2⟩ := hB.c3
    have hws := hB.lt
    clear hall hB
    by_cases hlt : (k : Int) < n
    · obtain ⟨b, o, rfl, hbB, hcell⟩ := H.out.pairAt (by omega)
      obtain ⟨⟨x, y⟩, hx⟩ : ∃ p, xs[k]? = some p := ⟨_, List.getElem?_eq_getElem (by rw [HL.out]; omega)⟩
      obtain ⟨g0, g1⟩ := hcell k _ hx
      have c0 : wr.cell? ⟨b, o + k * 2, none⟩ = some (.int .i64 x) := (hbl.cell (p := ⟨b, o + k * 2, none⟩) hbB).trans g0
      have c1 : wr.cell? ⟨b, o + k * 2 + 1, none⟩ = some (.int .i64 y) := (hbl.cell (p := ⟨b, o + k * 2 + 1, none⟩) hbB).trans g1
      have hst : stepQ s t xs k = (inB x 0 (t - 1) && inB y 0 (s - 1) && (k == 0 || lessQ (xs.getD (k - 1) (0, 0)) (x, y))) := by unfold stepQ; rw [getD_of hx]
      have HS := Lib.hid hst
      have HC := Lib.hid hcell
      have HX := Lib.hid hx
      clear hst g0 g1 hcell hx
      have WI : Hid (∀ w, Calls Try.prog 33 #[.int .i64 x, .int .i64 0, .int .i64 (t - 1)] w fun e w' => e = .returned (.bool (inB x 0 (t - 1))) ∧ w = w') := Lib.hid fun w => within_any _ _ _ w
      have WJ : Hid (∀ w, Calls Try.prog 33 #[.int .i64 y, .int .i64 0, .int .i64 (s - 1)] w fun e w' => e = .returned (.bool (inB y 0 (s - 1))) ∧ w = w') := Lib.hid fun w => within_any _ _ _ w
      cases hs1 : inB x 0 (t - 1)
      · rw [hs1] at WI
        go_wp2_with (go_at_call 33; refine (WI.out _).mono ?_; rintro e w' ⟨rfl, rfl⟩)
        go_ret
        exact ⟨by rw [pinsTo_stop (by omega) (HS.out.trans (by rw [hs1]; simp))]; rfl, hbl.alloc hbl.size _⟩
      rw [hs1] at WI
      cases hs2 : inB y 0 (s - 1)
      · rw [hs2] at WJ
        go_wp2_with (first | ((with_reducible (go_at_call 33; refine (WI.out _).mono ?_; rintro e w' ⟨rfl, rfl⟩))) | ((with_reducible (go_at_call 33; refine (WJ.out _).mono ?_; rintro e w' ⟨rfl, rfl⟩))))
        go_ret
        exact ⟨by rw [pinsTo_stop (by omega) (HS.out.trans (by rw [hs1, hs2]; simp))]; rfl, hbl.alloc hbl.size _⟩
      rw [hs2] at WJ
      have HS1 := Lib.hid hs1
      have HS2 := Lib.hid hs2
      clear hs1 hs2
      by_cases hk0 : (0 : Int) < k
      case neg =>
        have hk1 : (k == 0) = true := by simp; omega
        have HK := Lib.hid hk1
        clear hk1
        have hg : decide (0 < k) = false := by simp; omega
        have hgn : ¬ 0 < k := by omega
        go_wp2_with (first | ((with_reducible (go_at_call 33; refine (WI.out _).mono ?_; rintro e w' ⟨rfl, rfl⟩))) | ((with_reducible (go_at_call 33; refine (WJ.out _).mono ?_; rintro e w' ⟨rfl, rfl⟩))))
        go_quiet (fail)
        go_wp2
        go_roundw
        case rel => exact ⟨k + 1, by omega, by go_num, pinsTo_step HA.out (HS.out.trans (by rw [HS1.out, HS2.out, HK.out]; simp)), (HB.out.alloc _).drewN _, (hbl.alloc hbl.size _).trans (Go.Joins.below_draws _ _ _)⟩
        case measure => simp [intOf]; omega
      obtain ⟨j, hj⟩ : ∃ j, k = j + 1 := ⟨k - 1, by omega⟩
      obtain ⟨⟨u, v⟩, hz⟩ : ∃ p, xs[j]? = some p := ⟨_, List.getElem?_eq_getElem (by rw [HL.out]; omega)⟩
      obtain ⟨g0, g1⟩ := HC.out j _ hz
      have d0 : wr.cell? ⟨b, o + j * 2, none⟩ = some (.int .i64 u) := (hbl.cell (p := ⟨b, o + j * 2, none⟩) hbB).trans g0
      have d1 : wr.cell? ⟨b, o + j * 2 + 1, none⟩ = some (.int .i64 v) := (hbl.cell (p := ⟨b, o + j * 2 + 1, none⟩) hbB).trans g1
      have hlp : lessQ (xs.getD (k - 1) (0, 0)) (x, y) = lessQ (u, v) (x, y) := by rw [show k - 1 = j by omega, getD_of hz]
      have HP := Lib.hid hlp
      have hbs : b < wr.heap.size := by have := hbl.size; omega
      clear hlp hz g0 g1
      have hjn : (j : Int) < n := by omega
      have hj0 : (0 : Int) ≤ j := by omega
      have hw : IntKind.i64.wrap ((k : Int) - 1) = (j : Int) := by rw [IntWalk.i64_in _ (by omega)]; omega
      have hg : decide (0 < k) = true := by simp; omega
      have hgn : 0 < k := by omega
      have HJ := Lib.hid hj
      clear hj
      have hlc : lessQ (u, v) (x, y) = decide (cmpQ (u, v) (x, y) < 0) := by unfold cmpQ; cases lessQ (u, v) (x, y) <;> simp; split <;> omega
      obtain ⟨cm, hcm⟩ : ∃ cm, cm = cmpQ (u, v) (x, y) := ⟨_, rfl⟩
      rw [← hcm] at hlc
      have hless : ∀ w, Calls Try.prog 45 #[.agg #[.int .i64 u, .int .i64 v], .agg #[.int .i64 x, .int .i64 y]] w fun e w' => e = .returned (.int .i64 cm) ∧ Below w.heap.size w w' := fun w => by rw [hcm]; exact (iCmpQ _ _ _ _ w).mono fun _ _ ⟨he, hw⟩ => ⟨he, by rw [hw]; exact pinBoxes_below _ _ _⟩
      have Q3 := Lib.hid hless
      clear hcm hless
      cases hs3 : lessQ (u, v) (x, y)
      · rw [hs3] at hlc
        have hc0 : 0 ≤ cm := by simpa using hlc.symm
        clear hlc
        go_wp2_with (first | ((with_reducible (go_at_call 33; refine (WI.out _).mono ?_; rintro e w' ⟨rfl, rfl⟩))) | ((with_reducible (go_at_call 33; refine (WJ.out _).mono ?_; rintro e w' ⟨rfl, rfl⟩))))
        have q0 : (wr.alloc (.cells #[.int .i64 x, .int .i64 y] 50)).cell? ⟨wr.heap.size, 0, none⟩ = some (.int .i64 x) := (Blk.new _ _ _).c2.1
        have q1 : (wr.alloc (.cells #[.int .i64 x, .int .i64 y] 50)).cell? ⟨wr.heap.size, 1, none⟩ = some (.int .i64 y) := (Blk.new _ _ _).c2.2
        have d0a : (wr.alloc (.cells #[.int .i64 x, .int .i64 y] 50)).cell? ⟨b, o + j * 2, none⟩ = some (.int .i64 u) := (World.cell?_alloc_lt wr _ _ hbs).trans d0
        have d1a : (wr.alloc (.cells #[.int .i64 x, .int .i64 y] 50)).cell? ⟨b, o + j * 2 + 1, none⟩ = some (.int .i64 v) := (World.cell?_alloc_lt wr _ _ hbs).trans d1
        have r0 := (HB.out.alloc (.cells #[.int .i64 x, .int .i64 y] 50)).c3.1
        have r1 := (HB.out.alloc (.cells #[.int .i64 x, .int .i64 y] 50)).c3.2.1
        have r2 := (HB.out.alloc (.cells #[.int .i64 x, .int .i64 y] 50)).c3.2.2
        have hww : wr.heap.size < (wr.alloc (.cells #[.int .i64 x, .int .i64 y] 50)).heap.size := (Blk.new _ _ _).lt
        have hbs2 : b < (wr.alloc (.cells #[.int .i64 x, .int .i64 y] 50)).heap.size := Nat.lt_trans hbs hww
        have hws2 : w.heap.size < (wr.alloc (.cells #[.int .i64 x, .int .i64 y] 50)).heap.size := Nat.lt_trans hws hww
        go_region_held3 (fun w' => w'.cell? ⟨wr.heap.size, 0, none⟩ = some (.int .i64 x) ∧ w'.cell? ⟨wr.heap.size, 1, none⟩ = some (.int .i64 y) ∧ w'.cell? ⟨b, o + j * 2, none⟩ = some (.int .i64 u) ∧ w'.cell? ⟨b, o + j * 2 + 1, none⟩ = some (.int .i64 v) ∧ w'.cell? ⟨w.heap.size, 0, none⟩ = some (.int .i64 s) ∧ w'.cell? ⟨w.heap.size, 1, none⟩ = some (.int .i64 t) ∧ w'.cell? ⟨w.heap.size, 2, none⟩ = some (.slice (some ⟨b, o, none⟩) n c)) (first | exact ⟨q0, q1, d0a, d1a, r0, r1, r2⟩ | exact ⟨k0, k1, k2, k3, k4, k5, k6⟩) ((go_at_call 45; refine (Q3.out _).mono ?_; rintro e w1 ⟨rfl, hb1⟩; have k0 := (hb1.cell (p := ⟨wr.heap.size, 0, none⟩) hww).trans q0; have k1 := (hb1.cell (p := ⟨wr.heap.size, 1, none⟩) hww).trans q1; have k2 := (hb1.cell (p := ⟨b, o + j * 2, none⟩) hbs2).trans d0a; have k3 := (hb1.cell (p := ⟨b, o + j * 2 + 1, none⟩) hbs2).trans d1a; have k4 := (hb1.cell (p := ⟨w.heap.size, 0, none⟩) hws2).trans r0; have k5 := (hb1.cell (p := ⟨w.heap.size, 1, none⟩) hws2).trans r1; have k6 := (hb1.cell (p := ⟨w.heap.size, 2, none⟩) hws2).trans r2))
        all_goals
          go_wp2
          go_ret
          exact ⟨by rw [pinsTo_stop (by omega) (HS.out.trans (by rw [HP.out, HS1.out, HS2.out, hs3]; simp; omega))]; rfl, (hbl.alloc hbl.size _).drew.trans (hb1.mono (hbl.alloc hbl.size _).size)⟩
      · rw [hs3] at hlc
        have hc0 : cm < 0 := by simpa using hlc.symm
        clear hlc
        go_wp2_with (first | ((with_reducible (go_at_call 33; refine (WI.out _).mono ?_; rintro e w' ⟨rfl, rfl⟩))) | ((with_reducible (go_at_call 33; refine (WJ.out _).mono ?_; rintro e w' ⟨rfl, rfl⟩))))
        have q0 : (wr.alloc (.cells #[.int .i64 x, .int .i64 y] 50)).cell? ⟨wr.heap.size, 0, none⟩ = some (.int .i64 x) := (Blk.new _ _ _).c2.1
        have q1 : (wr.alloc (.cells #[.int .i64 x, .int .i64 y] 50)).cell? ⟨wr.heap.size, 1, none⟩ = some (.int .i64 y) := (Blk.new _ _ _).c2.2
        have d0a : (wr.alloc (.cells #[.int .i64 x, .int .i64 y] 50)).cell? ⟨b, o + j * 2, none⟩ = some (.int .i64 u) := (World.cell?_alloc_lt wr _ _ hbs).trans d0
        have d1a : (wr.alloc (.cells #[.int .i64 x, .int .i64 y] 50)).cell? ⟨b, o + j * 2 + 1, none⟩ = some (.int .i64 v) := (World.cell?_alloc_lt wr _ _ hbs).trans d1
        have r0 := (HB.out.alloc (.cells #[.int .i64 x, .int .i64 y] 50)).c3.1
        have r1 := (HB.out.alloc (.cells #[.int .i64 x, .int .i64 y] 50)).c3.2.1
        have r2 := (HB.out.alloc (.cells #[.int .i64 x, .int .i64 y] 50)).c3.2.2
        have hww : wr.heap.size < (wr.alloc (.cells #[.int .i64 x, .int .i64 y] 50)).heap.size := (Blk.new _ _ _).lt
        have hbs2 : b < (wr.alloc (.cells #[.int .i64 x, .int .i64 y] 50)).heap.size := Nat.lt_trans hbs hww
        have hws2 : w.heap.size < (wr.alloc (.cells #[.int .i64 x, .int .i64 y] 50)).heap.size := Nat.lt_trans hws hww
        go_region_held3 (fun w' => w'.cell? ⟨wr.heap.size, 0, none⟩ = some (.int .i64 x) ∧ w'.cell? ⟨wr.heap.size, 1, none⟩ = some (.int .i64 y) ∧ w'.cell? ⟨b, o + j * 2, none⟩ = some (.int .i64 u) ∧ w'.cell? ⟨b, o + j * 2 + 1, none⟩ = some (.int .i64 v) ∧ w'.cell? ⟨w.heap.size, 0, none⟩ = some (.int .i64 s) ∧ w'.cell? ⟨w.heap.size, 1, none⟩ = some (.int .i64 t) ∧ w'.cell? ⟨w.heap.size, 2, none⟩ = some (.slice (some ⟨b, o, none⟩) n c)) (first | exact ⟨q0, q1, d0a, d1a, r0, r1, r2⟩ | exact ⟨k0, k1, k2, k3, k4, k5, k6⟩) ((go_at_call 45; refine (Q3.out _).mono ?_; rintro e w1 ⟨rfl, hb1⟩; have k0 := (hb1.cell (p := ⟨wr.heap.size, 0, none⟩) hww).trans q0; have k1 := (hb1.cell (p := ⟨wr.heap.size, 1, none⟩) hww).trans q1; have k2 := (hb1.cell (p := ⟨b, o + j * 2, none⟩) hbs2).trans d0a; have k3 := (hb1.cell (p := ⟨b, o + j * 2 + 1, none⟩) hbs2).trans d1a; have k4 := (hb1.cell (p := ⟨w.heap.size, 0, none⟩) hws2).trans r0; have k5 := (hb1.cell (p := ⟨w.heap.size, 1, none⟩) hws2).trans r1; have k6 := (hb1.cell (p := ⟨w.heap.size, 2, none⟩) hws2).trans r2))
        all_goals
          have KB : Hid (Blk w1 w.heap.size 28 #[.int .i64 s, .int .i64 t, .slice (some ⟨b, o, none⟩) n c]) := Lib.hid (Blk.below (B := (wr.alloc (.cells #[.int .i64 x, .int .i64 y] 50)).drew.heap.size) ((HB.out.alloc (.cells #[.int .i64 x, .int .i64 y] 50)).drewN 1) hb1 hws2)
          go_wp2
          go_roundw
          case rel => exact ⟨k + 1, by omega, by go_num, pinsTo_step HA.out (HS.out.trans (by rw [HP.out, HS1.out, HS2.out, hs3]; simp)), KB.out, (hbl.alloc hbl.size _).drew.trans (hb1.mono (hbl.alloc hbl.size _).size)⟩
          case measure => simp [intOf]; omega
    · obtain rfl : k = n := by omega
      go_wp2
      go_ret
      exact ⟨by rw [HA.out]; rfl, hbl⟩

set_option maxHeartbeats 1000000 in
theorem sCylOk (s t : Int) (A : Option Addr) (n c : Nat) (xs : List (Int × Int)) (w : World) (h : Rd w w.heap.size 2 A n (pc xs)) (hn : n ≤ 1048576) :
    Calls Try.prog 30 #[.agg #[.int .i64 s, .int .i64 t, .slice A n c]] w fun e w' => e = .returned (.bool (cylB s t xs)) ∧ Below w.heap.size w w' := by
  have hlen := h.pair
  have H := Lib.hid h
  have HL := Lib.hid hlen
  unfold cylB
  rw [HL.out]
  clear h hlen
  cases hs : inB s 4 96
  · rw [Bool.false_and, Bool.false_and, Bool.false_and]
    go_enter Try.func30, Try.ntmps30
    go_wp2_with (go_at_call 31; refine (l01In_any _ _ _ _).mono ?_; rintro e w' ⟨rfl, rfl⟩; rw [hs])
    go_ret
    exact ⟨rfl, by (repeat (first | exact Below.refl _ _ | assumption | refine Below.alloc ?_ (by first | omega | (simp <;> omega)) _ | refine Below.setCell ?_ (by first | omega | (simp <;> omega)) _ | refine Below.drew ?_ | refine Below.trans ?_ (Below.mono (by assumption) (by first | omega | (simp <;> omega)))))⟩
  cases ht : inB t 1 100
  · rw [Bool.and_false, Bool.false_and, Bool.false_and]
    go_enter Try.func30, Try.ntmps30
    go_wp2_with (go_at_call 31; refine (l01In_any _ _ _ _).mono ?_; rintro e w' ⟨rfl, rfl⟩; (first | rw [hs] | rw [ht]))
    go_ret
    exact ⟨rfl, by (repeat (first | exact Below.refl _ _ | assumption | refine Below.alloc ?_ (by first | omega | (simp <;> omega)) _ | refine Below.setCell ?_ (by first | omega | (simp <;> omega)) _ | refine Below.drew ?_ | refine Below.trans ?_ (Below.mono (by assumption) (by first | omega | (simp <;> omega)))))⟩
  rw [Bool.true_and, Bool.true_and]
  by_cases h100 : (n : Int) ≤ 100
  case neg =>
    rw [show decide (n ≤ 100) = false by simp; omega, Bool.false_and]
    go_enter Try.func30, Try.ntmps30
    go_wp2_with (go_at_call 31; refine (l01In_any _ _ _ _).mono ?_; rintro e w' ⟨rfl, rfl⟩; (first | rw [hs] | rw [ht]))
    go_ret
    exact ⟨rfl, by (repeat (first | exact Below.refl _ _ | assumption | refine Below.alloc ?_ (by first | omega | (simp <;> omega)) _ | refine Below.setCell ?_ (by first | omega | (simp <;> omega)) _ | refine Below.drew ?_ | refine Below.trans ?_ (Below.mono (by assumption) (by first | omega | (simp <;> omega)))))⟩
  rw [show decide (n ≤ 100) = true by simp; omega, Bool.true_and]
  obtain ⟨hs0, hs1⟩ := inB_iff.1 hs
  obtain ⟨ht0, ht1⟩ := inB_iff.1 ht
  go_enter Try.func30, Try.ntmps30
  go_wp2_with (go_at_call 31; refine (l01In_any _ _ _ _).mono ?_; rintro e w' ⟨rfl, rfl⟩; (first | rw [hs] | rw [ht]))
  go_loopw [3] (fun i wr => ∃ k : Nat, k ≤ n ∧ i = .int .i64 k ∧ pinsTo s t xs k = true ∧ Blk wr w.heap.size 28 #[.int .i64 s, .int .i64 t, .slice A n c] ∧ Below w.heap.size w wr) (fun i _ => n - (intOf i).toNat)
  case atStart => exact ⟨0, Nat.zero_le _, rfl, rfl, Blk.new _ _ _, by (repeat (first | exact Below.refl _ _ | assumption | refine Below.alloc ?_ (by first | omega | (simp <;> omega)) _ | refine Below.setCell ?_ (by first | omega | (simp <;> omega)) _ | refine Below.drew ?_ | refine Below.trans ?_ (Below.mono (by assumption) (by first | omega | (simp <;> omega)))))⟩
  case round =>
    obtain ⟨k, hk, rfl, hall, hB, hbl⟩ := hrel
    have HA := Lib.hid hall
    have HB := Lib.hid hB
    obtain ⟨e0, e1, e2⟩ := hB.c3
    have hws := hB.lt
    clear hall hB
    by_cases hlt : (k : Int) < n
    · obtain ⟨b, o, rfl, hbB, hcell⟩ := H.out.pairAt (by omega)
      obtain ⟨⟨x, y⟩, hx⟩ : ∃ p, xs[k]? = some p := ⟨_, List.getElem?_eq_getElem (by rw [HL.out]; omega)⟩
      obtain ⟨g0, g1⟩ := hcell k _ hx
      have c0 : wr.cell? ⟨b, o + k * 2, none⟩ = some (.int .i64 x) := (hbl.cell (p := ⟨b, o + k * 2, none⟩) hbB).trans g0
      have c1 : wr.cell? ⟨b, o + k * 2 + 1, none⟩ = some (.int .i64 y) := (hbl.cell (p := ⟨b, o + k * 2 + 1, none⟩) hbB).trans g1
      have hst : stepQ s t xs k = (inB x 0 (t - 1) && inB y 0 (s - 1) && (k == 0 || lessQ (xs.getD (k - 1) (0, 0)) (x, y))) := by unfold stepQ; rw [getD_of hx]
      have HS := Lib.hid hst
      have HC := Lib.hid hcell
      have HX := Lib.hid hx
      clear hst g0 g1 hcell hx
      cases hs1 : inB x 0 (t - 1)
      · go_wp2
        go_quiet ((go_at_call 31; exact qIn hs1))
        go_wp2
        go_ret
        exact ⟨by rw [pinsTo_stop (by omega) (HS.out.trans (by rw [hs1]; simp))]; rfl, (hbl.alloc hbl.size _).trans (Go.Joins.below_draws _ _ _)⟩
      cases hs2 : inB y 0 (s - 1)
      · go_wp2
        go_quiet ((go_at_call 31; first | exact qIn hs1 | exact qIn hs2))
        go_wp2
        go_ret
        exact ⟨by rw [pinsTo_stop (by omega) (HS.out.trans (by rw [hs1, hs2]; simp))]; rfl, (hbl.alloc hbl.size _).trans (Go.Joins.below_draws _ _ _)⟩
      by_cases hk0 : (0 : Int) < k
      case neg =>
        have hk1 : (k == 0) = true := by simp; omega
        have HK := Lib.hid hk1
        clear hk1
        have hg : decide (0 < k) = false := by simp; omega
        have hgn : ¬ 0 < k := by omega
        go_wp2
        go_quiet ((go_at_call 31; first | exact qIn hs1 | exact qIn hs2))
        go_wp2
        go_roundw
        case rel => exact ⟨k + 1, by omega, by go_num, pinsTo_step HA.out (HS.out.trans (by rw [hs1, hs2, HK.out]; simp)), (HB.out.alloc _).drewN _, (hbl.alloc hbl.size _).trans (Go.Joins.below_draws _ _ _)⟩
        case measure => simp [intOf]; omega
      obtain ⟨j, hj⟩ : ∃ j, k = j + 1 := ⟨k - 1, by omega⟩
      obtain ⟨⟨u, v⟩, hz⟩ : ∃ p, xs[j]? = some p := ⟨_, List.getElem?_eq_getElem (by rw [HL.out]; omega)⟩
      obtain ⟨g0, g1⟩ := HC.out j _ hz
      have d0 : wr.cell? ⟨b, o + j * 2, none⟩ = some (.int .i64 u) := (hbl.cell (p := ⟨b, o + j * 2, none⟩) hbB).trans g0
      have d1 : wr.cell? ⟨b, o + j * 2 + 1, none⟩ = some (.int .i64 v) := (hbl.cell (p := ⟨b, o + j * 2 + 1, none⟩) hbB).trans g1
      have hlp : lessQ (xs.getD (k - 1) (0, 0)) (x, y) = lessQ (u, v) (x, y) := by rw [show k - 1 = j by omega, getD_of hz]
      have HP := Lib.hid hlp
      have hbs : b < wr.heap.size := by have := hbl.size; omega
      clear hlp hz g0 g1
      have hjn : (j : Int) < n := by omega
      have hj0 : (0 : Int) ≤ j := by omega
      have hw : IntKind.i64.wrap ((k : Int) - 1) = (j : Int) := by rw [IntWalk.i64_in _ (by omega)]; omega
      have hg : decide (0 < k) = true := by simp; omega
      have hgn : 0 < k := by omega
      have HJ := Lib.hid hj
      clear hj
      have hless : ∀ w, Calls Try.prog 46 #[.agg #[.int .i64 u, .int .i64 v], .agg #[.int .i64 x, .int .i64 y]] w fun e w' => e = .returned (.bool (lessQ (u, v) (x, y))) ∧ Below w.heap.size w w' := fun w => (sLessQ _ _ _ _ w).mono fun _ _ ⟨he, hw⟩ => ⟨he, by rw [hw]; exact pinBoxes_below _ _ _⟩
      have ht1 : IntKind.i64.wrap (t - 1) = t - 1 := IntWalk.i64_in _ (by omega)
      have hs1' : IntKind.i64.wrap (s - 1) = s - 1 := IntWalk.i64_in _ (by omega)
      cases hs3 : lessQ (u, v) (x, y)
      · rw [hs3] at hless
        have Q3 := Lib.hid hless
        clear hless
        go_wp2
        have q0 : (wr.alloc (.cells #[.int .i64 x, .int .i64 y] 50)).cell? ⟨wr.heap.size, 0, none⟩ = some (.int .i64 x) := (Blk.new _ _ _).c2.1
        have q1 : (wr.alloc (.cells #[.int .i64 x, .int .i64 y] 50)).cell? ⟨wr.heap.size, 1, none⟩ = some (.int .i64 y) := (Blk.new _ _ _).c2.2
        have d0a : (wr.alloc (.cells #[.int .i64 x, .int .i64 y] 50)).cell? ⟨b, o + j * 2, none⟩ = some (.int .i64 u) := (World.cell?_alloc_lt wr _ _ hbs).trans d0
        have d1a : (wr.alloc (.cells #[.int .i64 x, .int .i64 y] 50)).cell? ⟨b, o + j * 2 + 1, none⟩ = some (.int .i64 v) := (World.cell?_alloc_lt wr _ _ hbs).trans d1
        have r0 := (HB.out.alloc (.cells #[.int .i64 x, .int .i64 y] 50)).c3.1
        have r1 := (HB.out.alloc (.cells #[.int .i64 x, .int .i64 y] 50)).c3.2.1
        have r2 := (HB.out.alloc (.cells #[.int .i64 x, .int .i64 y] 50)).c3.2.2
        have hww : wr.heap.size < (wr.alloc (.cells #[.int .i64 x, .int .i64 y] 50)).heap.size := (Blk.new _ _ _).lt
        have hbs2 : b < (wr.alloc (.cells #[.int .i64 x, .int .i64 y] 50)).heap.size := Nat.lt_trans hbs hww
        have hws2 : w.heap.size < (wr.alloc (.cells #[.int .i64 x, .int .i64 y] 50)).heap.size := Nat.lt_trans hws hww
        go_region_held3 (fun w' => w'.cell? ⟨wr.heap.size, 0, none⟩ = some (.int .i64 x) ∧ w'.cell? ⟨wr.heap.size, 1, none⟩ = some (.int .i64 y) ∧ w'.cell? ⟨b, o + j * 2, none⟩ = some (.int .i64 u) ∧ w'.cell? ⟨b, o + j * 2 + 1, none⟩ = some (.int .i64 v) ∧ w'.cell? ⟨w.heap.size, 0, none⟩ = some (.int .i64 s) ∧ w'.cell? ⟨w.heap.size, 1, none⟩ = some (.int .i64 t) ∧ w'.cell? ⟨w.heap.size, 2, none⟩ = some (.slice (some ⟨b, o, none⟩) n c)) (first | exact ⟨q0, q1, d0a, d1a, r0, r1, r2⟩ | exact ⟨k0, k1, k2, k3, k4, k5, k6⟩) (first
          | (go_at_call 31; refine (l01In_any _ _ _ _).mono ?_; rintro e w1 ⟨he, rfl⟩; (first | rw [hs1] at he | rw [hs2] at he); subst he)
          | (go_at_call 46; refine (Q3.out _).mono ?_; rintro e w1 ⟨rfl, hb1⟩; have k0 := (hb1.cell (p := ⟨wr.heap.size, 0, none⟩) hww).trans q0; have k1 := (hb1.cell (p := ⟨wr.heap.size, 1, none⟩) hww).trans q1; have k2 := (hb1.cell (p := ⟨b, o + j * 2, none⟩) hbs2).trans d0a; have k3 := (hb1.cell (p := ⟨b, o + j * 2 + 1, none⟩) hbs2).trans d1a; have k4 := (hb1.cell (p := ⟨w.heap.size, 0, none⟩) hws2).trans r0; have k5 := (hb1.cell (p := ⟨w.heap.size, 1, none⟩) hws2).trans r1; have k6 := (hb1.cell (p := ⟨w.heap.size, 2, none⟩) hws2).trans r2))
        all_goals
          go_wp2
          go_ret
          exact ⟨by rw [pinsTo_stop (by omega) (HS.out.trans (by rw [HP.out, hs1, hs2, hs3]; simp; omega))]; rfl, (hbl.alloc hbl.size _).drew.trans (hb1.mono (hbl.alloc hbl.size _).size)⟩
      · rw [hs3] at hless
        have Q3 := Lib.hid hless
        clear hless
        go_wp2
        have q0 : (wr.alloc (.cells #[.int .i64 x, .int .i64 y] 50)).cell? ⟨wr.heap.size, 0, none⟩ = some (.int .i64 x) := (Blk.new _ _ _).c2.1
        have q1 : (wr.alloc (.cells #[.int .i64 x, .int .i64 y] 50)).cell? ⟨wr.heap.size, 1, none⟩ = some (.int .i64 y) := (Blk.new _ _ _).c2.2
        have d0a : (wr.alloc (.cells #[.int .i64 x, .int .i64 y] 50)).cell? ⟨b, o + j * 2, none⟩ = some (.int .i64 u) := (World.cell?_alloc_lt wr _ _ hbs).trans d0
        have d1a : (wr.alloc (.cells #[.int .i64 x, .int .i64 y] 50)).cell? ⟨b, o + j * 2 + 1, none⟩ = some (.int .i64 v) := (World.cell?_alloc_lt wr _ _ hbs).trans d1
        have r0 := (HB.out.alloc (.cells #[.int .i64 x, .int .i64 y] 50)).c3.1
        have r1 := (HB.out.alloc (.cells #[.int .i64 x, .int .i64 y] 50)).c3.2.1
        have r2 := (HB.out.alloc (.cells #[.int .i64 x, .int .i64 y] 50)).c3.2.2
        have hww : wr.heap.size < (wr.alloc (.cells #[.int .i64 x, .int .i64 y] 50)).heap.size := (Blk.new _ _ _).lt
        have hbs2 : b < (wr.alloc (.cells #[.int .i64 x, .int .i64 y] 50)).heap.size := Nat.lt_trans hbs hww
        have hws2 : w.heap.size < (wr.alloc (.cells #[.int .i64 x, .int .i64 y] 50)).heap.size := Nat.lt_trans hws hww
        go_region_held3 (fun w' => w'.cell? ⟨wr.heap.size, 0, none⟩ = some (.int .i64 x) ∧ w'.cell? ⟨wr.heap.size, 1, none⟩ = some (.int .i64 y) ∧ w'.cell? ⟨b, o + j * 2, none⟩ = some (.int .i64 u) ∧ w'.cell? ⟨b, o + j * 2 + 1, none⟩ = some (.int .i64 v) ∧ w'.cell? ⟨w.heap.size, 0, none⟩ = some (.int .i64 s) ∧ w'.cell? ⟨w.heap.size, 1, none⟩ = some (.int .i64 t) ∧ w'.cell? ⟨w.heap.size, 2, none⟩ = some (.slice (some ⟨b, o, none⟩) n c)) (first | exact ⟨q0, q1, d0a, d1a, r0, r1, r2⟩ | exact ⟨k0, k1, k2, k3, k4, k5, k6⟩) (first
          | (go_at_call 31; refine (l01In_any _ _ _ _).mono ?_; rintro e w1 ⟨he, rfl⟩; (first | rw [hs1] at he | rw [hs2] at he); subst he)
          | (go_at_call 46; refine (Q3.out _).mono ?_; rintro e w1 ⟨rfl, hb1⟩; have k0 := (hb1.cell (p := ⟨wr.heap.size, 0, none⟩) hww).trans q0; have k1 := (hb1.cell (p := ⟨wr.heap.size, 1, none⟩) hww).trans q1; have k2 := (hb1.cell (p := ⟨b, o + j * 2, none⟩) hbs2).trans d0a; have k3 := (hb1.cell (p := ⟨b, o + j * 2 + 1, none⟩) hbs2).trans d1a; have k4 := (hb1.cell (p := ⟨w.heap.size, 0, none⟩) hws2).trans r0; have k5 := (hb1.cell (p := ⟨w.heap.size, 1, none⟩) hws2).trans r1; have k6 := (hb1.cell (p := ⟨w.heap.size, 2, none⟩) hws2).trans r2))
        all_goals
          have KB : Hid (Blk w1 w.heap.size 28 #[.int .i64 s, .int .i64 t, .slice (some ⟨b, o, none⟩) n c]) := Lib.hid (Blk.below (B := (wr.alloc (.cells #[.int .i64 x, .int .i64 y] 50)).drew.heap.size) ((HB.out.alloc (.cells #[.int .i64 x, .int .i64 y] 50)).drewN 1) hb1 hws2)
          go_wp2
          go_roundw
          case rel => exact ⟨k + 1, by omega, by go_num, pinsTo_step HA.out (HS.out.trans (by rw [HP.out, hs1, hs2, hs3]; simp)), KB.out, (hbl.alloc hbl.size _).drew.trans (hb1.mono (hbl.alloc hbl.size _).size)⟩
          case measure => simp [intOf]; omega
    · obtain rfl : k = n := by omega
      go_wp2
      go_ret
      exact ⟨by rw [HA.out]; rfl, hbl⟩


end Go.Proofs.Ytjklobhnidbinaa
