/-
  TuneOk of impl and of spec: is a tune ordered, within its bounds and not too long?
-/
import Derived.Test.YtjcaamnojinnmaaPairs
import Derived.Test.YtjcaamnojinnmaaWithin
import Derived.Deep.RegionWith
import Derived.Deep.RegionHeld3
import Derived.IntWalk
namespace Go.Proofs.Ytjcaamnojinnmaa
open Go.RowKit

theorem quiet_t {P : Program} {f : FuncId} {args : Array Value} {w : World} {n : Nat} {v : Value}
    (h : Calls P f args (w.drewN n) fun e w' => e = .returned v ∧ w.drewN n = w') : Calls P f args (w.drewN n) fun e w'' => e = .returned v ∧ ∃ m, w'' = w.drewN m :=
  h.mono fun _ _ ⟨he, hm⟩ => ⟨he, n, hm.symm⟩

theorem qIn {v lo hi : Int} {b : Bool} {w : World} {n : Nat} (h : inB v lo hi = b) :
    Calls Try.prog 40 #[.int .i64 v, .int .i64 lo, .int .i64 hi] (w.drewN n) fun e w'' => e = .returned (.bool b) ∧ ∃ m, w'' = w.drewN m := by
  subst h; exact quiet_t (l01In_any _ _ _ _)

def lessN (a b : Int × Int) : Bool := decide (a.1 < b.1 ∨ (a.1 = b.1 ∧ a.2 < b.2))
def cmpN (a b : Int × Int) : Int := if lessN a b = true then -1 else if a = b then 0 else 1

theorem sLess (a b x y : Int) (w : World) :
    Calls Try.prog 60 #[.agg #[.int .i64 a, .int .i64 b], .agg #[.int .i64 x, .int .i64 y]] w fun e w' => e = .returned (.bool (lessN (a, b) (x, y))) ∧ Below w.heap.size w w' := by
  by_cases h1 : a < x
  · rw [show lessN (a, b) (x, y) = true by simp [lessN, h1]]
    go_enter Try.func60, Try.ntmps60
    go_wp2
    go_ret
    exact ⟨rfl, by (repeat (first | exact Below.refl _ _ | assumption | refine Below.alloc ?_ (by first | omega | (simp <;> omega)) _ | refine Below.setCell ?_ (by first | omega | (simp <;> omega)) _ | refine Below.drew ?_ | refine Below.trans ?_ (Below.mono (by assumption) (by first | omega | (simp <;> omega)))))⟩
  by_cases h2 : x < a
  · rw [show lessN (a, b) (x, y) = false by simp [lessN]; omega]
    have h3 : (a == x) = false := by simp; omega
    go_enter Try.func60, Try.ntmps60
    go_wp2
    go_ret
    exact ⟨rfl, by (repeat (first | exact Below.refl _ _ | assumption | refine Below.alloc ?_ (by first | omega | (simp <;> omega)) _ | refine Below.setCell ?_ (by first | omega | (simp <;> omega)) _ | refine Below.drew ?_ | refine Below.trans ?_ (Below.mono (by assumption) (by first | omega | (simp <;> omega)))))⟩
  obtain rfl : a = x := by omega
  by_cases h4 : b < y
  · rw [show lessN (a, b) (a, y) = true by simp [lessN, h4]]
    go_enter Try.func60, Try.ntmps60
    go_wp2
    go_ret
    exact ⟨rfl, by (repeat (first | exact Below.refl _ _ | assumption | refine Below.alloc ?_ (by first | omega | (simp <;> omega)) _ | refine Below.setCell ?_ (by first | omega | (simp <;> omega)) _ | refine Below.drew ?_ | refine Below.trans ?_ (Below.mono (by assumption) (by first | omega | (simp <;> omega)))))⟩
  · rw [show lessN (a, b) (a, y) = false by simp [lessN]; omega]
    go_enter Try.func60, Try.ntmps60
    go_wp2
    go_ret
    exact ⟨rfl, by (repeat (first | exact Below.refl _ _ | assumption | refine Below.alloc ?_ (by first | omega | (simp <;> omega)) _ | refine Below.setCell ?_ (by first | omega | (simp <;> omega)) _ | refine Below.drew ?_ | refine Below.trans ?_ (Below.mono (by assumption) (by first | omega | (simp <;> omega)))))⟩

theorem iCompare (a b x y : Int) (w : World) :
    Calls Try.prog 61 #[.agg #[.int .i64 a, .int .i64 b], .agg #[.int .i64 x, .int .i64 y]] w fun e w' => e = .returned (.int .i64 (cmpN (a, b) (x, y))) ∧ Below w.heap.size w w' := by
  by_cases h1 : a < x
  · rw [show cmpN (a, b) (x, y) = -1 by simp [cmpN, lessN, h1]]
    go_enter Try.func61, Try.ntmps61
    go_wp2
    go_ret
    exact ⟨rfl, by (repeat (first | exact Below.refl _ _ | assumption | refine Below.alloc ?_ (by first | omega | (simp <;> omega)) _ | refine Below.setCell ?_ (by first | omega | (simp <;> omega)) _ | refine Below.drew ?_ | refine Below.trans ?_ (Below.mono (by assumption) (by first | omega | (simp <;> omega)))))⟩
  by_cases h2 : x < a
  · rw [show cmpN (a, b) (x, y) = 1 by simp [cmpN, lessN]; omega]
    have h3 : (a == x) = false := by simp; omega
    go_enter Try.func61, Try.ntmps61
    go_wp2
    go_ret
    exact ⟨rfl, by (repeat (first | exact Below.refl _ _ | assumption | refine Below.alloc ?_ (by first | omega | (simp <;> omega)) _ | refine Below.setCell ?_ (by first | omega | (simp <;> omega)) _ | refine Below.drew ?_ | refine Below.trans ?_ (Below.mono (by assumption) (by first | omega | (simp <;> omega)))))⟩
  obtain rfl : a = x := by omega
  by_cases h4 : b < y
  · rw [show cmpN (a, b) (a, y) = -1 by simp [cmpN, lessN, h4]]
    go_enter Try.func61, Try.ntmps61
    go_wp2
    go_ret
    exact ⟨rfl, by (repeat (first | exact Below.refl _ _ | assumption | refine Below.alloc ?_ (by first | omega | (simp <;> omega)) _ | refine Below.setCell ?_ (by first | omega | (simp <;> omega)) _ | refine Below.drew ?_ | refine Below.trans ?_ (Below.mono (by assumption) (by first | omega | (simp <;> omega)))))⟩
  by_cases h5 : y < b
  · rw [show cmpN (a, b) (a, y) = 1 by simp [cmpN, lessN]; omega]
    have h6 : (b == y) = false := by simp; omega
    go_enter Try.func61, Try.ntmps61
    go_wp2
    go_ret
    exact ⟨rfl, by (repeat (first | exact Below.refl _ _ | assumption | refine Below.alloc ?_ (by first | omega | (simp <;> omega)) _ | refine Below.setCell ?_ (by first | omega | (simp <;> omega)) _ | refine Below.drew ?_ | refine Below.trans ?_ (Below.mono (by assumption) (by first | omega | (simp <;> omega)))))⟩
  · obtain rfl : b = y := by omega
    rw [show cmpN (a, b) (a, b) = 0 by simp [cmpN, lessN]]
    go_enter Try.func61, Try.ntmps61
    go_wp2
    go_ret
    exact ⟨rfl, by (repeat (first | exact Below.refl _ _ | assumption | refine Below.alloc ?_ (by first | omega | (simp <;> omega)) _ | refine Below.setCell ?_ (by first | omega | (simp <;> omega)) _ | refine Below.drew ?_ | refine Below.trans ?_ (Below.mono (by assumption) (by first | omega | (simp <;> omega)))))⟩

def stepN (xs : List (Int × Int)) (k : Nat) : Bool :=
  inB (xs.getD k (0, 0)).1 0 1000 && inB (xs.getD k (0, 0)).2 0 60 && (k == 0 || lessN (xs.getD (k - 1) (0, 0)) (xs.getD k (0, 0)))
def tuneTo (xs : List (Int × Int)) (k : Nat) : Bool := (List.range k).all (stepN xs)
def tuneB (xs : List (Int × Int)) : Bool := tuneTo xs xs.length && decide (xs.length ≤ 40)
theorem tuneTo_step {xs : List (Int × Int)} {k : Nat} (h : tuneTo xs k = true) (h1 : stepN xs k = true) : tuneTo xs (k + 1) = true := by
  unfold tuneTo at *
  rw [List.range_succ, List.all_append, h]; simp [h1]
theorem tuneTo_stop {xs : List (Int × Int)} {k n : Nat} (hk : k < n) (h1 : stepN xs k = false) : tuneTo xs n = false := by
  rw [Bool.eq_false_iff]; intro ha
  have := List.all_eq_true.1 ha k (List.mem_range.2 hk)
  rw [h1] at this; cases this
theorem getD_of {α : Type} {xs : List α} {k : Nat} {p d : α} (h : xs[k]? = some p) : xs.getD k d = p := by rw [List.getD_eq_getElem?_getD, h]; rfl

set_option maxHeartbeats 1000000 in
theorem sTuneOk (A : Option Addr) (n c : Nat) (xs : List (Int × Int)) (w : World) (h : Rd w w.heap.size 2 A n (pc xs)) (hn : n ≤ 1048576) :
    Calls Try.prog 51 #[.slice A n c] w fun e w' => e = .returned (.bool (tuneB xs)) ∧ Below w.heap.size w w' := by
  have hlen := h.pair
  have H := Lib.hid h
  have HL := Lib.hid hlen
  unfold tuneB
  rw [HL.out]
  clear h hlen
  go_enter Try.func51, Try.ntmps51
  go_wp2
  go_loopw [3] (fun i wr => ∃ k : Nat, k ≤ n ∧ i = .int .i64 k ∧ tuneTo xs k = true ∧ Below w.heap.size w wr) (fun i _ => n - (intOf i).toNat)
  case atStart => exact ⟨0, Nat.zero_le _, rfl, rfl, by (repeat (first | exact Below.refl _ _ | assumption | refine Below.alloc ?_ (by first | omega | (simp <;> omega)) _ | refine Below.setCell ?_ (by first | omega | (simp <;> omega)) _ | refine Below.drew ?_ | refine Below.trans ?_ (Below.mono (by assumption) (by first | omega | (simp <;> omega)))))⟩
  case round =>
    obtain ⟨k, hk, rfl, hall, hbl⟩ := hrel
    have HA := Lib.hid hall
    clear hall
    by_cases hlt : (k : Int) < n
    · obtain ⟨b, o, rfl, hbB, hcell⟩ := H.out.pairAt (by omega)
      obtain ⟨⟨x, y⟩, hx⟩ : ∃ p, xs[k]? = some p := ⟨_, List.getElem?_eq_getElem (by rw [HL.out]; omega)⟩
      obtain ⟨g0, g1⟩ := hcell k _ hx
      have c0 : wr.cell? ⟨b, o + k * 2, none⟩ = some (.int .i64 x) := (hbl.cell (p := ⟨b, o + k * 2, none⟩) hbB).trans g0
      have c1 : wr.cell? ⟨b, o + k * 2 + 1, none⟩ = some (.int .i64 y) := (hbl.cell (p := ⟨b, o + k * 2 + 1, none⟩) hbB).trans g1
      have hst : stepN xs k = (inB x 0 1000 && inB y 0 60 && (k == 0 || lessN (xs.getD (k - 1) (0, 0)) (x, y))) := by unfold stepN; rw [getD_of hx]
      have HS := Lib.hid hst
      have HC := Lib.hid hcell
      have HX := Lib.hid hx
      clear hst g0 g1 hcell hx
      cases hs1 : inB x 0 1000
      · go_wp2
        go_quiet ((go_at_call 40; exact qIn hs1))
        go_wp2
        go_ret
        exact ⟨by rw [tuneTo_stop (by omega) (HS.out.trans (by rw [hs1]; simp))]; rfl, hbl.trans (Go.Joins.below_draws _ _ _)⟩
      cases hs2 : inB y 0 60
      · go_wp2
        go_quiet ((go_at_call 40; first | exact qIn hs1 | exact qIn hs2))
        go_wp2
        go_ret
        exact ⟨by rw [tuneTo_stop (by omega) (HS.out.trans (by rw [hs1, hs2]; simp))]; rfl, hbl.trans (Go.Joins.below_draws _ _ _)⟩
      by_cases hk0 : (0 : Int) < k
      case neg =>
        have hk1 : (k == 0) = true := by simp; omega
        have HK := Lib.hid hk1
        clear hk1
        have hg : decide (0 < k) = false := by simp; omega
        have hgn : ¬ 0 < k := by omega
        go_wp2
        go_quiet ((go_at_call 40; first | exact qIn hs1 | exact qIn hs2))
        go_wp2
        go_roundw
        case rel => exact ⟨k + 1, by omega, by go_num, tuneTo_step HA.out (HS.out.trans (by rw [hs1, hs2, HK.out]; simp)), hbl.trans (Go.Joins.below_draws _ _ _)⟩
        case measure => simp [intOf]; omega
      obtain ⟨j, hj⟩ : ∃ j, k = j + 1 := ⟨k - 1, by omega⟩
      obtain ⟨⟨u, v⟩, hz⟩ : ∃ p, xs[j]? = some p := ⟨_, List.getElem?_eq_getElem (by rw [HL.out]; omega)⟩
      obtain ⟨g0, g1⟩ := HC.out j _ hz
      have d0 : wr.cell? ⟨b, o + j * 2, none⟩ = some (.int .i64 u) := (hbl.cell (p := ⟨b, o + j * 2, none⟩) hbB).trans g0
      have d1 : wr.cell? ⟨b, o + j * 2 + 1, none⟩ = some (.int .i64 v) := (hbl.cell (p := ⟨b, o + j * 2 + 1, none⟩) hbB).trans g1
      have hlp : lessN (xs.getD (k - 1) (0, 0)) (x, y) = lessN (u, v) (x, y) := by rw [show k - 1 = j by omega, getD_of hz]
      have HP := Lib.hid hlp
      have hbs : b < wr.heap.size := by have := hbl.size; omega
      clear hlp hz g0 g1
      have hjn : (j : Int) < n := by omega
      have hj0 : (0 : Int) ≤ j := by omega
      have hw : IntKind.i64.wrap ((k : Int) - 1) = (j : Int) := by rw [IntWalk.i64_in _ (by omega)]; omega
      have hg : decide (0 < k) = true := by simp; omega
      have hgn : 0 < k := by omega
      have HJ := Lib.hid hj
      clear hj
      have hless : ∀ w, Calls Try.prog 60 #[.agg #[.int .i64 u, .int .i64 v], .agg #[.int .i64 x, .int .i64 y]] w fun e w' => e = .returned (.bool (lessN (u, v) (x, y))) ∧ Below w.heap.size w w' := fun w => sLess _ _ _ _ _
      cases hs3 : lessN (u, v) (x, y)
      · rw [hs3] at hless
        have Q3 := Lib.hid hless
        clear hless
        go_wp2
        go_region_held3 (fun w' => w'.cell? ⟨b, o + k * 2, none⟩ = some (.int .i64 x) ∧ w'.cell? ⟨b, o + k * 2 + 1, none⟩ = some (.int .i64 y) ∧ w'.cell? ⟨b, o + j * 2, none⟩ = some (.int .i64 u) ∧ w'.cell? ⟨b, o + j * 2 + 1, none⟩ = some (.int .i64 v)) (first | exact ⟨c0, c1, d0, d1⟩ | exact ⟨k0, k1, k2, k3⟩) (first
          | (go_at_call 40; refine (l01In_any _ _ _ _).mono ?_; rintro e w1 ⟨he, rfl⟩; (first | rw [hs1] at he | rw [hs2] at he); subst he)
          | (go_at_call 60; refine (Q3.out _).mono ?_; rintro e w1 ⟨rfl, hb1⟩; have k0 := (hb1.cell (p := ⟨b, o + k * 2, none⟩) hbs).trans c0; have k1 := (hb1.cell (p := ⟨b, o + k * 2 + 1, none⟩) hbs).trans c1; have k2 := (hb1.cell (p := ⟨b, o + j * 2, none⟩) hbs).trans d0; have k3 := (hb1.cell (p := ⟨b, o + j * 2 + 1, none⟩) hbs).trans d1))
        all_goals
          go_wp2
          go_ret
          exact ⟨by rw [tuneTo_stop (by omega) (HS.out.trans (by rw [HP.out, hs1, hs2, hs3]; simp; omega))]; rfl, hbl.drew.trans (hb1.mono hbl.size)⟩
      · rw [hs3] at hless
        have Q3 := Lib.hid hless
        clear hless
        go_wp2
        go_region_held3 (fun w' => w'.cell? ⟨b, o + k * 2, none⟩ = some (.int .i64 x) ∧ w'.cell? ⟨b, o + k * 2 + 1, none⟩ = some (.int .i64 y) ∧ w'.cell? ⟨b, o + j * 2, none⟩ = some (.int .i64 u) ∧ w'.cell? ⟨b, o + j * 2 + 1, none⟩ = some (.int .i64 v)) (first | exact ⟨c0, c1, d0, d1⟩ | exact ⟨k0, k1, k2, k3⟩) (first
          | (go_at_call 40; refine (l01In_any _ _ _ _).mono ?_; rintro e w1 ⟨he, rfl⟩; (first | rw [hs1] at he | rw [hs2] at he); subst he)
          | (go_at_call 60; refine (Q3.out _).mono ?_; rintro e w1 ⟨rfl, hb1⟩; have k0 := (hb1.cell (p := ⟨b, o + k * 2, none⟩) hbs).trans c0; have k1 := (hb1.cell (p := ⟨b, o + k * 2 + 1, none⟩) hbs).trans c1; have k2 := (hb1.cell (p := ⟨b, o + j * 2, none⟩) hbs).trans d0; have k3 := (hb1.cell (p := ⟨b, o + j * 2 + 1, none⟩) hbs).trans d1))
        all_goals
          go_wp2
          go_roundw
          case rel => exact ⟨k + 1, by omega, by go_num, tuneTo_step HA.out (HS.out.trans (by rw [HP.out, hs1, hs2, hs3]; simp)), hbl.drew.trans (hb1.mono hbl.size)⟩
          case measure => simp [intOf]; omega
    · obtain rfl : k = n := by omega
      by_cases h40 : (k : Int) ≤ 40
      · go_wp2
        go_ret
        exact ⟨by rw [HA.out, show decide (k ≤ 40) = true by simp; omega]; simp, hbl⟩
      · go_wp2
        go_ret
        exact ⟨by rw [HA.out, show decide (k ≤ 40) = false by simp; omega]; simp, hbl⟩

end Go.Proofs.Ytjcaamnojinnmaa
