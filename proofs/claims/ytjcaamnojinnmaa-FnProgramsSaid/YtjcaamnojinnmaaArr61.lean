/-
  An array of 61 numbers that a function fills: its cells told by a function of the place. No program in sight but for the type of int.
-/
import Derived.Test.YtjcaamnojinnmaaProgMath
import Derived.Test.YtjcaamnojinnmaaMarkInt
import Derived.StillTailTactics
namespace Go.Proofs.Ytjcaamnojinnmaa
open Go.RowKit

def arrN (f : Nat → Nat) : Array Value := ((List.range 61).map fun p => Value.int .i64 ((f p : Nat) : Int)).toArray
def upd (f : Nat → Nat) (p m : Nat) : Nat → Nat := fun q => if q = p then m else f q
theorem arrN_size (f : Nat → Nat) : (arrN f).size = 61 := by simp [arrN]
theorem arrN_get (f : Nat → Nat) {p : Nat} (h : p < 61) : (arrN f)[p]? = some (.int .i64 ((f p : Nat) : Int)) := by simp [arrN, h]
theorem arrN_ext {cs : Array Value} {f : Nat → Nat} (hs : cs.size = 61) (h : ∀ p, p < 61 → cs[p]? = some (.int .i64 ((f p : Nat) : Int))) : cs = arrN f := by
  apply Array.ext_getElem?
  intro p
  by_cases hp : p < 61
  · rw [h p hp, arrN_get f hp]
  · rw [Array.getElem?_eq_none (by omega), Array.getElem?_eq_none (by rw [arrN_size]; omega)]
theorem arrN_set (f : Nat → Nat) {p m : Nat} (h : p < 61) : (arrN f).setIfInBounds p (.int .i64 (m : Int)) = arrN (upd f p m) := by
  refine arrN_ext (by simp [arrN_size]) fun q hq => ?_
  by_cases e : q = p
  · subst e
    rw [Array.getElem?_setIfInBounds_self_of_lt (by rw [arrN_size]; omega)]
    simp [upd]
  · rw [Array.getElem?_setIfInBounds_ne (by omega), arrN_get f hq]
    simp [upd, e]
theorem arrN_congr {f g : Nat → Nat} (h : ∀ p, p < 61 → f p = g p) : arrN f = arrN g := arrN_ext (arrN_size f) fun p hp => by rw [arrN_get f hp, h p hp]
theorem arrN_zero : madeCells #[.int .i64 0] 61 = arrN fun _ => 0 := arrN_ext (by simp [madeCells]) fun p hp => by
  simp [madeCells, hp, Nat.mod_one]
/-- the 61 numbers as a list -/
def listN (f : Nat → Nat) : List Int := (List.range 61).map fun p => ((f p : Nat) : Int)
theorem listN_len (f : Nat → Nat) : (listN f).length = 61 := by simp [listN]
theorem listN_get (f : Nat → Nat) {p : Nat} (h : p < 61) : (listN f)[p]? = some ((f p : Nat) : Int) := by simp [listN, h]
theorem arrN_list (f : Nat → Nat) : (arrN f).toList = (listN f).map (Value.int .i64) := by simp [arrN, listN]
theorem listN_congr {f g : Nat → Nat} (h : ∀ p, p < 61 → f p = g p) : listN f = listN g := by
  unfold listN
  exact List.map_congr_left fun p hp => by rw [h p (List.mem_range.1 hp)]
theorem make61 (w : World) : (Instr.makeSlice 23 (.int .i64 61) (.int .i64 61)).run Try.prog w = .ok (.slice (some ⟨w.heap.size, 0, none⟩) 61 61) (w.alloc (.cells (arrN fun _ => 0) 3)) := by
  have h := run_make_row' (P := Try.prog) 23 3 (.int .i64 0) 8 Try.underlying23 infoInt rfl .i64 .i64 61 (by omega) (by omega) w
  rw [show ((61 : Nat) : Int) = 61 from rfl] at h
  rw [h, ← arrN_zero]

end Go.Proofs.Ytjcaamnojinnmaa
