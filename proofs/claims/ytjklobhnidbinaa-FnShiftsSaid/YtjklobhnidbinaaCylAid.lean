/-
  A cylinder and a bool that a call made, and what the walks of such calls need.
-/
import Derived.Test.YtjklobhnidbinaaAppPin
import Derived.Test.YtjklobhnidbinaaCylOk
import Derived.Test.YtjklobhnidbinaaShiftMath
import Derived.Deep.RegionLaw
namespace Go.Proofs.Ytjklobhnidbinaa
open Go.RowKit

/-- a cylinder and a bool that a call made: the row is its own -/
def MadeCB (w : World) (s t : Int) (ok : Bool) (xs : List (Int × Int)) (E : Ending) (w' : World) : Prop :=
  ∃ A c, E = .returned (.tuple #[.agg #[.int .i64 s, .int .i64 t, .slice A xs.length c], .bool ok]) ∧ w'.ownsRow w.heap.size 50 2 (.slice A xs.length c) xs.length (pc xs) ∧ Below w.heap.size w w'
def MadeCO (w : World) (o : CyO) : Ending → World → Prop := MadeCB w (cyS o) (cyT o) o.isSome (cyP o)
theorem madeCO_no {w w' : World} (hb : Below w.heap.size w w') : MadeCO w none (.returned (.tuple #[.agg #[.int .i64 0, .int .i64 0, .slice none 0 0], .bool false])) w' := ⟨none, 0, rfl, World.ownsRow_nil _ _ _ _, hb⟩
theorem madeCO_yes {w w' : World} {s t : Int} {xs : List (Int × Int)} {v : Value} {n : Nat} (h : w'.ownsRow w.heap.size 50 2 v n (pc xs)) (hb : Below w.heap.size w w') : MadeCO w (some (s, t, xs)) (.returned (.tuple #[.agg #[.int .i64 s, .int .i64 t, v], .bool true])) w' := by
  obtain ⟨A, c, rfl⟩ := own_shape h
  have hn := own_pair_len h
  subst hn
  exact ⟨A, c, rfl, h, hb⟩
/-- the cells of a cylinder -/
def cyc (s t : Int) (v : Value) : Array Value := #[.int .i64 s, .int .i64 t, v]
theorem cyl_set {w : World} {g : Nat} {t : TypeId} {u v x a b c : Value} (h : Blk w g t #[u, v, x]) : Blk (((w.setCell ⟨g, 0, none⟩ a).setCell ⟨g, 1, none⟩ b).setCell ⟨g, 2, none⟩ c) g t #[a, b, c] := by
  simpa using ((h.set_ 0 a).set_ 1 b).set_ 2 c
theorem pin_lo {s t : Int} {xs : List (Int × Int)} (h : cylB s t xs = true) {k : Nat} {p : Int × Int} (hp : xs[k]? = some p) : 0 ≤ p.1 ∧ p.1 ≤ t - 1 ∧ 0 ≤ p.2 ∧ p.2 ≤ s - 1 := (cyl_iff.1 h).2.2.2.1 p (List.mem_of_getElem? hp)
theorem ownv_below {w w' : World} {base size n : Nat} {v : Value} {xs : List Value} {e : TypeId} (h : w.ownsRow base e size v n xs) (hb : Below w.heap.size w w') : w'.ownsRow base e size v n xs := by
  obtain ⟨A, c, rfl⟩ := own_shape h
  exact own_below h hb
theorem own_low {w : World} {base size n : Nat} {v : Value} {xs : List Value} {e : TypeId} (h : w.ownsRow base e size v n xs) {p : Addr} (hp : p.block < base) (u : Value) : (w.setCell p u).ownsRow base e size v n xs := by
  refine h.kept (w' := w.setCell p u) (row := some p.block) ⟨rfl, rfl, rfl, by simp [World.setCell], fun k _ hk => Below.heap_setCell _ _ _ _ (fun e => hk (by rw [e]))⟩ ?_
  cases e : v.ownBlock with
  | none => exact Or.inl rfl
  | some b => right; intro e2; injection e2 with e2; have := (h.lt b e).1; omega
/-- a block below a row's base is another than the row's -/
theorem own_ne {w : World} {base size n g : Nat} {v : Value} {xs : List Value} {e : TypeId} (h : w.ownsRow base e size v n xs) (hg : g < base) : some g ≠ v.ownBlock := fun k => by have := (h.lt g k.symm).1; omega

end Go.Proofs.Ytjklobhnidbinaa
