/-
  The cursor of the reference's drawing stays while a call of the drawing's own makes and fills blocks.
-/
import Derived.Test.YtjklobhnidbinaaDrawP
import Derived.Test.YtjklobhnidbinaaOwnAid
namespace Go.Proofs.Ytjklobhnidbinaa
open Go.RowKit

theorem Cur.below {w w' : World} {B g N : Nat} {A : Option Addr} {n c : Nat} {bs : List Int} (h : Cur w B g A n c bs) (hb : Below N w w') (hg : g < N) (hB : B ≤ N) : Cur w' B g A n c bs := by
  obtain ⟨i, hh, hk, h0, h1, hr, r⟩ := h
  exact ⟨i, hh, hk.below hb hg, h0, h1, hr.below (hb.mono hB), r⟩
theorem grown_below {a b c : World} {r : Option Nat} {N : Nat} (h : a.grownBy b r) (hb : Below N b c) (hN : a.heap.size ≤ N) : a.grownBy c r :=
  ⟨hb.os.trans h.os, hb.tape.trans h.tape, hb.output.trans h.output, Nat.le_trans h.size hb.size, fun i hi hne => (hb.block i (by omega)).trans (h.block i hi hne)⟩
theorem grown_is_below {a b : World} {g N : Nat} (h : a.grownBy b (some g)) (hg : N ≤ g) (hN : N ≤ a.heap.size) : Below N a b :=
  (Below.refl N a).grown h hN (fun k hk => by injection hk with hk; omega)
theorem own_grown {w w' : World} {base size n g : Nat} {v : Value} {xs : List Value} {e : TypeId} (h : w.ownsRow base e size v n xs) (hg : w.grownBy w' (some g)) (hb : g < base) : w'.ownsRow base e size v n xs := by
  refine h.kept hg ?_
  cases hv : v.ownBlock with
  | none => exact Or.inl rfl
  | some k =>
    right
    intro e
    injection e with e
    have := (h.lt k hv).1
    omega

end Go.Proofs.Ytjklobhnidbinaa
