/-
  What the walk of a law with two cylinders needs beside: the boxes' cells behind a call, a world named anew.
-/
import Derived.Test.YtjklobhnidbinaaCyl
import Derived.Test.YtjklobhnidbinaaCylAid
namespace Go.Proofs.Ytjklobhnidbinaa
open Go.RowKit

theorem cells6 {Y u : World} {g g' : Nat} {t t' : TypeId} {a b c a' b' c' : Value} (hb : Below Y.heap.size Y u) (h : Blk Y g t #[a, b, c]) (h' : Blk Y g' t' #[a', b', c']) :
    u.cell? ⟨g, 0, none⟩ = some a ∧ u.cell? ⟨g, 1, none⟩ = some b ∧ u.cell? ⟨g, 2, none⟩ = some c ∧ u.cell? ⟨g', 0, none⟩ = some a' ∧ u.cell? ⟨g', 1, none⟩ = some b' ∧ u.cell? ⟨g', 2, none⟩ = some c' :=
  ⟨(h.below hb h.lt).c3.1, (h.below hb h.lt).c3.2.1, (h.below hb h.lt).c3.2.2, (h'.below hb h'.lt).c3.1, (h'.below hb h'.lt).c3.2.1, (h'.below hb h'.lt).c3.2.2⟩
theorem below_set3 {Y u : World} {g : Nat} {t : TypeId} {cs : Array Value} (hb : Below Y.heap.size Y u) (_k : Blk u g t cs) (hg : Y.heap.size ≤ g) (x y v : Value) : Below Y.heap.size Y (((u.setCell ⟨g, 0, none⟩ x).setCell ⟨g, 1, none⟩ y).setCell ⟨g, 2, none⟩ v) :=
  ((hb.setCell hg x).setCell hg y).setCell hg v
theorem own_set4 {w : World} {base size n g : Nat} {v : Value} {xs : List Value} {e t : TypeId} {cs : Array Value} (h : w.ownsRow base e size v n xs) (_k : Blk w g t cs) (hg : g < base) (x y u : Value) : (((w.setCell ⟨g, 0, none⟩ x).setCell ⟨g, 1, none⟩ y).setCell ⟨g, 2, none⟩ u).ownsRow base e size v n xs := own_low (own_low (own_low h (p := ⟨g, 0, none⟩) hg x) (p := ⟨g, 1, none⟩) hg y) (p := ⟨g, 2, none⟩) hg u
theorem named3 {Y u : World} {g : Nat} {t : TypeId} {cs : Array Value} {base : Nat} {e : TypeId} {v : Value} {n : Nat} {xs : List Value} (h1 : Below Y.heap.size Y u) (h2 : Blk u g t cs) (h3 : u.ownsRow base e 2 v n xs) : ∃ u', u' = u ∧ Below Y.heap.size Y u' ∧ Blk u' g t cs ∧ u'.ownsRow base e 2 v n xs := ⟨u, rfl, h1, h2, h3⟩

end Go.Proofs.Ytjklobhnidbinaa
