/-
  A region that draws its order, whose operations only read and whose callees may make blocks of their own: one walk in the order of the text, over a class of worlds of one's own choosing. No program in sight.
-/
import Derived.Test.YtjklobhnidbinaaAid
namespace Go.Proofs.Ytjklobhnidbinaa
open Go.RowKit

/-- a world of the class -/
structure Cls (Inv : World → Prop) where
  w : World
  h : Inv w

theorem wp_region_cls {P : Program} {id : Nat} {Q : Exit → Act → World → Prop} {a : Act} {w : World} {l : List Oper} {Inv : World → Prop} (hm : P.follows .mixedOrders = true) (hB : Region.lexB .any l.toArray = true) (h0 : Inv w.drew)
    (h : wpQuiet P l.toArray (fun w' => ∃ p : Cls Inv, w' = p.w) (fun a' => ∀ w', (∃ p : Cls Inv, w' = p.w) → Q .normal a' w') l a) : (Code.region id l.toArray true).wp P Q a w :=
  wp_region_quiet (C := fun w' => ∃ p : Cls Inv, w' = p.w) hm hB ⟨⟨_, h0⟩, rfl⟩ (by simpa using h)

theorem Calls.cls {P : Program} {f : FuncId} {args : Array Value} {w : World} {v : Value} {Inv : World → Prop} (h : Calls P f args w fun e w' => e = .returned v ∧ Inv w') :
    Calls P f args w fun e w'' => e = .returned v ∧ ∃ p : Cls Inv, w'' = p.w :=
  h.mono fun _ w'' ⟨he, hi⟩ => ⟨he, ⟨w'', hi⟩, rfl⟩

end Go.Proofs.Ytjklobhnidbinaa
