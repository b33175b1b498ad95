/-
  No cell of these rows narrows 'for every input' (looked for: loops, veiled, ifaces, maps, wideKeys, modest, calm, conditions, laid).
  DERIVED. THE GIVEN ROWS OF THIS SEAT. 7 by the template 'for every input the law returns true; each argument reads behind the call as it read before'; 0 by the template 'total and deterministic' (their statements: YteidigbjllicpaaTotals.lean).
  GIVEN WITH THE SEED: the statements are not yours to turn. If you find one false, say at which input.
  Laid BY PROGRAM, IN A SANDBOX (cutbox-rows.mjs): the forced cells as the released guide's own fill.sh prints them over the translation ef95ebe9843f98b0… (all of the seat's roots in one cut). By AI agents, Wed Nov 11 2026. No macro, syntax, notation, axiom, sorry.
-/
import Derived.Test.YteidigbjllicpaaChecked
import GoSem.Claim
import GoSem.ClaimJoined
import GoSem.ClaimMapViews
import Derived.JoinedTies
import Derived.KernelRfl
namespace Go.Proofs.Yteidigbjllicpaa
/- THE CELL 'sum', in the pinned program and in every row, IS THE sha256 OF THE DUMP (.gsa) THAT YteidigbjllicpaaProg.lean LOADS. Nothing in Lean hashes anything: it is a label: what it is worth is what the hold of that sum in a sandbox is worth. -/
noncomputable def Try.pinned : Pinned := { name := "yteidigbjllicpaa", sum := "ef95ebe9843f98b09eddd11bdd858a87de38d81689dbc71e719e9ab59df49d94", checked := Try.checked }
namespace Rows
def none {H : Type} : Left H := { results := [], args := [] }

/-- 'laws.FnExactStepsOf': WHATEVER THE INPUT: true; the input reads as it did. -/
def fnExactStepsOfSpec : ChangeSpec := { name := "fnExactStepsOf", fn := fun _ => fun
  | [d1, d2] => { results := [.lit (.bool true)], args := [d1, d2] }
  | _ => none }
def fnExactStepsOfRow : OpenClaim := { program := "yteidigbjllicpaa", sum := "ef95ebe9843f98b09eddd11bdd858a87de38d81689dbc71e719e9ab59df49d94", func := "loop.example/g03309/laws.FnExactStepsOf", spec := "fnExactStepsOf", apart := false }
def FnExactStepsOfSaid : Prop := fnExactStepsOfRow.holds Try.pinned (OpenSpec.ofChange fnExactStepsOfSpec)

/-- ITS FALSE NEIGHBOUR: 'it returns false'. Refute it at one input. -/
def fnExactStepsOfWrong : ChangeSpec := { name := "fnExactStepsOf", fn := fun _ => fun
  | [d1, d2] => { results := [.lit (.bool false)], args := [d1, d2] }
  | _ => none }
def FnExactStepsOfWrongFalsely : Prop := fnExactStepsOfRow.holds Try.pinned (OpenSpec.ofChange fnExactStepsOfWrong)

/-- 'laws.FnExactIsSweet': WHATEVER THE INPUT: true; the input reads as it did. -/
def fnExactIsSweetSpec : ChangeSpec := { name := "fnExactIsSweet", fn := fun _ => fun
  | [d1, d2] => { results := [.lit (.bool true)], args := [d1, d2] }
  | _ => none }
def fnExactIsSweetRow : OpenClaim := { program := "yteidigbjllicpaa", sum := "ef95ebe9843f98b09eddd11bdd858a87de38d81689dbc71e719e9ab59df49d94", func := "loop.example/g03309/laws.FnExactIsSweet", spec := "fnExactIsSweet", apart := false }
def FnExactIsSweetSaid : Prop := fnExactIsSweetRow.holds Try.pinned (OpenSpec.ofChange fnExactIsSweetSpec)

/-- ITS FALSE NEIGHBOUR: 'it returns false'. Refute it at one input. -/
def fnExactIsSweetWrong : ChangeSpec := { name := "fnExactIsSweet", fn := fun _ => fun
  | [d1, d2] => { results := [.lit (.bool false)], args := [d1, d2] }
  | _ => none }
def FnExactIsSweetWrongFalsely : Prop := fnExactIsSweetRow.holds Try.pinned (OpenSpec.ofChange fnExactIsSweetWrong)

/-- 'laws.FnExactIsChord': WHATEVER THE INPUT: true; the input reads as it did. -/
def fnExactIsChordSpec : ChangeSpec := { name := "fnExactIsChord", fn := fun _ => fun
  | [d] => { results := [.lit (.bool true)], args := [d] }
  | _ => none }
def fnExactIsChordRow : OpenClaim := { program := "yteidigbjllicpaa", sum := "ef95ebe9843f98b09eddd11bdd858a87de38d81689dbc71e719e9ab59df49d94", func := "loop.example/g03309/laws.FnExactIsChord", spec := "fnExactIsChord", apart := false }
def FnExactIsChordSaid : Prop := fnExactIsChordRow.holds Try.pinned (OpenSpec.ofChange fnExactIsChordSpec)

/-- ITS FALSE NEIGHBOUR: 'it returns false'. Refute it at one input. -/
def fnExactIsChordWrong : ChangeSpec := { name := "fnExactIsChord", fn := fun _ => fun
  | [d] => { results := [.lit (.bool false)], args := [d] }
  | _ => none }
def FnExactIsChordWrongFalsely : Prop := fnExactIsChordRow.holds Try.pinned (OpenSpec.ofChange fnExactIsChordWrong)

/-- 'laws.FnExactHarshPairs': WHATEVER THE INPUT: true; the input reads as it did. -/
def fnExactHarshPairsSpec : ChangeSpec := { name := "fnExactHarshPairs", fn := fun _ => fun
  | [d] => { results := [.lit (.bool true)], args := [d] }
  | _ => none }
def fnExactHarshPairsRow : OpenClaim := { program := "yteidigbjllicpaa", sum := "ef95ebe9843f98b09eddd11bdd858a87de38d81689dbc71e719e9ab59df49d94", func := "loop.example/g03309/laws.FnExactHarshPairs", spec := "fnExactHarshPairs", apart := false }
def FnExactHarshPairsSaid : Prop := fnExactHarshPairsRow.holds Try.pinned (OpenSpec.ofChange fnExactHarshPairsSpec)

/-- ITS FALSE NEIGHBOUR: 'it returns false'. Refute it at one input. -/
def fnExactHarshPairsWrong : ChangeSpec := { name := "fnExactHarshPairs", fn := fun _ => fun
  | [d] => { results := [.lit (.bool false)], args := [d] }
  | _ => none }
def FnExactHarshPairsWrongFalsely : Prop := fnExactHarshPairsRow.holds Try.pinned (OpenSpec.ofChange fnExactHarshPairsWrong)

/-- 'laws.FnExactRootOf': WHATEVER THE INPUT: true; the input reads as it did. -/
def fnExactRootOfSpec : ChangeSpec := { name := "fnExactRootOf", fn := fun _ => fun
  | [d] => { results := [.lit (.bool true)], args := [d] }
  | _ => none }
def fnExactRootOfRow : OpenClaim := { program := "yteidigbjllicpaa", sum := "ef95ebe9843f98b09eddd11bdd858a87de38d81689dbc71e719e9ab59df49d94", func := "loop.example/g03309/laws.FnExactRootOf", spec := "fnExactRootOf", apart := false }
def FnExactRootOfSaid : Prop := fnExactRootOfRow.holds Try.pinned (OpenSpec.ofChange fnExactRootOfSpec)

/-- ITS FALSE NEIGHBOUR: 'it returns false'. Refute it at one input. -/
def fnExactRootOfWrong : ChangeSpec := { name := "fnExactRootOf", fn := fun _ => fun
  | [d] => { results := [.lit (.bool false)], args := [d] }
  | _ => none }
def FnExactRootOfWrongFalsely : Prop := fnExactRootOfRow.holds Try.pinned (OpenSpec.ofChange fnExactRootOfWrong)

/-- 'laws.FnExactSweetFor': WHATEVER THE INPUT: true; the input reads as it did. -/
def fnExactSweetForSpec : ChangeSpec := { name := "fnExactSweetFor", fn := fun _ => fun
  | [d1, d2, d3] => { results := [.lit (.bool true)], args := [d1, d2, d3] }
  | _ => none }
def fnExactSweetForRow : OpenClaim := { program := "yteidigbjllicpaa", sum := "ef95ebe9843f98b09eddd11bdd858a87de38d81689dbc71e719e9ab59df49d94", func := "loop.example/g03309/laws.FnExactSweetFor", spec := "fnExactSweetFor", apart := false }
def FnExactSweetForSaid : Prop := fnExactSweetForRow.holds Try.pinned (OpenSpec.ofChange fnExactSweetForSpec)

/-- ITS FALSE NEIGHBOUR: 'it returns false'. Refute it at one input. -/
def fnExactSweetForWrong : ChangeSpec := { name := "fnExactSweetFor", fn := fun _ => fun
  | [d1, d2, d3] => { results := [.lit (.bool false)], args := [d1, d2, d3] }
  | _ => none }
def FnExactSweetForWrongFalsely : Prop := fnExactSweetForRow.holds Try.pinned (OpenSpec.ofChange fnExactSweetForWrong)

/-- 'laws.FnChords': WHATEVER THE INPUT: true; the input reads as it did. -/
def fnChordsSpec : ChangeSpec := { name := "fnChords", fn := fun _ => fun
  | [d] => { results := [.lit (.bool true)], args := [d] }
  | _ => none }
def fnChordsRow : OpenClaim := { program := "yteidigbjllicpaa", sum := "ef95ebe9843f98b09eddd11bdd858a87de38d81689dbc71e719e9ab59df49d94", func := "loop.example/g03309/laws.FnChords", spec := "fnChords", apart := false }
def FnChordsSaid : Prop := fnChordsRow.holds Try.pinned (OpenSpec.ofChange fnChordsSpec)

/-- ITS FALSE NEIGHBOUR: 'it returns false'. Refute it at one input. -/
def fnChordsWrong : ChangeSpec := { name := "fnChords", fn := fun _ => fun
  | [d] => { results := [.lit (.bool false)], args := [d] }
  | _ => none }
def FnChordsWrongFalsely : Prop := fnChordsRow.holds Try.pinned (OpenSpec.ofChange fnChordsWrong)

/- THE SECOND FORM. 'bulk': how many values and letters a reading holds, each counted each time it is reached (what is shared counts as often as it is met; a slice's spare places count too). A statement '..UptoSaid' is the law's where the arguments, and the package variables that the reading takes, are together of bulk at most 1048576: NARROWER than '..Said'. Prove '..Said' where nothing that the law and all that it calls make is longer than what came in: it says more and counts as full. Else prove '..UptoSaid'. A law counts once. -/
mutual
def uptoBulk {H : Type} : DataW H → Nat
  | .lit (.string bytes) => bytes.length + 1
  | .lit _ => 1
  | .nil => 1
  | .ptr d => uptoBulk d + 1
  | .slice elems spare => uptoBulkAll elems + uptoBulkAll spare + 1
  | .agg parts => uptoBulkAll parts + 1
  | .iface _ d => uptoBulk d + 1
  | .map entries => uptoBulkEntries entries + 1
  | .held _ => 1
def uptoBulkAll {H : Type} : List (DataW H) → Nat
  | [] => 0
  | d :: r => uptoBulk d + uptoBulkAll r
def uptoBulkEntries {H : Type} : List (Lit × DataW H) → Nat
  | [] => 0
  | x :: r => uptoBulkEntry x + uptoBulkEntries r
def uptoBulkEntry {H : Type} : Lit × DataW H → Nat
  | (.string bytes, d) => bytes.length + uptoBulk d + 1
  | (_, d) => uptoBulk d + 1
 end
def uptoSmall : (H : Type) → List (DataW H) → Bool := fun _ ds => decide (uptoBulkAll ds ≤ 1048576)
def OpenSpec.upto (s : _root_.Go.ChangeSpec) : _root_.Go.OpenSpec := { _root_.Go.OpenSpec.ofChange s with cond := some uptoSmall }

/-- 'laws.FnExactStepsOf', WHERE WHAT IT READS IS OF BULK AT MOST 1048576: true; the input reads as it did. -/
def fnExactStepsOfUptoRow : OpenClaim := { program := "yteidigbjllicpaa", sum := "ef95ebe9843f98b09eddd11bdd858a87de38d81689dbc71e719e9ab59df49d94", func := "loop.example/g03309/laws.FnExactStepsOf", spec := "fnExactStepsOf", apart := false, narrowed := true }
def FnExactStepsOfUptoSaid : Prop := fnExactStepsOfUptoRow.holds Try.pinned (OpenSpec.upto fnExactStepsOfSpec)

/-- 'laws.FnExactIsSweet', WHERE WHAT IT READS IS OF BULK AT MOST 1048576: true; the input reads as it did. -/
def fnExactIsSweetUptoRow : OpenClaim := { program := "yteidigbjllicpaa", sum := "ef95ebe9843f98b09eddd11bdd858a87de38d81689dbc71e719e9ab59df49d94", func := "loop.example/g03309/laws.FnExactIsSweet", spec := "fnExactIsSweet", apart := false, narrowed := true }
def FnExactIsSweetUptoSaid : Prop := fnExactIsSweetUptoRow.holds Try.pinned (OpenSpec.upto fnExactIsSweetSpec)

/-- 'laws.FnExactIsChord', WHERE WHAT IT READS IS OF BULK AT MOST 1048576: true; the input reads as it did. -/
def fnExactIsChordUptoRow : OpenClaim := { program := "yteidigbjllicpaa", sum := "ef95ebe9843f98b09eddd11bdd858a87de38d81689dbc71e719e9ab59df49d94", func := "loop.example/g03309/laws.FnExactIsChord", spec := "fnExactIsChord", apart := false, narrowed := true }
def FnExactIsChordUptoSaid : Prop := fnExactIsChordUptoRow.holds Try.pinned (OpenSpec.upto fnExactIsChordSpec)

/-- 'laws.FnExactHarshPairs', WHERE WHAT IT READS IS OF BULK AT MOST 1048576: true; the input reads as it did. -/
def fnExactHarshPairsUptoRow : OpenClaim := { program := "yteidigbjllicpaa", sum := "ef95ebe9843f98b09eddd11bdd858a87de38d81689dbc71e719e9ab59df49d94", func := "loop.example/g03309/laws.FnExactHarshPairs", spec := "fnExactHarshPairs", apart := false, narrowed := true }
def FnExactHarshPairsUptoSaid : Prop := fnExactHarshPairsUptoRow.holds Try.pinned (OpenSpec.upto fnExactHarshPairsSpec)

/-- 'laws.FnExactRootOf', WHERE WHAT IT READS IS OF BULK AT MOST 1048576: true; the input reads as it did. -/
def fnExactRootOfUptoRow : OpenClaim := { program := "yteidigbjllicpaa", sum := "ef95ebe9843f98b09eddd11bdd858a87de38d81689dbc71e719e9ab59df49d94", func := "loop.example/g03309/laws.FnExactRootOf", spec := "fnExactRootOf", apart := false, narrowed := true }
def FnExactRootOfUptoSaid : Prop := fnExactRootOfUptoRow.holds Try.pinned (OpenSpec.upto fnExactRootOfSpec)

/-- 'laws.FnExactSweetFor', WHERE WHAT IT READS IS OF BULK AT MOST 1048576: true; the input reads as it did. -/
def fnExactSweetForUptoRow : OpenClaim := { program := "yteidigbjllicpaa", sum := "ef95ebe9843f98b09eddd11bdd858a87de38d81689dbc71e719e9ab59df49d94", func := "loop.example/g03309/laws.FnExactSweetFor", spec := "fnExactSweetFor", apart := false, narrowed := true }
def FnExactSweetForUptoSaid : Prop := fnExactSweetForUptoRow.holds Try.pinned (OpenSpec.upto fnExactSweetForSpec)

/-- 'laws.FnChords', WHERE WHAT IT READS IS OF BULK AT MOST 1048576: true; the input reads as it did. -/
def fnChordsUptoRow : OpenClaim := { program := "yteidigbjllicpaa", sum := "ef95ebe9843f98b09eddd11bdd858a87de38d81689dbc71e719e9ab59df49d94", func := "loop.example/g03309/laws.FnChords", spec := "fnChords", apart := false, narrowed := true }
def FnChordsUptoSaid : Prop := fnChordsUptoRow.holds Try.pinned (OpenSpec.upto fnChordsSpec)

end Rows
end Go.Proofs.Yteidigbjllicpaa
