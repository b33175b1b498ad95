/-
  No cell of these rows narrows 'for every input' (looked for: loops, veiled, ifaces, maps, wideKeys, modest, calm, conditions, laid).
  DERIVED. THE GIVEN ROWS OF THIS SEAT. 13 by the template 'for every input the law returns true; each argument reads behind the call as it read before'; 0 by the template 'total and deterministic' (their statements: YtiecjmnaphfeaaaTotals.lean).
  GIVEN WITH THE SEED: the statements are not yours to turn. If you find one false, say at which input.
  Laid BY PROGRAM, IN A SANDBOX (cutbox-rows.mjs): the forced cells as the released guide's own fill.sh prints them over the translation f60832b4b1a201ef… (all of the seat's roots in one cut). By AI agents, Wed Nov 11 2026. No macro, syntax, notation, axiom, sorry.
-/
import Derived.Test.YtiecjmnaphfeaaaChecked
import GoSem.Claim
import GoSem.ClaimJoined
import GoSem.ClaimMapViews
import Derived.JoinedTies
import Derived.KernelRfl
namespace Go.Proofs.Ytiecjmnaphfeaaa
/- THE CELL 'sum', in the pinned program and in every row, IS THE sha256 OF THE DUMP (.gsa) THAT YtiecjmnaphfeaaaProg.lean LOADS. Nothing in Lean hashes anything: it is a label: what it is worth is what the hold of that sum in a sandbox is worth. -/
noncomputable def Try.pinned : Pinned := { name := "ytiecjmnaphfeaaa", sum := "f60832b4b1a201efbac82f70cad16ebec6de8786b0825a7900eec4467f07eecc", checked := Try.checked }
namespace Rows
def none {H : Type} : Left H := { results := [], args := [] }

/-- 'laws.FnExactGearOk': WHATEVER THE INPUT: true; the input reads as it did. -/
def fnExactGearOkSpec : ChangeSpec := { name := "fnExactGearOk", fn := fun _ => fun
  | [d] => { results := [.lit (.bool true)], args := [d] }
  | _ => none }
def fnExactGearOkRow : OpenClaim := { program := "ytiecjmnaphfeaaa", sum := "f60832b4b1a201efbac82f70cad16ebec6de8786b0825a7900eec4467f07eecc", func := "loop.example/g03309/laws.FnExactGearOk", spec := "fnExactGearOk", apart := false }
def FnExactGearOkSaid : Prop := fnExactGearOkRow.holds Try.pinned (OpenSpec.ofChange fnExactGearOkSpec)

/-- ITS FALSE NEIGHBOUR: 'it returns false'. Refute it at one input. -/
def fnExactGearOkWrong : ChangeSpec := { name := "fnExactGearOk", fn := fun _ => fun
  | [d] => { results := [.lit (.bool false)], args := [d] }
  | _ => none }
def FnExactGearOkWrongFalsely : Prop := fnExactGearOkRow.holds Try.pinned (OpenSpec.ofChange fnExactGearOkWrong)

/-- 'laws.FnExactTrainRatio': WHATEVER THE INPUT: true; the input reads as it did. -/
def fnExactTrainRatioSpec : ChangeSpec := { name := "fnExactTrainRatio", fn := fun _ => fun
  | [d] => { results := [.lit (.bool true)], args := [d] }
  | _ => none }
def fnExactTrainRatioRow : OpenClaim := { program := "ytiecjmnaphfeaaa", sum := "f60832b4b1a201efbac82f70cad16ebec6de8786b0825a7900eec4467f07eecc", func := "loop.example/g03309/laws.FnExactTrainRatio", spec := "fnExactTrainRatio", apart := false }
def FnExactTrainRatioSaid : Prop := fnExactTrainRatioRow.holds Try.pinned (OpenSpec.ofChange fnExactTrainRatioSpec)

/-- ITS FALSE NEIGHBOUR: 'it returns false'. Refute it at one input. -/
def fnExactTrainRatioWrong : ChangeSpec := { name := "fnExactTrainRatio", fn := fun _ => fun
  | [d] => { results := [.lit (.bool false)], args := [d] }
  | _ => none }
def FnExactTrainRatioWrongFalsely : Prop := fnExactTrainRatioRow.holds Try.pinned (OpenSpec.ofChange fnExactTrainRatioWrong)

/-- 'laws.FnExactTurnsOf': WHATEVER THE INPUT: true; the input reads as it did. -/
def fnExactTurnsOfSpec : ChangeSpec := { name := "fnExactTurnsOf", fn := fun _ => fun
  | [d1, d2] => { results := [.lit (.bool true)], args := [d1, d2] }
  | _ => none }
def fnExactTurnsOfRow : OpenClaim := { program := "ytiecjmnaphfeaaa", sum := "f60832b4b1a201efbac82f70cad16ebec6de8786b0825a7900eec4467f07eecc", func := "loop.example/g03309/laws.FnExactTurnsOf", spec := "fnExactTurnsOf", apart := false }
def FnExactTurnsOfSaid : Prop := fnExactTurnsOfRow.holds Try.pinned (OpenSpec.ofChange fnExactTurnsOfSpec)

/-- ITS FALSE NEIGHBOUR: 'it returns false'. Refute it at one input. -/
def fnExactTurnsOfWrong : ChangeSpec := { name := "fnExactTurnsOf", fn := fun _ => fun
  | [d1, d2] => { results := [.lit (.bool false)], args := [d1, d2] }
  | _ => none }
def FnExactTurnsOfWrongFalsely : Prop := fnExactTurnsOfRow.holds Try.pinned (OpenSpec.ofChange fnExactTurnsOfWrong)

/-- 'laws.FnExactLeastWhole': WHATEVER THE INPUT: true; the input reads as it did. -/
def fnExactLeastWholeSpec : ChangeSpec := { name := "fnExactLeastWhole", fn := fun _ => fun
  | [d] => { results := [.lit (.bool true)], args := [d] }
  | _ => none }
def fnExactLeastWholeRow : OpenClaim := { program := "ytiecjmnaphfeaaa", sum := "f60832b4b1a201efbac82f70cad16ebec6de8786b0825a7900eec4467f07eecc", func := "loop.example/g03309/laws.FnExactLeastWhole", spec := "fnExactLeastWhole", apart := false }
def FnExactLeastWholeSaid : Prop := fnExactLeastWholeRow.holds Try.pinned (OpenSpec.ofChange fnExactLeastWholeSpec)

/-- ITS FALSE NEIGHBOUR: 'it returns false'. Refute it at one input. -/
def fnExactLeastWholeWrong : ChangeSpec := { name := "fnExactLeastWhole", fn := fun _ => fun
  | [d] => { results := [.lit (.bool false)], args := [d] }
  | _ => none }
def FnExactLeastWholeWrongFalsely : Prop := fnExactLeastWholeRow.holds Try.pinned (OpenSpec.ofChange fnExactLeastWholeWrong)

/-- 'laws.FnExactTurnTrain': WHATEVER THE INPUT: true; the input reads as it did. -/
def fnExactTurnTrainSpec : ChangeSpec := { name := "fnExactTurnTrain", fn := fun _ => fun
  | [d] => { results := [.lit (.bool true)], args := [d] }
  | _ => none }
def fnExactTurnTrainRow : OpenClaim := { program := "ytiecjmnaphfeaaa", sum := "f60832b4b1a201efbac82f70cad16ebec6de8786b0825a7900eec4467f07eecc", func := "loop.example/g03309/laws.FnExactTurnTrain", spec := "fnExactTurnTrain", apart := false }
def FnExactTurnTrainSaid : Prop := fnExactTurnTrainRow.holds Try.pinned (OpenSpec.ofChange fnExactTurnTrainSpec)

/-- ITS FALSE NEIGHBOUR: 'it returns false'. Refute it at one input. -/
def fnExactTurnTrainWrong : ChangeSpec := { name := "fnExactTurnTrain", fn := fun _ => fun
  | [d] => { results := [.lit (.bool false)], args := [d] }
  | _ => none }
def FnExactTurnTrainWrongFalsely : Prop := fnExactTurnTrainRow.holds Try.pinned (OpenSpec.ofChange fnExactTurnTrainWrong)

/-- 'laws.FnExactGearsFor': WHATEVER THE INPUT: true; the input reads as it did. -/
def fnExactGearsForSpec : ChangeSpec := { name := "fnExactGearsFor", fn := fun _ => fun
  | [d1, d2] => { results := [.lit (.bool true)], args := [d1, d2] }
  | _ => none }
def fnExactGearsForRow : OpenClaim := { program := "ytiecjmnaphfeaaa", sum := "f60832b4b1a201efbac82f70cad16ebec6de8786b0825a7900eec4467f07eecc", func := "loop.example/g03309/laws.FnExactGearsFor", spec := "fnExactGearsFor", apart := false }
def FnExactGearsForSaid : Prop := fnExactGearsForRow.holds Try.pinned (OpenSpec.ofChange fnExactGearsForSpec)

/-- ITS FALSE NEIGHBOUR: 'it returns false'. Refute it at one input. -/
def fnExactGearsForWrong : ChangeSpec := { name := "fnExactGearsFor", fn := fun _ => fun
  | [d1, d2] => { results := [.lit (.bool false)], args := [d1, d2] }
  | _ => none }
def FnExactGearsForWrongFalsely : Prop := fnExactGearsForRow.holds Try.pinned (OpenSpec.ofChange fnExactGearsForWrong)

/-- 'laws.FnGears': WHATEVER THE INPUT: true; the input reads as it did. -/
def fnGearsSpec : ChangeSpec := { name := "fnGears", fn := fun _ => fun
  | [d] => { results := [.lit (.bool true)], args := [d] }
  | _ => none }
def fnGearsRow : OpenClaim := { program := "ytiecjmnaphfeaaa", sum := "f60832b4b1a201efbac82f70cad16ebec6de8786b0825a7900eec4467f07eecc", func := "loop.example/g03309/laws.FnGears", spec := "fnGears", apart := false }
def FnGearsSaid : Prop := fnGearsRow.holds Try.pinned (OpenSpec.ofChange fnGearsSpec)

/-- ITS FALSE NEIGHBOUR: 'it returns false'. Refute it at one input. -/
def fnGearsWrong : ChangeSpec := { name := "fnGears", fn := fun _ => fun
  | [d] => { results := [.lit (.bool false)], args := [d] }
  | _ => none }
def FnGearsWrongFalsely : Prop := fnGearsRow.holds Try.pinned (OpenSpec.ofChange fnGearsWrong)

/-- 'laws.FnExactContinuedOf': WHATEVER THE INPUT: true; the input reads as it did. -/
def fnExactContinuedOfSpec : ChangeSpec := { name := "fnExactContinuedOf", fn := fun _ => fun
  | [d1, d2] => { results := [.lit (.bool true)], args := [d1, d2] }
  | _ => none }
def fnExactContinuedOfRow : OpenClaim := { program := "ytiecjmnaphfeaaa", sum := "f60832b4b1a201efbac82f70cad16ebec6de8786b0825a7900eec4467f07eecc", func := "loop.example/g03309/laws.FnExactContinuedOf", spec := "fnExactContinuedOf", apart := false }
def FnExactContinuedOfSaid : Prop := fnExactContinuedOfRow.holds Try.pinned (OpenSpec.ofChange fnExactContinuedOfSpec)

/-- ITS FALSE NEIGHBOUR: 'it returns false'. Refute it at one input. -/
def fnExactContinuedOfWrong : ChangeSpec := { name := "fnExactContinuedOf", fn := fun _ => fun
  | [d1, d2] => { results := [.lit (.bool false)], args := [d1, d2] }
  | _ => none }
def FnExactContinuedOfWrongFalsely : Prop := fnExactContinuedOfRow.holds Try.pinned (OpenSpec.ofChange fnExactContinuedOfWrong)

/-- 'laws.FnExactFractionOf': WHATEVER THE INPUT: true; the input reads as it did. -/
def fnExactFractionOfSpec : ChangeSpec := { name := "fnExactFractionOf", fn := fun _ => fun
  | [d] => { results := [.lit (.bool true)], args := [d] }
  | _ => none }
def fnExactFractionOfRow : OpenClaim := { program := "ytiecjmnaphfeaaa", sum := "f60832b4b1a201efbac82f70cad16ebec6de8786b0825a7900eec4467f07eecc", func := "loop.example/g03309/laws.FnExactFractionOf", spec := "fnExactFractionOf", apart := false }
def FnExactFractionOfSaid : Prop := fnExactFractionOfRow.holds Try.pinned (OpenSpec.ofChange fnExactFractionOfSpec)

/-- ITS FALSE NEIGHBOUR: 'it returns false'. Refute it at one input. -/
def fnExactFractionOfWrong : ChangeSpec := { name := "fnExactFractionOf", fn := fun _ => fun
  | [d] => { results := [.lit (.bool false)], args := [d] }
  | _ => none }
def FnExactFractionOfWrongFalsely : Prop := fnExactFractionOfRow.holds Try.pinned (OpenSpec.ofChange fnExactFractionOfWrong)

/-- 'laws.FnExactCloserOf': WHATEVER THE INPUT: true; the input reads as it did. -/
def fnExactCloserOfSpec : ChangeSpec := { name := "fnExactCloserOf", fn := fun _ => fun
  | [d1, d2, d3, d4, d5, d6] => { results := [.lit (.bool true)], args := [d1, d2, d3, d4, d5, d6] }
  | _ => none }
def fnExactCloserOfRow : OpenClaim := { program := "ytiecjmnaphfeaaa", sum := "f60832b4b1a201efbac82f70cad16ebec6de8786b0825a7900eec4467f07eecc", func := "loop.example/g03309/laws.FnExactCloserOf", spec := "fnExactCloserOf", apart := false }
def FnExactCloserOfSaid : Prop := fnExactCloserOfRow.holds Try.pinned (OpenSpec.ofChange fnExactCloserOfSpec)

/-- ITS FALSE NEIGHBOUR: 'it returns false'. Refute it at one input. -/
def fnExactCloserOfWrong : ChangeSpec := { name := "fnExactCloserOf", fn := fun _ => fun
  | [d1, d2, d3, d4, d5, d6] => { results := [.lit (.bool false)], args := [d1, d2, d3, d4, d5, d6] }
  | _ => none }
def FnExactCloserOfWrongFalsely : Prop := fnExactCloserOfRow.holds Try.pinned (OpenSpec.ofChange fnExactCloserOfWrong)

/-- 'laws.FnExactNearestGear': WHATEVER THE INPUT: true; the input reads as it did. -/
def fnExactNearestGearSpec : ChangeSpec := { name := "fnExactNearestGear", fn := fun _ => fun
  | [d1, d2] => { results := [.lit (.bool true)], args := [d1, d2] }
  | _ => none }
def fnExactNearestGearRow : OpenClaim := { program := "ytiecjmnaphfeaaa", sum := "f60832b4b1a201efbac82f70cad16ebec6de8786b0825a7900eec4467f07eecc", func := "loop.example/g03309/laws.FnExactNearestGear", spec := "fnExactNearestGear", apart := false }
def FnExactNearestGearSaid : Prop := fnExactNearestGearRow.holds Try.pinned (OpenSpec.ofChange fnExactNearestGearSpec)

/-- ITS FALSE NEIGHBOUR: 'it returns false'. Refute it at one input. -/
def fnExactNearestGearWrong : ChangeSpec := { name := "fnExactNearestGear", fn := fun _ => fun
  | [d1, d2] => { results := [.lit (.bool false)], args := [d1, d2] }
  | _ => none }
def FnExactNearestGearWrongFalsely : Prop := fnExactNearestGearRow.holds Try.pinned (OpenSpec.ofChange fnExactNearestGearWrong)

/-- 'laws.FnExactErrorParts': WHATEVER THE INPUT: true; the input reads as it did. -/
def fnExactErrorPartsSpec : ChangeSpec := { name := "fnExactErrorParts", fn := fun _ => fun
  | [d1, d2, d3] => { results := [.lit (.bool true)], args := [d1, d2, d3] }
  | _ => none }
def fnExactErrorPartsRow : OpenClaim := { program := "ytiecjmnaphfeaaa", sum := "f60832b4b1a201efbac82f70cad16ebec6de8786b0825a7900eec4467f07eecc", func := "loop.example/g03309/laws.FnExactErrorParts", spec := "fnExactErrorParts", apart := false }
def FnExactErrorPartsSaid : Prop := fnExactErrorPartsRow.holds Try.pinned (OpenSpec.ofChange fnExactErrorPartsSpec)

/-- ITS FALSE NEIGHBOUR: 'it returns false'. Refute it at one input. -/
def fnExactErrorPartsWrong : ChangeSpec := { name := "fnExactErrorParts", fn := fun _ => fun
  | [d1, d2, d3] => { results := [.lit (.bool false)], args := [d1, d2, d3] }
  | _ => none }
def FnExactErrorPartsWrongFalsely : Prop := fnExactErrorPartsRow.holds Try.pinned (OpenSpec.ofChange fnExactErrorPartsWrong)

/-- 'laws.FnNearest': WHATEVER THE INPUT: true; the input reads as it did. -/
def fnNearestSpec : ChangeSpec := { name := "fnNearest", fn := fun _ => fun
  | [d] => { results := [.lit (.bool true)], args := [d] }
  | _ => none }
def fnNearestRow : OpenClaim := { program := "ytiecjmnaphfeaaa", sum := "f60832b4b1a201efbac82f70cad16ebec6de8786b0825a7900eec4467f07eecc", func := "loop.example/g03309/laws.FnNearest", spec := "fnNearest", apart := false }
def FnNearestSaid : Prop := fnNearestRow.holds Try.pinned (OpenSpec.ofChange fnNearestSpec)

/-- ITS FALSE NEIGHBOUR: 'it returns false'. Refute it at one input. -/
def fnNearestWrong : ChangeSpec := { name := "fnNearest", fn := fun _ => fun
  | [d] => { results := [.lit (.bool false)], args := [d] }
  | _ => none }
def FnNearestWrongFalsely : Prop := fnNearestRow.holds Try.pinned (OpenSpec.ofChange fnNearestWrong)

/- THE SECOND FORM. 'bulk': how many values and letters a reading holds, each counted each time it is reached (what is shared counts as often as it is met; a slice's spare places count too). A statement '..UptoSaid' is the law's where the arguments, and the package variables that the reading takes, are together of bulk at most 1048576: NARROWER than '..Said'. Prove '..Said' where nothing that the law and all that it calls make is longer than what came in: it says more and counts as full. Else prove '..UptoSaid'. A law counts once. -/
mutual
def uptoBulk {H : Type} : DataW H → Nat
  | .lit (.string bytes) => bytes.length + 1
  | .lit _ => 1
  | .nil => 1
  | .ptr d => uptoBulk d + 1
  | .slice elems spare => uptoBulkAll elems + uptoBulkAll spare + 1
  | .agg parts => uptoBulkAll parts + 1
  | .iface _ d => uptoBulk d + 1
  | .map entries => uptoBulkEntries entries + 1
  | .held _ => 1
def uptoBulkAll {H : Type} : List (DataW H) → Nat
  | [] => 0
  | d :: r => uptoBulk d + uptoBulkAll r
def uptoBulkEntries {H : Type} : List (Lit × DataW H) → Nat
  | [] => 0
  | x :: r => uptoBulkEntry x + uptoBulkEntries r
def uptoBulkEntry {H : Type} : Lit × DataW H → Nat
  | (.string bytes, d) => bytes.length + uptoBulk d + 1
  | (_, d) => uptoBulk d + 1
 end
def uptoSmall : (H : Type) → List (DataW H) → Bool := fun _ ds => decide (uptoBulkAll ds ≤ 1048576)
def OpenSpec.upto (s : _root_.Go.ChangeSpec) : _root_.Go.OpenSpec := { _root_.Go.OpenSpec.ofChange s with cond := some uptoSmall }

/-- 'laws.FnExactGearOk', WHERE WHAT IT READS IS OF BULK AT MOST 1048576: true; the input reads as it did. -/
def fnExactGearOkUptoRow : OpenClaim := { program := "ytiecjmnaphfeaaa", sum := "f60832b4b1a201efbac82f70cad16ebec6de8786b0825a7900eec4467f07eecc", func := "loop.example/g03309/laws.FnExactGearOk", spec := "fnExactGearOk", apart := false, narrowed := true }
def FnExactGearOkUptoSaid : Prop := fnExactGearOkUptoRow.holds Try.pinned (OpenSpec.upto fnExactGearOkSpec)

/-- 'laws.FnExactTrainRatio', WHERE WHAT IT READS IS OF BULK AT MOST 1048576: true; the input reads as it did. -/
def fnExactTrainRatioUptoRow : OpenClaim := { program := "ytiecjmnaphfeaaa", sum := "f60832b4b1a201efbac82f70cad16ebec6de8786b0825a7900eec4467f07eecc", func := "loop.example/g03309/laws.FnExactTrainRatio", spec := "fnExactTrainRatio", apart := false, narrowed := true }
def FnExactTrainRatioUptoSaid : Prop := fnExactTrainRatioUptoRow.holds Try.pinned (OpenSpec.upto fnExactTrainRatioSpec)

/-- 'laws.FnExactTurnsOf', WHERE WHAT IT READS IS OF BULK AT MOST 1048576: true; the input reads as it did. -/
def fnExactTurnsOfUptoRow : OpenClaim := { program := "ytiecjmnaphfeaaa", sum := "f60832b4b1a201efbac82f70cad16ebec6de8786b0825a7900eec4467f07eecc", func := "loop.example/g03309/laws.FnExactTurnsOf", spec := "fnExactTurnsOf", apart := false, narrowed := true }
def FnExactTurnsOfUptoSaid : Prop := fnExactTurnsOfUptoRow.holds Try.pinned (OpenSpec.upto fnExactTurnsOfSpec)

/-- 'laws.FnExactLeastWhole', WHERE WHAT IT READS IS OF BULK AT MOST 1048576: true; the input reads as it did. -/
def fnExactLeastWholeUptoRow : OpenClaim := { program := "ytiecjmnaphfeaaa", sum := "f60832b4b1a201efbac82f70cad16ebec6de8786b0825a7900eec4467f07eecc", func := "loop.example/g03309/laws.FnExactLeastWhole", spec := "fnExactLeastWhole", apart := false, narrowed := true }
def FnExactLeastWholeUptoSaid : Prop := fnExactLeastWholeUptoRow.holds Try.pinned (OpenSpec.upto fnExactLeastWholeSpec)

/-- 'laws.FnExactTurnTrain', WHERE WHAT IT READS IS OF BULK AT MOST 1048576: true; the input reads as it did. -/
def fnExactTurnTrainUptoRow : OpenClaim := { program := "ytiecjmnaphfeaaa", sum := "f60832b4b1a201efbac82f70cad16ebec6de8786b0825a7900eec4467f07eecc", func := "loop.example/g03309/laws.FnExactTurnTrain", spec := "fnExactTurnTrain", apart := false, narrowed := true }
def FnExactTurnTrainUptoSaid : Prop := fnExactTurnTrainUptoRow.holds Try.pinned (OpenSpec.upto fnExactTurnTrainSpec)

/-- 'laws.FnExactGearsFor', WHERE WHAT IT READS IS OF BULK AT MOST 1048576: true; the input reads as it did. -/
def fnExactGearsForUptoRow : OpenClaim := { program := "ytiecjmnaphfeaaa", sum := "f60832b4b1a201efbac82f70cad16ebec6de8786b0825a7900eec4467f07eecc", func := "loop.example/g03309/laws.FnExactGearsFor", spec := "fnExactGearsFor", apart := false, narrowed := true }
def FnExactGearsForUptoSaid : Prop := fnExactGearsForUptoRow.holds Try.pinned (OpenSpec.upto fnExactGearsForSpec)

/-- 'laws.FnGears', WHERE WHAT IT READS IS OF BULK AT MOST 1048576: true; the input reads as it did. -/
def fnGearsUptoRow : OpenClaim := { program := "ytiecjmnaphfeaaa", sum := "f60832b4b1a201efbac82f70cad16ebec6de8786b0825a7900eec4467f07eecc", func := "loop.example/g03309/laws.FnGears", spec := "fnGears", apart := false, narrowed := true }
def FnGearsUptoSaid : Prop := fnGearsUptoRow.holds Try.pinned (OpenSpec.upto fnGearsSpec)

/-- 'laws.FnExactContinuedOf', WHERE WHAT IT READS IS OF BULK AT MOST 1048576: true; the input reads as it did. -/
def fnExactContinuedOfUptoRow : OpenClaim := { program := "ytiecjmnaphfeaaa", sum := "f60832b4b1a201efbac82f70cad16ebec6de8786b0825a7900eec4467f07eecc", func := "loop.example/g03309/laws.FnExactContinuedOf", spec := "fnExactContinuedOf", apart := false, narrowed := true }
def FnExactContinuedOfUptoSaid : Prop := fnExactContinuedOfUptoRow.holds Try.pinned (OpenSpec.upto fnExactContinuedOfSpec)

/-- 'laws.FnExactFractionOf', WHERE WHAT IT READS IS OF BULK AT MOST 1048576: true; the input reads as it did. -/
def fnExactFractionOfUptoRow : OpenClaim := { program := "ytiecjmnaphfeaaa", sum := "f60832b4b1a201efbac82f70cad16ebec6de8786b0825a7900eec4467f07eecc", func := "loop.example/g03309/laws.FnExactFractionOf", spec := "fnExactFractionOf", apart := false, narrowed := true }
def FnExactFractionOfUptoSaid : Prop := fnExactFractionOfUptoRow.holds Try.pinned (OpenSpec.upto fnExactFractionOfSpec)

/-- 'laws.FnExactCloserOf', WHERE WHAT IT READS IS OF BULK AT MOST 1048576: true; the input reads as it did. -/
def fnExactCloserOfUptoRow : OpenClaim := { program := "ytiecjmnaphfeaaa", sum := "f60832b4b1a201efbac82f70cad16ebec6de8786b0825a7900eec4467f07eecc", func := "loop.example/g03309/laws.FnExactCloserOf", spec := "fnExactCloserOf", apart := false, narrowed := true }
def FnExactCloserOfUptoSaid : Prop := fnExactCloserOfUptoRow.holds Try.pinned (OpenSpec.upto fnExactCloserOfSpec)

/-- 'laws.FnExactNearestGear', WHERE WHAT IT READS IS OF BULK AT MOST 1048576: true; the input reads as it did. -/
def fnExactNearestGearUptoRow : OpenClaim := { program := "ytiecjmnaphfeaaa", sum := "f60832b4b1a201efbac82f70cad16ebec6de8786b0825a7900eec4467f07eecc", func := "loop.example/g03309/laws.FnExactNearestGear", spec := "fnExactNearestGear", apart := false, narrowed := true }
def FnExactNearestGearUptoSaid : Prop := fnExactNearestGearUptoRow.holds Try.pinned (OpenSpec.upto fnExactNearestGearSpec)

/-- 'laws.FnExactErrorParts', WHERE WHAT IT READS IS OF BULK AT MOST 1048576: true; the input reads as it did. -/
def fnExactErrorPartsUptoRow : OpenClaim := { program := "ytiecjmnaphfeaaa", sum := "f60832b4b1a201efbac82f70cad16ebec6de8786b0825a7900eec4467f07eecc", func := "loop.example/g03309/laws.FnExactErrorParts", spec := "fnExactErrorParts", apart := false, narrowed := true }
def FnExactErrorPartsUptoSaid : Prop := fnExactErrorPartsUptoRow.holds Try.pinned (OpenSpec.upto fnExactErrorPartsSpec)

/-- 'laws.FnNearest', WHERE WHAT IT READS IS OF BULK AT MOST 1048576: true; the input reads as it did. -/
def fnNearestUptoRow : OpenClaim := { program := "ytiecjmnaphfeaaa", sum := "f60832b4b1a201efbac82f70cad16ebec6de8786b0825a7900eec4467f07eecc", func := "loop.example/g03309/laws.FnNearest", spec := "fnNearest", apart := false, narrowed := true }
def FnNearestUptoSaid : Prop := fnNearestUptoRow.holds Try.pinned (OpenSpec.upto fnNearestSpec)

end Rows
end Go.Proofs.Ytiecjmnaphfeaaa
