/-
  No cell of these rows narrows 'for every input' (looked for: loops, veiled, ifaces, maps, wideKeys, modest, calm, conditions, laid).
  DERIVED. THE GIVEN ROWS OF THIS SEAT. 6 by the template 'for every input the law returns true; each argument reads behind the call as it read before'; 0 by the template 'total and deterministic' (their statements: YtbgoednppihboaaTotals.lean).
  GIVEN WITH THE SEED: the statements are not yours to turn. If you find one false, say at which input.
  Laid BY PROGRAM, IN A SANDBOX (cutbox-rows.mjs): the forced cells as the released guide's own fill.sh prints them over the translation adb8f0f800bc3c99… (all of the seat's roots in one cut). By AI agents, Wed Nov 11 2026. No macro, syntax, notation, axiom, sorry.
-/
import Derived.Test.YtbgoednppihboaaChecked
import GoSem.Claim
import GoSem.ClaimJoined
import GoSem.ClaimMapViews
import Derived.JoinedTies
import Derived.KernelRfl
namespace Go.Proofs.Ytbgoednppihboaa
/- THE CELL 'sum', in the pinned program and in every row, IS THE sha256 OF THE DUMP (.gsa) THAT YtbgoednppihboaaProg.lean LOADS. Nothing in Lean hashes anything: it is a label: what it is worth is what the hold of that sum in a sandbox is worth. -/
noncomputable def Try.pinned : Pinned := { name := "ytbgoednppihboaa", sum := "adb8f0f800bc3c9932e09109d63833bb70135bae4e9451ac884fb731a5083117", checked := Try.checked }
namespace Rows
def none {H : Type} : Left H := { results := [], args := [] }

/-- 'laws.FnExactToothOk': WHATEVER THE INPUT: true; the input reads as it did. -/
def fnExactToothOkSpec : ChangeSpec := { name := "fnExactToothOk", fn := fun _ => fun
  | [d] => { results := [.lit (.bool true)], args := [d] }
  | _ => none }
def fnExactToothOkRow : OpenClaim := { program := "ytbgoednppihboaa", sum := "adb8f0f800bc3c9932e09109d63833bb70135bae4e9451ac884fb731a5083117", func := "loop.example/g03309/laws.FnExactToothOk", spec := "fnExactToothOk", apart := false }
def FnExactToothOkSaid : Prop := fnExactToothOkRow.holds Try.pinned (OpenSpec.ofChange fnExactToothOkSpec)

/-- ITS FALSE NEIGHBOUR: 'it returns false'. Refute it at one input. -/
def fnExactToothOkWrong : ChangeSpec := { name := "fnExactToothOk", fn := fun _ => fun
  | [d] => { results := [.lit (.bool false)], args := [d] }
  | _ => none }
def FnExactToothOkWrongFalsely : Prop := fnExactToothOkRow.holds Try.pinned (OpenSpec.ofChange fnExactToothOkWrong)

/-- 'laws.FnExactFileTip': WHATEVER THE INPUT: true; the input reads as it did. -/
def fnExactFileTipSpec : ChangeSpec := { name := "fnExactFileTip", fn := fun _ => fun
  | [d] => { results := [.lit (.bool true)], args := [d] }
  | _ => none }
def fnExactFileTipRow : OpenClaim := { program := "ytbgoednppihboaa", sum := "adb8f0f800bc3c9932e09109d63833bb70135bae4e9451ac884fb731a5083117", func := "loop.example/g03309/laws.FnExactFileTip", spec := "fnExactFileTip", apart := false }
def FnExactFileTipSaid : Prop := fnExactFileTipRow.holds Try.pinned (OpenSpec.ofChange fnExactFileTipSpec)

/-- ITS FALSE NEIGHBOUR: 'it returns false'. Refute it at one input. -/
def fnExactFileTipWrong : ChangeSpec := { name := "fnExactFileTip", fn := fun _ => fun
  | [d] => { results := [.lit (.bool false)], args := [d] }
  | _ => none }
def FnExactFileTipWrongFalsely : Prop := fnExactFileTipRow.holds Try.pinned (OpenSpec.ofChange fnExactFileTipWrong)

/-- 'laws.FnExactFileRoot': WHATEVER THE INPUT: true; the input reads as it did. -/
def fnExactFileRootSpec : ChangeSpec := { name := "fnExactFileRoot", fn := fun _ => fun
  | [d] => { results := [.lit (.bool true)], args := [d] }
  | _ => none }
def fnExactFileRootRow : OpenClaim := { program := "ytbgoednppihboaa", sum := "adb8f0f800bc3c9932e09109d63833bb70135bae4e9451ac884fb731a5083117", func := "loop.example/g03309/laws.FnExactFileRoot", spec := "fnExactFileRoot", apart := false }
def FnExactFileRootSaid : Prop := fnExactFileRootRow.holds Try.pinned (OpenSpec.ofChange fnExactFileRootSpec)

/-- ITS FALSE NEIGHBOUR: 'it returns false'. Refute it at one input. -/
def fnExactFileRootWrong : ChangeSpec := { name := "fnExactFileRoot", fn := fun _ => fun
  | [d] => { results := [.lit (.bool false)], args := [d] }
  | _ => none }
def FnExactFileRootWrongFalsely : Prop := fnExactFileRootRow.holds Try.pinned (OpenSpec.ofChange fnExactFileRootWrong)

/-- 'laws.FnExactStepsTo': WHATEVER THE INPUT: true; the input reads as it did. -/
def fnExactStepsToSpec : ChangeSpec := { name := "fnExactStepsTo", fn := fun _ => fun
  | [d1, d2] => { results := [.lit (.bool true)], args := [d1, d2] }
  | _ => none }
def fnExactStepsToRow : OpenClaim := { program := "ytbgoednppihboaa", sum := "adb8f0f800bc3c9932e09109d63833bb70135bae4e9451ac884fb731a5083117", func := "loop.example/g03309/laws.FnExactStepsTo", spec := "fnExactStepsTo", apart := false }
def FnExactStepsToSaid : Prop := fnExactStepsToRow.holds Try.pinned (OpenSpec.ofChange fnExactStepsToSpec)

/-- ITS FALSE NEIGHBOUR: 'it returns false'. Refute it at one input. -/
def fnExactStepsToWrong : ChangeSpec := { name := "fnExactStepsTo", fn := fun _ => fun
  | [d1, d2] => { results := [.lit (.bool false)], args := [d1, d2] }
  | _ => none }
def FnExactStepsToWrongFalsely : Prop := fnExactStepsToRow.holds Try.pinned (OpenSpec.ofChange fnExactStepsToWrong)

/-- 'laws.FnExactClosestTone': WHATEVER THE INPUT: true; the input reads as it did. -/
def fnExactClosestToneSpec : ChangeSpec := { name := "fnExactClosestTone", fn := fun _ => fun
  | [d1, d2] => { results := [.lit (.bool true)], args := [d1, d2] }
  | _ => none }
def fnExactClosestToneRow : OpenClaim := { program := "ytbgoednppihboaa", sum := "adb8f0f800bc3c9932e09109d63833bb70135bae4e9451ac884fb731a5083117", func := "loop.example/g03309/laws.FnExactClosestTone", spec := "fnExactClosestTone", apart := false }
def FnExactClosestToneSaid : Prop := fnExactClosestToneRow.holds Try.pinned (OpenSpec.ofChange fnExactClosestToneSpec)

/-- ITS FALSE NEIGHBOUR: 'it returns false'. Refute it at one input. -/
def fnExactClosestToneWrong : ChangeSpec := { name := "fnExactClosestTone", fn := fun _ => fun
  | [d1, d2] => { results := [.lit (.bool false)], args := [d1, d2] }
  | _ => none }
def FnExactClosestToneWrongFalsely : Prop := fnExactClosestToneRow.holds Try.pinned (OpenSpec.ofChange fnExactClosestToneWrong)

/-- 'laws.FnFiles': WHATEVER THE INPUT: true; the input reads as it did. -/
def fnFilesSpec : ChangeSpec := { name := "fnFiles", fn := fun _ => fun
  | [d] => { results := [.lit (.bool true)], args := [d] }
  | _ => none }
def fnFilesRow : OpenClaim := { program := "ytbgoednppihboaa", sum := "adb8f0f800bc3c9932e09109d63833bb70135bae4e9451ac884fb731a5083117", func := "loop.example/g03309/laws.FnFiles", spec := "fnFiles", apart := false }
def FnFilesSaid : Prop := fnFilesRow.holds Try.pinned (OpenSpec.ofChange fnFilesSpec)

/-- ITS FALSE NEIGHBOUR: 'it returns false'. Refute it at one input. -/
def fnFilesWrong : ChangeSpec := { name := "fnFiles", fn := fun _ => fun
  | [d] => { results := [.lit (.bool false)], args := [d] }
  | _ => none }
def FnFilesWrongFalsely : Prop := fnFilesRow.holds Try.pinned (OpenSpec.ofChange fnFilesWrong)

/- THE SECOND FORM. 'bulk': how many values and letters a reading holds, each counted each time it is reached (what is shared counts as often as it is met; a slice's spare places count too). A statement '..UptoSaid' is the law's where the arguments, and the package variables that the reading takes, are together of bulk at most 1048576: NARROWER than '..Said'. Prove '..Said' where nothing that the law and all that it calls make is longer than what came in: it says more and counts as full. Else prove '..UptoSaid'. A law counts once. -/
mutual
def uptoBulk {H : Type} : DataW H → Nat
  | .lit (.string bytes) => bytes.length + 1
  | .lit _ => 1
  | .nil => 1
  | .ptr d => uptoBulk d + 1
  | .slice elems spare => uptoBulkAll elems + uptoBulkAll spare + 1
  | .agg parts => uptoBulkAll parts + 1
  | .iface _ d => uptoBulk d + 1
  | .map entries => uptoBulkEntries entries + 1
  | .held _ => 1
def uptoBulkAll {H : Type} : List (DataW H) → Nat
  | [] => 0
  | d :: r => uptoBulk d + uptoBulkAll r
def uptoBulkEntries {H : Type} : List (Lit × DataW H) → Nat
  | [] => 0
  | x :: r => uptoBulkEntry x + uptoBulkEntries r
def uptoBulkEntry {H : Type} : Lit × DataW H → Nat
  | (.string bytes, d) => bytes.length + uptoBulk d + 1
  | (_, d) => uptoBulk d + 1
 end
def uptoSmall : (H : Type) → List (DataW H) → Bool := fun _ ds => decide (uptoBulkAll ds ≤ 1048576)
def OpenSpec.upto (s : _root_.Go.ChangeSpec) : _root_.Go.OpenSpec := { _root_.Go.OpenSpec.ofChange s with cond := some uptoSmall }

/-- 'laws.FnExactToothOk', WHERE WHAT IT READS IS OF BULK AT MOST 1048576: true; the input reads as it did. -/
def fnExactToothOkUptoRow : OpenClaim := { program := "ytbgoednppihboaa", sum := "adb8f0f800bc3c9932e09109d63833bb70135bae4e9451ac884fb731a5083117", func := "loop.example/g03309/laws.FnExactToothOk", spec := "fnExactToothOk", apart := false, narrowed := true }
def FnExactToothOkUptoSaid : Prop := fnExactToothOkUptoRow.holds Try.pinned (OpenSpec.upto fnExactToothOkSpec)

/-- 'laws.FnExactFileTip', WHERE WHAT IT READS IS OF BULK AT MOST 1048576: true; the input reads as it did. -/
def fnExactFileTipUptoRow : OpenClaim := { program := "ytbgoednppihboaa", sum := "adb8f0f800bc3c9932e09109d63833bb70135bae4e9451ac884fb731a5083117", func := "loop.example/g03309/laws.FnExactFileTip", spec := "fnExactFileTip", apart := false, narrowed := true }
def FnExactFileTipUptoSaid : Prop := fnExactFileTipUptoRow.holds Try.pinned (OpenSpec.upto fnExactFileTipSpec)

/-- 'laws.FnExactFileRoot', WHERE WHAT IT READS IS OF BULK AT MOST 1048576: true; the input reads as it did. -/
def fnExactFileRootUptoRow : OpenClaim := { program := "ytbgoednppihboaa", sum := "adb8f0f800bc3c9932e09109d63833bb70135bae4e9451ac884fb731a5083117", func := "loop.example/g03309/laws.FnExactFileRoot", spec := "fnExactFileRoot", apart := false, narrowed := true }
def FnExactFileRootUptoSaid : Prop := fnExactFileRootUptoRow.holds Try.pinned (OpenSpec.upto fnExactFileRootSpec)

/-- 'laws.FnExactStepsTo', WHERE WHAT IT READS IS OF BULK AT MOST 1048576: true; the input reads as it did. -/
def fnExactStepsToUptoRow : OpenClaim := { program := "ytbgoednppihboaa", sum := "adb8f0f800bc3c9932e09109d63833bb70135bae4e9451ac884fb731a5083117", func := "loop.example/g03309/laws.FnExactStepsTo", spec := "fnExactStepsTo", apart := false, narrowed := true }
def FnExactStepsToUptoSaid : Prop := fnExactStepsToUptoRow.holds Try.pinned (OpenSpec.upto fnExactStepsToSpec)

/-- 'laws.FnExactClosestTone', WHERE WHAT IT READS IS OF BULK AT MOST 1048576: true; the input reads as it did. -/
def fnExactClosestToneUptoRow : OpenClaim := { program := "ytbgoednppihboaa", sum := "adb8f0f800bc3c9932e09109d63833bb70135bae4e9451ac884fb731a5083117", func := "loop.example/g03309/laws.FnExactClosestTone", spec := "fnExactClosestTone", apart := false, narrowed := true }
def FnExactClosestToneUptoSaid : Prop := fnExactClosestToneUptoRow.holds Try.pinned (OpenSpec.upto fnExactClosestToneSpec)

/-- 'laws.FnFiles', WHERE WHAT IT READS IS OF BULK AT MOST 1048576: true; the input reads as it did. -/
def fnFilesUptoRow : OpenClaim := { program := "ytbgoednppihboaa", sum := "adb8f0f800bc3c9932e09109d63833bb70135bae4e9451ac884fb731a5083117", func := "loop.example/g03309/laws.FnFiles", spec := "fnFiles", apart := false, narrowed := true }
def FnFilesUptoSaid : Prop := fnFilesUptoRow.holds Try.pinned (OpenSpec.upto fnFilesSpec)

end Rows
end Go.Proofs.Ytbgoednppihboaa
