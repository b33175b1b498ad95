/-
  No cell of these rows narrows 'for every input' (looked for: loops, veiled, ifaces, maps, wideKeys, modest, calm, conditions, laid).
  DERIVED. THE GIVEN ROWS OF THIS SEAT. 13 by the template 'for every input the law returns true; each argument reads behind the call as it read before'; 0 by the template 'total and deterministic' (their statements: YtcnnkdpfigckoaaTotals.lean).
  GIVEN WITH THE SEED: the statements are not yours to turn. If you find one false, say at which input.
  Laid BY PROGRAM, IN A SANDBOX (cutbox-rows.mjs): the forced cells as the released guide's own fill.sh prints them over the translation 5cc691a12d25df42… (all of the seat's roots in one cut). By AI agents, Wed Nov 11 2026. No macro, syntax, notation, axiom, sorry.
-/
import Derived.Test.YtcnnkdpfigckoaaChecked
import GoSem.Claim
import GoSem.ClaimJoined
import GoSem.ClaimMapViews
import Derived.JoinedTies
import Derived.KernelRfl
namespace Go.Proofs.Ytcnnkdpfigckoaa
/- THE CELL 'sum', in the pinned program and in every row, IS THE sha256 OF THE DUMP (.gsa) THAT YtcnnkdpfigckoaaProg.lean LOADS. Nothing in Lean hashes anything: it is a label: what it is worth is what the hold of that sum in a sandbox is worth. -/
noncomputable def Try.pinned : Pinned := { name := "ytcnnkdpfigckoaa", sum := "5cc691a12d25df420babff45b7140f45d03bdb6452fec5950de6d9541572b766", checked := Try.checked }
namespace Rows
def none {H : Type} : Left H := { results := [], args := [] }

/-- 'laws.FnExactSpringOk': WHATEVER THE INPUT: true; the input reads as it did. -/
def fnExactSpringOkSpec : ChangeSpec := { name := "fnExactSpringOk", fn := fun _ => fun
  | [d] => { results := [.lit (.bool true)], args := [d] }
  | _ => none }
def fnExactSpringOkRow : OpenClaim := { program := "ytcnnkdpfigckoaa", sum := "5cc691a12d25df420babff45b7140f45d03bdb6452fec5950de6d9541572b766", func := "loop.example/g03309/laws.FnExactSpringOk", spec := "fnExactSpringOk", apart := false }
def FnExactSpringOkSaid : Prop := fnExactSpringOkRow.holds Try.pinned (OpenSpec.ofChange fnExactSpringOkSpec)

/-- ITS FALSE NEIGHBOUR: 'it returns false'. Refute it at one input. -/
def fnExactSpringOkWrong : ChangeSpec := { name := "fnExactSpringOk", fn := fun _ => fun
  | [d] => { results := [.lit (.bool false)], args := [d] }
  | _ => none }
def FnExactSpringOkWrongFalsely : Prop := fnExactSpringOkRow.holds Try.pinned (OpenSpec.ofChange fnExactSpringOkWrong)

/-- 'laws.FnExactForceNow': WHATEVER THE INPUT: true; the input reads as it did. -/
def fnExactForceNowSpec : ChangeSpec := { name := "fnExactForceNow", fn := fun _ => fun
  | [d] => { results := [.lit (.bool true)], args := [d] }
  | _ => none }
def fnExactForceNowRow : OpenClaim := { program := "ytcnnkdpfigckoaa", sum := "5cc691a12d25df420babff45b7140f45d03bdb6452fec5950de6d9541572b766", func := "loop.example/g03309/laws.FnExactForceNow", spec := "fnExactForceNow", apart := false }
def FnExactForceNowSaid : Prop := fnExactForceNowRow.holds Try.pinned (OpenSpec.ofChange fnExactForceNowSpec)

/-- ITS FALSE NEIGHBOUR: 'it returns false'. Refute it at one input. -/
def fnExactForceNowWrong : ChangeSpec := { name := "fnExactForceNow", fn := fun _ => fun
  | [d] => { results := [.lit (.bool false)], args := [d] }
  | _ => none }
def FnExactForceNowWrongFalsely : Prop := fnExactForceNowRow.holds Try.pinned (OpenSpec.ofChange fnExactForceNowWrong)

/-- 'laws.FnExactWind': WHATEVER THE INPUT: true; the input reads as it did. -/
def fnExactWindSpec : ChangeSpec := { name := "fnExactWind", fn := fun _ => fun
  | [d1, d2] => { results := [.lit (.bool true)], args := [d1, d2] }
  | _ => none }
def fnExactWindRow : OpenClaim := { program := "ytcnnkdpfigckoaa", sum := "5cc691a12d25df420babff45b7140f45d03bdb6452fec5950de6d9541572b766", func := "loop.example/g03309/laws.FnExactWind", spec := "fnExactWind", apart := false }
def FnExactWindSaid : Prop := fnExactWindRow.holds Try.pinned (OpenSpec.ofChange fnExactWindSpec)

/-- ITS FALSE NEIGHBOUR: 'it returns false'. Refute it at one input. -/
def fnExactWindWrong : ChangeSpec := { name := "fnExactWind", fn := fun _ => fun
  | [d1, d2] => { results := [.lit (.bool false)], args := [d1, d2] }
  | _ => none }
def FnExactWindWrongFalsely : Prop := fnExactWindRow.holds Try.pinned (OpenSpec.ofChange fnExactWindWrong)

/-- 'laws.FnExactUnwind': WHATEVER THE INPUT: true; the input reads as it did. -/
def fnExactUnwindSpec : ChangeSpec := { name := "fnExactUnwind", fn := fun _ => fun
  | [d1, d2] => { results := [.lit (.bool true)], args := [d1, d2] }
  | _ => none }
def fnExactUnwindRow : OpenClaim := { program := "ytcnnkdpfigckoaa", sum := "5cc691a12d25df420babff45b7140f45d03bdb6452fec5950de6d9541572b766", func := "loop.example/g03309/laws.FnExactUnwind", spec := "fnExactUnwind", apart := false }
def FnExactUnwindSaid : Prop := fnExactUnwindRow.holds Try.pinned (OpenSpec.ofChange fnExactUnwindSpec)

/-- ITS FALSE NEIGHBOUR: 'it returns false'. Refute it at one input. -/
def fnExactUnwindWrong : ChangeSpec := { name := "fnExactUnwind", fn := fun _ => fun
  | [d1, d2] => { results := [.lit (.bool false)], args := [d1, d2] }
  | _ => none }
def FnExactUnwindWrongFalsely : Prop := fnExactUnwindRow.holds Try.pinned (OpenSpec.ofChange fnExactUnwindWrong)

/-- 'laws.FnExactTurnsWith': WHATEVER THE INPUT: true; the input reads as it did. -/
def fnExactTurnsWithSpec : ChangeSpec := { name := "fnExactTurnsWith", fn := fun _ => fun
  | [d1, d2] => { results := [.lit (.bool true)], args := [d1, d2] }
  | _ => none }
def fnExactTurnsWithRow : OpenClaim := { program := "ytcnnkdpfigckoaa", sum := "5cc691a12d25df420babff45b7140f45d03bdb6452fec5950de6d9541572b766", func := "loop.example/g03309/laws.FnExactTurnsWith", spec := "fnExactTurnsWith", apart := false }
def FnExactTurnsWithSaid : Prop := fnExactTurnsWithRow.holds Try.pinned (OpenSpec.ofChange fnExactTurnsWithSpec)

/-- ITS FALSE NEIGHBOUR: 'it returns false'. Refute it at one input. -/
def fnExactTurnsWithWrong : ChangeSpec := { name := "fnExactTurnsWith", fn := fun _ => fun
  | [d1, d2] => { results := [.lit (.bool false)], args := [d1, d2] }
  | _ => none }
def FnExactTurnsWithWrongFalsely : Prop := fnExactTurnsWithRow.holds Try.pinned (OpenSpec.ofChange fnExactTurnsWithWrong)

/-- 'laws.FnExactWorkIn': WHATEVER THE INPUT: true; the input reads as it did. -/
def fnExactWorkInSpec : ChangeSpec := { name := "fnExactWorkIn", fn := fun _ => fun
  | [d] => { results := [.lit (.bool true)], args := [d] }
  | _ => none }
def fnExactWorkInRow : OpenClaim := { program := "ytcnnkdpfigckoaa", sum := "5cc691a12d25df420babff45b7140f45d03bdb6452fec5950de6d9541572b766", func := "loop.example/g03309/laws.FnExactWorkIn", spec := "fnExactWorkIn", apart := false }
def FnExactWorkInSaid : Prop := fnExactWorkInRow.holds Try.pinned (OpenSpec.ofChange fnExactWorkInSpec)

/-- ITS FALSE NEIGHBOUR: 'it returns false'. Refute it at one input. -/
def fnExactWorkInWrong : ChangeSpec := { name := "fnExactWorkIn", fn := fun _ => fun
  | [d] => { results := [.lit (.bool false)], args := [d] }
  | _ => none }
def FnExactWorkInWrongFalsely : Prop := fnExactWorkInRow.holds Try.pinned (OpenSpec.ofChange fnExactWorkInWrong)

/-- 'laws.FnSprings': WHATEVER THE INPUT: true; the input reads as it did. -/
def fnSpringsSpec : ChangeSpec := { name := "fnSprings", fn := fun _ => fun
  | [d] => { results := [.lit (.bool true)], args := [d] }
  | _ => none }
def fnSpringsRow : OpenClaim := { program := "ytcnnkdpfigckoaa", sum := "5cc691a12d25df420babff45b7140f45d03bdb6452fec5950de6d9541572b766", func := "loop.example/g03309/laws.FnSprings", spec := "fnSprings", apart := false }
def FnSpringsSaid : Prop := fnSpringsRow.holds Try.pinned (OpenSpec.ofChange fnSpringsSpec)

/-- ITS FALSE NEIGHBOUR: 'it returns false'. Refute it at one input. -/
def fnSpringsWrong : ChangeSpec := { name := "fnSprings", fn := fun _ => fun
  | [d] => { results := [.lit (.bool false)], args := [d] }
  | _ => none }
def FnSpringsWrongFalsely : Prop := fnSpringsRow.holds Try.pinned (OpenSpec.ofChange fnSpringsWrong)

/-- 'laws.FnExactNextSpeed': WHATEVER THE INPUT: true; the input reads as it did. -/
def fnExactNextSpeedSpec : ChangeSpec := { name := "fnExactNextSpeed", fn := fun _ => fun
  | [d1, d2, d3] => { results := [.lit (.bool true)], args := [d1, d2, d3] }
  | _ => none }
def fnExactNextSpeedRow : OpenClaim := { program := "ytcnnkdpfigckoaa", sum := "5cc691a12d25df420babff45b7140f45d03bdb6452fec5950de6d9541572b766", func := "loop.example/g03309/laws.FnExactNextSpeed", spec := "fnExactNextSpeed", apart := false }
def FnExactNextSpeedSaid : Prop := fnExactNextSpeedRow.holds Try.pinned (OpenSpec.ofChange fnExactNextSpeedSpec)

/-- ITS FALSE NEIGHBOUR: 'it returns false'. Refute it at one input. -/
def fnExactNextSpeedWrong : ChangeSpec := { name := "fnExactNextSpeed", fn := fun _ => fun
  | [d1, d2, d3] => { results := [.lit (.bool false)], args := [d1, d2, d3] }
  | _ => none }
def FnExactNextSpeedWrongFalsely : Prop := fnExactNextSpeedRow.holds Try.pinned (OpenSpec.ofChange fnExactNextSpeedWrong)

/-- 'laws.FnExactSpeedAfter': WHATEVER THE INPUT: true; the input reads as it did. -/
def fnExactSpeedAfterSpec : ChangeSpec := { name := "fnExactSpeedAfter", fn := fun _ => fun
  | [d1, d2, d3, d4] => { results := [.lit (.bool true)], args := [d1, d2, d3, d4] }
  | _ => none }
def fnExactSpeedAfterRow : OpenClaim := { program := "ytcnnkdpfigckoaa", sum := "5cc691a12d25df420babff45b7140f45d03bdb6452fec5950de6d9541572b766", func := "loop.example/g03309/laws.FnExactSpeedAfter", spec := "fnExactSpeedAfter", apart := false }
def FnExactSpeedAfterSaid : Prop := fnExactSpeedAfterRow.holds Try.pinned (OpenSpec.ofChange fnExactSpeedAfterSpec)

/-- ITS FALSE NEIGHBOUR: 'it returns false'. Refute it at one input. -/
def fnExactSpeedAfterWrong : ChangeSpec := { name := "fnExactSpeedAfter", fn := fun _ => fun
  | [d1, d2, d3, d4] => { results := [.lit (.bool false)], args := [d1, d2, d3, d4] }
  | _ => none }
def FnExactSpeedAfterWrongFalsely : Prop := fnExactSpeedAfterRow.holds Try.pinned (OpenSpec.ofChange fnExactSpeedAfterWrong)

/-- 'laws.FnExactSteadySpeed': WHATEVER THE INPUT: true; the input reads as it did. -/
def fnExactSteadySpeedSpec : ChangeSpec := { name := "fnExactSteadySpeed", fn := fun _ => fun
  | [d1, d2] => { results := [.lit (.bool true)], args := [d1, d2] }
  | _ => none }
def fnExactSteadySpeedRow : OpenClaim := { program := "ytcnnkdpfigckoaa", sum := "5cc691a12d25df420babff45b7140f45d03bdb6452fec5950de6d9541572b766", func := "loop.example/g03309/laws.FnExactSteadySpeed", spec := "fnExactSteadySpeed", apart := false }
def FnExactSteadySpeedSaid : Prop := fnExactSteadySpeedRow.holds Try.pinned (OpenSpec.ofChange fnExactSteadySpeedSpec)

/-- ITS FALSE NEIGHBOUR: 'it returns false'. Refute it at one input. -/
def fnExactSteadySpeedWrong : ChangeSpec := { name := "fnExactSteadySpeed", fn := fun _ => fun
  | [d1, d2] => { results := [.lit (.bool false)], args := [d1, d2] }
  | _ => none }
def FnExactSteadySpeedWrongFalsely : Prop := fnExactSteadySpeedRow.holds Try.pinned (OpenSpec.ofChange fnExactSteadySpeedWrong)

/-- 'laws.FnExactStepsUntilSteady': WHATEVER THE INPUT: true; the input reads as it did. -/
def fnExactStepsUntilSteadySpec : ChangeSpec := { name := "fnExactStepsUntilSteady", fn := fun _ => fun
  | [d1, d2, d3] => { results := [.lit (.bool true)], args := [d1, d2, d3] }
  | _ => none }
def fnExactStepsUntilSteadyRow : OpenClaim := { program := "ytcnnkdpfigckoaa", sum := "5cc691a12d25df420babff45b7140f45d03bdb6452fec5950de6d9541572b766", func := "loop.example/g03309/laws.FnExactStepsUntilSteady", spec := "fnExactStepsUntilSteady", apart := false }
def FnExactStepsUntilSteadySaid : Prop := fnExactStepsUntilSteadyRow.holds Try.pinned (OpenSpec.ofChange fnExactStepsUntilSteadySpec)

/-- ITS FALSE NEIGHBOUR: 'it returns false'. Refute it at one input. -/
def fnExactStepsUntilSteadyWrong : ChangeSpec := { name := "fnExactStepsUntilSteady", fn := fun _ => fun
  | [d1, d2, d3] => { results := [.lit (.bool false)], args := [d1, d2, d3] }
  | _ => none }
def FnExactStepsUntilSteadyWrongFalsely : Prop := fnExactStepsUntilSteadyRow.holds Try.pinned (OpenSpec.ofChange fnExactStepsUntilSteadyWrong)

/-- 'laws.FnExactIsEven': WHATEVER THE INPUT: true; the input reads as it did. -/
def fnExactIsEvenSpec : ChangeSpec := { name := "fnExactIsEven", fn := fun _ => fun
  | [d1, d2] => { results := [.lit (.bool true)], args := [d1, d2] }
  | _ => none }
def fnExactIsEvenRow : OpenClaim := { program := "ytcnnkdpfigckoaa", sum := "5cc691a12d25df420babff45b7140f45d03bdb6452fec5950de6d9541572b766", func := "loop.example/g03309/laws.FnExactIsEven", spec := "fnExactIsEven", apart := false }
def FnExactIsEvenSaid : Prop := fnExactIsEvenRow.holds Try.pinned (OpenSpec.ofChange fnExactIsEvenSpec)

/-- ITS FALSE NEIGHBOUR: 'it returns false'. Refute it at one input. -/
def fnExactIsEvenWrong : ChangeSpec := { name := "fnExactIsEven", fn := fun _ => fun
  | [d1, d2] => { results := [.lit (.bool false)], args := [d1, d2] }
  | _ => none }
def FnExactIsEvenWrongFalsely : Prop := fnExactIsEvenRow.holds Try.pinned (OpenSpec.ofChange fnExactIsEvenWrong)

/-- 'laws.FnGovernors': WHATEVER THE INPUT: true; the input reads as it did. -/
def fnGovernorsSpec : ChangeSpec := { name := "fnGovernors", fn := fun _ => fun
  | [d] => { results := [.lit (.bool true)], args := [d] }
  | _ => none }
def fnGovernorsRow : OpenClaim := { program := "ytcnnkdpfigckoaa", sum := "5cc691a12d25df420babff45b7140f45d03bdb6452fec5950de6d9541572b766", func := "loop.example/g03309/laws.FnGovernors", spec := "fnGovernors", apart := false }
def FnGovernorsSaid : Prop := fnGovernorsRow.holds Try.pinned (OpenSpec.ofChange fnGovernorsSpec)

/-- ITS FALSE NEIGHBOUR: 'it returns false'. Refute it at one input. -/
def fnGovernorsWrong : ChangeSpec := { name := "fnGovernors", fn := fun _ => fun
  | [d] => { results := [.lit (.bool false)], args := [d] }
  | _ => none }
def FnGovernorsWrongFalsely : Prop := fnGovernorsRow.holds Try.pinned (OpenSpec.ofChange fnGovernorsWrong)

/- THE SECOND FORM. 'bulk': how many values and letters a reading holds, each counted each time it is reached (what is shared counts as often as it is met; a slice's spare places count too). A statement '..UptoSaid' is the law's where the arguments, and the package variables that the reading takes, are together of bulk at most 1048576: NARROWER than '..Said'. Prove '..Said' where nothing that the law and all that it calls make is longer than what came in: it says more and counts as full. Else prove '..UptoSaid'. A law counts once. -/
mutual
def uptoBulk {H : Type} : DataW H → Nat
  | .lit (.string bytes) => bytes.length + 1
  | .lit _ => 1
  | .nil => 1
  | .ptr d => uptoBulk d + 1
  | .slice elems spare => uptoBulkAll elems + uptoBulkAll spare + 1
  | .agg parts => uptoBulkAll parts + 1
  | .iface _ d => uptoBulk d + 1
  | .map entries => uptoBulkEntries entries + 1
  | .held _ => 1
def uptoBulkAll {H : Type} : List (DataW H) → Nat
  | [] => 0
  | d :: r => uptoBulk d + uptoBulkAll r
def uptoBulkEntries {H : Type} : List (Lit × DataW H) → Nat
  | [] => 0
  | x :: r => uptoBulkEntry x + uptoBulkEntries r
def uptoBulkEntry {H : Type} : Lit × DataW H → Nat
  | (.string bytes, d) => bytes.length + uptoBulk d + 1
  | (_, d) => uptoBulk d + 1
 end
def uptoSmall : (H : Type) → List (DataW H) → Bool := fun _ ds => decide (uptoBulkAll ds ≤ 1048576)
def OpenSpec.upto (s : _root_.Go.ChangeSpec) : _root_.Go.OpenSpec := { _root_.Go.OpenSpec.ofChange s with cond := some uptoSmall }

/-- 'laws.FnExactSpringOk', WHERE WHAT IT READS IS OF BULK AT MOST 1048576: true; the input reads as it did. -/
def fnExactSpringOkUptoRow : OpenClaim := { program := "ytcnnkdpfigckoaa", sum := "5cc691a12d25df420babff45b7140f45d03bdb6452fec5950de6d9541572b766", func := "loop.example/g03309/laws.FnExactSpringOk", spec := "fnExactSpringOk", apart := false, narrowed := true }
def FnExactSpringOkUptoSaid : Prop := fnExactSpringOkUptoRow.holds Try.pinned (OpenSpec.upto fnExactSpringOkSpec)

/-- 'laws.FnExactForceNow', WHERE WHAT IT READS IS OF BULK AT MOST 1048576: true; the input reads as it did. -/
def fnExactForceNowUptoRow : OpenClaim := { program := "ytcnnkdpfigckoaa", sum := "5cc691a12d25df420babff45b7140f45d03bdb6452fec5950de6d9541572b766", func := "loop.example/g03309/laws.FnExactForceNow", spec := "fnExactForceNow", apart := false, narrowed := true }
def FnExactForceNowUptoSaid : Prop := fnExactForceNowUptoRow.holds Try.pinned (OpenSpec.upto fnExactForceNowSpec)

/-- 'laws.FnExactWind', WHERE WHAT IT READS IS OF BULK AT MOST 1048576: true; the input reads as it did. -/
def fnExactWindUptoRow : OpenClaim := { program := "ytcnnkdpfigckoaa", sum := "5cc691a12d25df420babff45b7140f45d03bdb6452fec5950de6d9541572b766", func := "loop.example/g03309/laws.FnExactWind", spec := "fnExactWind", apart := false, narrowed := true }
def FnExactWindUptoSaid : Prop := fnExactWindUptoRow.holds Try.pinned (OpenSpec.upto fnExactWindSpec)

/-- 'laws.FnExactUnwind', WHERE WHAT IT READS IS OF BULK AT MOST 1048576: true; the input reads as it did. -/
def fnExactUnwindUptoRow : OpenClaim := { program := "ytcnnkdpfigckoaa", sum := "5cc691a12d25df420babff45b7140f45d03bdb6452fec5950de6d9541572b766", func := "loop.example/g03309/laws.FnExactUnwind", spec := "fnExactUnwind", apart := false, narrowed := true }
def FnExactUnwindUptoSaid : Prop := fnExactUnwindUptoRow.holds Try.pinned (OpenSpec.upto fnExactUnwindSpec)

/-- 'laws.FnExactTurnsWith', WHERE WHAT IT READS IS OF BULK AT MOST 1048576: true; the input reads as it did. -/
def fnExactTurnsWithUptoRow : OpenClaim := { program := "ytcnnkdpfigckoaa", sum := "5cc691a12d25df420babff45b7140f45d03bdb6452fec5950de6d9541572b766", func := "loop.example/g03309/laws.FnExactTurnsWith", spec := "fnExactTurnsWith", apart := false, narrowed := true }
def FnExactTurnsWithUptoSaid : Prop := fnExactTurnsWithUptoRow.holds Try.pinned (OpenSpec.upto fnExactTurnsWithSpec)

/-- 'laws.FnExactWorkIn', WHERE WHAT IT READS IS OF BULK AT MOST 1048576: true; the input reads as it did. -/
def fnExactWorkInUptoRow : OpenClaim := { program := "ytcnnkdpfigckoaa", sum := "5cc691a12d25df420babff45b7140f45d03bdb6452fec5950de6d9541572b766", func := "loop.example/g03309/laws.FnExactWorkIn", spec := "fnExactWorkIn", apart := false, narrowed := true }
def FnExactWorkInUptoSaid : Prop := fnExactWorkInUptoRow.holds Try.pinned (OpenSpec.upto fnExactWorkInSpec)

/-- 'laws.FnSprings', WHERE WHAT IT READS IS OF BULK AT MOST 1048576: true; the input reads as it did. -/
def fnSpringsUptoRow : OpenClaim := { program := "ytcnnkdpfigckoaa", sum := "5cc691a12d25df420babff45b7140f45d03bdb6452fec5950de6d9541572b766", func := "loop.example/g03309/laws.FnSprings", spec := "fnSprings", apart := false, narrowed := true }
def FnSpringsUptoSaid : Prop := fnSpringsUptoRow.holds Try.pinned (OpenSpec.upto fnSpringsSpec)

/-- 'laws.FnExactNextSpeed', WHERE WHAT IT READS IS OF BULK AT MOST 1048576: true; the input reads as it did. -/
def fnExactNextSpeedUptoRow : OpenClaim := { program := "ytcnnkdpfigckoaa", sum := "5cc691a12d25df420babff45b7140f45d03bdb6452fec5950de6d9541572b766", func := "loop.example/g03309/laws.FnExactNextSpeed", spec := "fnExactNextSpeed", apart := false, narrowed := true }
def FnExactNextSpeedUptoSaid : Prop := fnExactNextSpeedUptoRow.holds Try.pinned (OpenSpec.upto fnExactNextSpeedSpec)

/-- 'laws.FnExactSpeedAfter', WHERE WHAT IT READS IS OF BULK AT MOST 1048576: true; the input reads as it did. -/
def fnExactSpeedAfterUptoRow : OpenClaim := { program := "ytcnnkdpfigckoaa", sum := "5cc691a12d25df420babff45b7140f45d03bdb6452fec5950de6d9541572b766", func := "loop.example/g03309/laws.FnExactSpeedAfter", spec := "fnExactSpeedAfter", apart := false, narrowed := true }
def FnExactSpeedAfterUptoSaid : Prop := fnExactSpeedAfterUptoRow.holds Try.pinned (OpenSpec.upto fnExactSpeedAfterSpec)

/-- 'laws.FnExactSteadySpeed', WHERE WHAT IT READS IS OF BULK AT MOST 1048576: true; the input reads as it did. -/
def fnExactSteadySpeedUptoRow : OpenClaim := { program := "ytcnnkdpfigckoaa", sum := "5cc691a12d25df420babff45b7140f45d03bdb6452fec5950de6d9541572b766", func := "loop.example/g03309/laws.FnExactSteadySpeed", spec := "fnExactSteadySpeed", apart := false, narrowed := true }
def FnExactSteadySpeedUptoSaid : Prop := fnExactSteadySpeedUptoRow.holds Try.pinned (OpenSpec.upto fnExactSteadySpeedSpec)

/-- 'laws.FnExactStepsUntilSteady', WHERE WHAT IT READS IS OF BULK AT MOST 1048576: true; the input reads as it did. -/
def fnExactStepsUntilSteadyUptoRow : OpenClaim := { program := "ytcnnkdpfigckoaa", sum := "5cc691a12d25df420babff45b7140f45d03bdb6452fec5950de6d9541572b766", func := "loop.example/g03309/laws.FnExactStepsUntilSteady", spec := "fnExactStepsUntilSteady", apart := false, narrowed := true }
def FnExactStepsUntilSteadyUptoSaid : Prop := fnExactStepsUntilSteadyUptoRow.holds Try.pinned (OpenSpec.upto fnExactStepsUntilSteadySpec)

/-- 'laws.FnExactIsEven', WHERE WHAT IT READS IS OF BULK AT MOST 1048576: true; the input reads as it did. -/
def fnExactIsEvenUptoRow : OpenClaim := { program := "ytcnnkdpfigckoaa", sum := "5cc691a12d25df420babff45b7140f45d03bdb6452fec5950de6d9541572b766", func := "loop.example/g03309/laws.FnExactIsEven", spec := "fnExactIsEven", apart := false, narrowed := true }
def FnExactIsEvenUptoSaid : Prop := fnExactIsEvenUptoRow.holds Try.pinned (OpenSpec.upto fnExactIsEvenSpec)

/-- 'laws.FnGovernors', WHERE WHAT IT READS IS OF BULK AT MOST 1048576: true; the input reads as it did. -/
def fnGovernorsUptoRow : OpenClaim := { program := "ytcnnkdpfigckoaa", sum := "5cc691a12d25df420babff45b7140f45d03bdb6452fec5950de6d9541572b766", func := "loop.example/g03309/laws.FnGovernors", spec := "fnGovernors", apart := false, narrowed := true }
def FnGovernorsUptoSaid : Prop := fnGovernorsUptoRow.holds Try.pinned (OpenSpec.upto fnGovernorsSpec)

end Rows
end Go.Proofs.Ytcnnkdpfigckoaa
