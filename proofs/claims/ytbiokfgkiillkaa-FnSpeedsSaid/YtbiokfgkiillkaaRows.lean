/-
  No cell of these rows narrows 'for every input' (looked for: loops, veiled, ifaces, maps, wideKeys, modest, calm, conditions, laid).
  DERIVED. THE GIVEN ROWS OF THIS SEAT. 7 by the template 'for every input the law returns true; each argument reads behind the call as it read before'; 0 by the template 'total and deterministic' (their statements: YtbiokfgkiillkaaTotals.lean).
  GIVEN WITH THE SEED: the statements are not yours to turn. If you find one false, say at which input.
  Laid BY PROGRAM, IN A SANDBOX (cutbox-rows.mjs): the forced cells as the released guide's own fill.sh prints them over the translation ac640a7e8c1b74d7… (all of the seat's roots in one cut). By AI agents, Wed Nov 11 2026. No macro, syntax, notation, axiom, sorry.
-/
import Derived.Test.YtbiokfgkiillkaaChecked
import GoSem.Claim
import GoSem.ClaimJoined
import GoSem.ClaimMapViews
import Derived.JoinedTies
import Derived.KernelRfl
namespace Go.Proofs.Ytbiokfgkiillkaa
/- THE CELL 'sum', in the pinned program and in every row, IS THE sha256 OF THE DUMP (.gsa) THAT YtbiokfgkiillkaaProg.lean LOADS. Nothing in Lean hashes anything: it is a label: what it is worth is what the hold of that sum in a sandbox is worth. -/
noncomputable def Try.pinned : Pinned := { name := "ytbiokfgkiillkaa", sum := "ac640a7e8c1b74d7924b52532b3fc4194d33ebd817d91cf55c4aea5d5ef5f7cb", checked := Try.checked }
namespace Rows
def none {H : Type} : Left H := { results := [], args := [] }

/-- 'laws.FnExactTurnTime': WHATEVER THE INPUT: true; the input reads as it did. -/
def fnExactTurnTimeSpec : ChangeSpec := { name := "fnExactTurnTime", fn := fun _ => fun
  | [d1, d2] => { results := [.lit (.bool true)], args := [d1, d2] }
  | _ => none }
def fnExactTurnTimeRow : OpenClaim := { program := "ytbiokfgkiillkaa", sum := "ac640a7e8c1b74d7924b52532b3fc4194d33ebd817d91cf55c4aea5d5ef5f7cb", func := "loop.example/g03309/laws.FnExactTurnTime", spec := "fnExactTurnTime", apart := false }
def FnExactTurnTimeSaid : Prop := fnExactTurnTimeRow.holds Try.pinned (OpenSpec.ofChange fnExactTurnTimeSpec)

/-- ITS FALSE NEIGHBOUR: 'it returns false'. Refute it at one input. -/
def fnExactTurnTimeWrong : ChangeSpec := { name := "fnExactTurnTime", fn := fun _ => fun
  | [d1, d2] => { results := [.lit (.bool false)], args := [d1, d2] }
  | _ => none }
def FnExactTurnTimeWrongFalsely : Prop := fnExactTurnTimeRow.holds Try.pinned (OpenSpec.ofChange fnExactTurnTimeWrong)

/-- 'laws.FnExactPlayTime': WHATEVER THE INPUT: true; the input reads as it did. -/
def fnExactPlayTimeSpec : ChangeSpec := { name := "fnExactPlayTime", fn := fun _ => fun
  | [d1, d2, d3] => { results := [.lit (.bool true)], args := [d1, d2, d3] }
  | _ => none }
def fnExactPlayTimeRow : OpenClaim := { program := "ytbiokfgkiillkaa", sum := "ac640a7e8c1b74d7924b52532b3fc4194d33ebd817d91cf55c4aea5d5ef5f7cb", func := "loop.example/g03309/laws.FnExactPlayTime", spec := "fnExactPlayTime", apart := false }
def FnExactPlayTimeSaid : Prop := fnExactPlayTimeRow.holds Try.pinned (OpenSpec.ofChange fnExactPlayTimeSpec)

/-- ITS FALSE NEIGHBOUR: 'it returns false'. Refute it at one input. -/
def fnExactPlayTimeWrong : ChangeSpec := { name := "fnExactPlayTime", fn := fun _ => fun
  | [d1, d2, d3] => { results := [.lit (.bool false)], args := [d1, d2, d3] }
  | _ => none }
def FnExactPlayTimeWrongFalsely : Prop := fnExactPlayTimeRow.holds Try.pinned (OpenSpec.ofChange fnExactPlayTimeWrong)

/-- 'laws.FnExactTurnsForTime': WHATEVER THE INPUT: true; the input reads as it did. -/
def fnExactTurnsForTimeSpec : ChangeSpec := { name := "fnExactTurnsForTime", fn := fun _ => fun
  | [d1, d2, d3] => { results := [.lit (.bool true)], args := [d1, d2, d3] }
  | _ => none }
def fnExactTurnsForTimeRow : OpenClaim := { program := "ytbiokfgkiillkaa", sum := "ac640a7e8c1b74d7924b52532b3fc4194d33ebd817d91cf55c4aea5d5ef5f7cb", func := "loop.example/g03309/laws.FnExactTurnsForTime", spec := "fnExactTurnsForTime", apart := false }
def FnExactTurnsForTimeSaid : Prop := fnExactTurnsForTimeRow.holds Try.pinned (OpenSpec.ofChange fnExactTurnsForTimeSpec)

/-- ITS FALSE NEIGHBOUR: 'it returns false'. Refute it at one input. -/
def fnExactTurnsForTimeWrong : ChangeSpec := { name := "fnExactTurnsForTime", fn := fun _ => fun
  | [d1, d2, d3] => { results := [.lit (.bool false)], args := [d1, d2, d3] }
  | _ => none }
def FnExactTurnsForTimeWrongFalsely : Prop := fnExactTurnsForTimeRow.holds Try.pinned (OpenSpec.ofChange fnExactTurnsForTimeWrong)

/-- 'laws.FnExactBeatsOf': WHATEVER THE INPUT: true; the input reads as it did. -/
def fnExactBeatsOfSpec : ChangeSpec := { name := "fnExactBeatsOf", fn := fun _ => fun
  | [d] => { results := [.lit (.bool true)], args := [d] }
  | _ => none }
def fnExactBeatsOfRow : OpenClaim := { program := "ytbiokfgkiillkaa", sum := "ac640a7e8c1b74d7924b52532b3fc4194d33ebd817d91cf55c4aea5d5ef5f7cb", func := "loop.example/g03309/laws.FnExactBeatsOf", spec := "fnExactBeatsOf", apart := false }
def FnExactBeatsOfSaid : Prop := fnExactBeatsOfRow.holds Try.pinned (OpenSpec.ofChange fnExactBeatsOfSpec)

/-- ITS FALSE NEIGHBOUR: 'it returns false'. Refute it at one input. -/
def fnExactBeatsOfWrong : ChangeSpec := { name := "fnExactBeatsOf", fn := fun _ => fun
  | [d] => { results := [.lit (.bool false)], args := [d] }
  | _ => none }
def FnExactBeatsOfWrongFalsely : Prop := fnExactBeatsOfRow.holds Try.pinned (OpenSpec.ofChange fnExactBeatsOfWrong)

/-- 'laws.FnExactShortened': WHATEVER THE INPUT: true; the input reads as it did. -/
def fnExactShortenedSpec : ChangeSpec := { name := "fnExactShortened", fn := fun _ => fun
  | [d] => { results := [.lit (.bool true)], args := [d] }
  | _ => none }
def fnExactShortenedRow : OpenClaim := { program := "ytbiokfgkiillkaa", sum := "ac640a7e8c1b74d7924b52532b3fc4194d33ebd817d91cf55c4aea5d5ef5f7cb", func := "loop.example/g03309/laws.FnExactShortened", spec := "fnExactShortened", apart := false }
def FnExactShortenedSaid : Prop := fnExactShortenedRow.holds Try.pinned (OpenSpec.ofChange fnExactShortenedSpec)

/-- ITS FALSE NEIGHBOUR: 'it returns false'. Refute it at one input. -/
def fnExactShortenedWrong : ChangeSpec := { name := "fnExactShortened", fn := fun _ => fun
  | [d] => { results := [.lit (.bool false)], args := [d] }
  | _ => none }
def FnExactShortenedWrongFalsely : Prop := fnExactShortenedRow.holds Try.pinned (OpenSpec.ofChange fnExactShortenedWrong)

/-- 'laws.FnExactFitsTurn': WHATEVER THE INPUT: true; the input reads as it did. -/
def fnExactFitsTurnSpec : ChangeSpec := { name := "fnExactFitsTurn", fn := fun _ => fun
  | [d1, d2] => { results := [.lit (.bool true)], args := [d1, d2] }
  | _ => none }
def fnExactFitsTurnRow : OpenClaim := { program := "ytbiokfgkiillkaa", sum := "ac640a7e8c1b74d7924b52532b3fc4194d33ebd817d91cf55c4aea5d5ef5f7cb", func := "loop.example/g03309/laws.FnExactFitsTurn", spec := "fnExactFitsTurn", apart := false }
def FnExactFitsTurnSaid : Prop := fnExactFitsTurnRow.holds Try.pinned (OpenSpec.ofChange fnExactFitsTurnSpec)

/-- ITS FALSE NEIGHBOUR: 'it returns false'. Refute it at one input. -/
def fnExactFitsTurnWrong : ChangeSpec := { name := "fnExactFitsTurn", fn := fun _ => fun
  | [d1, d2] => { results := [.lit (.bool false)], args := [d1, d2] }
  | _ => none }
def FnExactFitsTurnWrongFalsely : Prop := fnExactFitsTurnRow.holds Try.pinned (OpenSpec.ofChange fnExactFitsTurnWrong)

/-- 'laws.FnSpeeds': WHATEVER THE INPUT: true; the input reads as it did. -/
def fnSpeedsSpec : ChangeSpec := { name := "fnSpeeds", fn := fun _ => fun
  | [d] => { results := [.lit (.bool true)], args := [d] }
  | _ => none }
def fnSpeedsRow : OpenClaim := { program := "ytbiokfgkiillkaa", sum := "ac640a7e8c1b74d7924b52532b3fc4194d33ebd817d91cf55c4aea5d5ef5f7cb", func := "loop.example/g03309/laws.FnSpeeds", spec := "fnSpeeds", apart := false }
def FnSpeedsSaid : Prop := fnSpeedsRow.holds Try.pinned (OpenSpec.ofChange fnSpeedsSpec)

/-- ITS FALSE NEIGHBOUR: 'it returns false'. Refute it at one input. -/
def fnSpeedsWrong : ChangeSpec := { name := "fnSpeeds", fn := fun _ => fun
  | [d] => { results := [.lit (.bool false)], args := [d] }
  | _ => none }
def FnSpeedsWrongFalsely : Prop := fnSpeedsRow.holds Try.pinned (OpenSpec.ofChange fnSpeedsWrong)

/- THE SECOND FORM. 'bulk': how many values and letters a reading holds, each counted each time it is reached (what is shared counts as often as it is met; a slice's spare places count too). A statement '..UptoSaid' is the law's where the arguments, and the package variables that the reading takes, are together of bulk at most 1048576: NARROWER than '..Said'. Prove '..Said' where nothing that the law and all that it calls make is longer than what came in: it says more and counts as full. Else prove '..UptoSaid'. A law counts once. -/
mutual
def uptoBulk {H : Type} : DataW H → Nat
  | .lit (.string bytes) => bytes.length + 1
  | .lit _ => 1
  | .nil => 1
  | .ptr d => uptoBulk d + 1
  | .slice elems spare => uptoBulkAll elems + uptoBulkAll spare + 1
  | .agg parts => uptoBulkAll parts + 1
  | .iface _ d => uptoBulk d + 1
  | .map entries => uptoBulkEntries entries + 1
  | .held _ => 1
def uptoBulkAll {H : Type} : List (DataW H) → Nat
  | [] => 0
  | d :: r => uptoBulk d + uptoBulkAll r
def uptoBulkEntries {H : Type} : List (Lit × DataW H) → Nat
  | [] => 0
  | x :: r => uptoBulkEntry x + uptoBulkEntries r
def uptoBulkEntry {H : Type} : Lit × DataW H → Nat
  | (.string bytes, d) => bytes.length + uptoBulk d + 1
  | (_, d) => uptoBulk d + 1
 end
def uptoSmall : (H : Type) → List (DataW H) → Bool := fun _ ds => decide (uptoBulkAll ds ≤ 1048576)
def OpenSpec.upto (s : _root_.Go.ChangeSpec) : _root_.Go.OpenSpec := { _root_.Go.OpenSpec.ofChange s with cond := some uptoSmall }

/-- 'laws.FnExactTurnTime', WHERE WHAT IT READS IS OF BULK AT MOST 1048576: true; the input reads as it did. -/
def fnExactTurnTimeUptoRow : OpenClaim := { program := "ytbiokfgkiillkaa", sum := "ac640a7e8c1b74d7924b52532b3fc4194d33ebd817d91cf55c4aea5d5ef5f7cb", func := "loop.example/g03309/laws.FnExactTurnTime", spec := "fnExactTurnTime", apart := false, narrowed := true }
def FnExactTurnTimeUptoSaid : Prop := fnExactTurnTimeUptoRow.holds Try.pinned (OpenSpec.upto fnExactTurnTimeSpec)

/-- 'laws.FnExactPlayTime', WHERE WHAT IT READS IS OF BULK AT MOST 1048576: true; the input reads as it did. -/
def fnExactPlayTimeUptoRow : OpenClaim := { program := "ytbiokfgkiillkaa", sum := "ac640a7e8c1b74d7924b52532b3fc4194d33ebd817d91cf55c4aea5d5ef5f7cb", func := "loop.example/g03309/laws.FnExactPlayTime", spec := "fnExactPlayTime", apart := false, narrowed := true }
def FnExactPlayTimeUptoSaid : Prop := fnExactPlayTimeUptoRow.holds Try.pinned (OpenSpec.upto fnExactPlayTimeSpec)

/-- 'laws.FnExactTurnsForTime', WHERE WHAT IT READS IS OF BULK AT MOST 1048576: true; the input reads as it did. -/
def fnExactTurnsForTimeUptoRow : OpenClaim := { program := "ytbiokfgkiillkaa", sum := "ac640a7e8c1b74d7924b52532b3fc4194d33ebd817d91cf55c4aea5d5ef5f7cb", func := "loop.example/g03309/laws.FnExactTurnsForTime", spec := "fnExactTurnsForTime", apart := false, narrowed := true }
def FnExactTurnsForTimeUptoSaid : Prop := fnExactTurnsForTimeUptoRow.holds Try.pinned (OpenSpec.upto fnExactTurnsForTimeSpec)

/-- 'laws.FnExactBeatsOf', WHERE WHAT IT READS IS OF BULK AT MOST 1048576: true; the input reads as it did. -/
def fnExactBeatsOfUptoRow : OpenClaim := { program := "ytbiokfgkiillkaa", sum := "ac640a7e8c1b74d7924b52532b3fc4194d33ebd817d91cf55c4aea5d5ef5f7cb", func := "loop.example/g03309/laws.FnExactBeatsOf", spec := "fnExactBeatsOf", apart := false, narrowed := true }
def FnExactBeatsOfUptoSaid : Prop := fnExactBeatsOfUptoRow.holds Try.pinned (OpenSpec.upto fnExactBeatsOfSpec)

/-- 'laws.FnExactShortened', WHERE WHAT IT READS IS OF BULK AT MOST 1048576: true; the input reads as it did. -/
def fnExactShortenedUptoRow : OpenClaim := { program := "ytbiokfgkiillkaa", sum := "ac640a7e8c1b74d7924b52532b3fc4194d33ebd817d91cf55c4aea5d5ef5f7cb", func := "loop.example/g03309/laws.FnExactShortened", spec := "fnExactShortened", apart := false, narrowed := true }
def FnExactShortenedUptoSaid : Prop := fnExactShortenedUptoRow.holds Try.pinned (OpenSpec.upto fnExactShortenedSpec)

/-- 'laws.FnExactFitsTurn', WHERE WHAT IT READS IS OF BULK AT MOST 1048576: true; the input reads as it did. -/
def fnExactFitsTurnUptoRow : OpenClaim := { program := "ytbiokfgkiillkaa", sum := "ac640a7e8c1b74d7924b52532b3fc4194d33ebd817d91cf55c4aea5d5ef5f7cb", func := "loop.example/g03309/laws.FnExactFitsTurn", spec := "fnExactFitsTurn", apart := false, narrowed := true }
def FnExactFitsTurnUptoSaid : Prop := fnExactFitsTurnUptoRow.holds Try.pinned (OpenSpec.upto fnExactFitsTurnSpec)

/-- 'laws.FnSpeeds', WHERE WHAT IT READS IS OF BULK AT MOST 1048576: true; the input reads as it did. -/
def fnSpeedsUptoRow : OpenClaim := { program := "ytbiokfgkiillkaa", sum := "ac640a7e8c1b74d7924b52532b3fc4194d33ebd817d91cf55c4aea5d5ef5f7cb", func := "loop.example/g03309/laws.FnSpeeds", spec := "fnSpeeds", apart := false, narrowed := true }
def FnSpeedsUptoSaid : Prop := fnSpeedsUptoRow.holds Try.pinned (OpenSpec.upto fnSpeedsSpec)

end Rows
end Go.Proofs.Ytbiokfgkiillkaa
