/-
  No cell of these rows narrows 'for every input' (looked for: loops, veiled, ifaces, maps, wideKeys, modest, calm, conditions, laid).
  DERIVED. THE GIVEN ROWS OF THIS SEAT. 5 by the template 'for every input the law returns true; each argument reads behind the call as it read before'; 0 by the template 'total and deterministic' (their statements: YtjklobhnidbinaaTotals.lean).
  GIVEN WITH THE SEED: the statements are not yours to turn. If you find one false, say at which input.
  Laid BY PROGRAM, IN A SANDBOX (cutbox-rows.mjs): the forced cells as the released guide's own fill.sh prints them over the translation 0c3c5cb169d8e2b3… (all of the seat's roots in one cut). By AI agents, Wed Nov 11 2026. No macro, syntax, notation, axiom, sorry.
-/
import Derived.Test.YtjklobhnidbinaaChecked
import GoSem.Claim
import GoSem.ClaimJoined
import GoSem.ClaimMapViews
import Derived.JoinedTies
import Derived.KernelRfl
namespace Go.Proofs.Ytjklobhnidbinaa
/- THE CELL 'sum', in the pinned program and in every row, IS THE sha256 OF THE DUMP (.gsa) THAT YtjklobhnidbinaaProg.lean LOADS. Nothing in Lean hashes anything: it is a label: what it is worth is what the hold of that sum in a sandbox is worth. -/
noncomputable def Try.pinned : Pinned := { name := "ytjklobhnidbinaa", sum := "0c3c5cb169d8e2b38c0769d1ba14541f2721efdc0943337506b1cf7bfdc27597", checked := Try.checked }
namespace Rows
def none {H : Type} : Left H := { results := [], args := [] }

/-- 'laws.FnExactPartAt': WHATEVER THE INPUT: true; the input reads as it did. -/
def fnExactPartAtSpec : ChangeSpec := { name := "fnExactPartAt", fn := fun _ => fun
  | [d1, d2, d3] => { results := [.lit (.bool true)], args := [d1, d2, d3] }
  | _ => none }
def fnExactPartAtRow : OpenClaim := { program := "ytjklobhnidbinaa", sum := "0c3c5cb169d8e2b38c0769d1ba14541f2721efdc0943337506b1cf7bfdc27597", func := "loop.example/g03309/laws.FnExactPartAt", spec := "fnExactPartAt", apart := false }
def FnExactPartAtSaid : Prop := fnExactPartAtRow.holds Try.pinned (OpenSpec.ofChange fnExactPartAtSpec)

/-- ITS FALSE NEIGHBOUR: 'it returns false'. Refute it at one input. -/
def fnExactPartAtWrong : ChangeSpec := { name := "fnExactPartAt", fn := fun _ => fun
  | [d1, d2, d3] => { results := [.lit (.bool false)], args := [d1, d2, d3] }
  | _ => none }
def FnExactPartAtWrongFalsely : Prop := fnExactPartAtRow.holds Try.pinned (OpenSpec.ofChange fnExactPartAtWrong)

/-- 'laws.FnExactShiftedTracks': WHATEVER THE INPUT: true; the input reads as it did. -/
def fnExactShiftedTracksSpec : ChangeSpec := { name := "fnExactShiftedTracks", fn := fun _ => fun
  | [d1, d2, d3] => { results := [.lit (.bool true)], args := [d1, d2, d3] }
  | _ => none }
def fnExactShiftedTracksRow : OpenClaim := { program := "ytjklobhnidbinaa", sum := "0c3c5cb169d8e2b38c0769d1ba14541f2721efdc0943337506b1cf7bfdc27597", func := "loop.example/g03309/laws.FnExactShiftedTracks", spec := "fnExactShiftedTracks", apart := false }
def FnExactShiftedTracksSaid : Prop := fnExactShiftedTracksRow.holds Try.pinned (OpenSpec.ofChange fnExactShiftedTracksSpec)

/-- ITS FALSE NEIGHBOUR: 'it returns false'. Refute it at one input. -/
def fnExactShiftedTracksWrong : ChangeSpec := { name := "fnExactShiftedTracks", fn := fun _ => fun
  | [d1, d2, d3] => { results := [.lit (.bool false)], args := [d1, d2, d3] }
  | _ => none }
def FnExactShiftedTracksWrongFalsely : Prop := fnExactShiftedTracksRow.holds Try.pinned (OpenSpec.ofChange fnExactShiftedTracksWrong)

/-- 'laws.FnExactMerge': WHATEVER THE INPUT: true; the input reads as it did. -/
def fnExactMergeSpec : ChangeSpec := { name := "fnExactMerge", fn := fun _ => fun
  | [d1, d2] => { results := [.lit (.bool true)], args := [d1, d2] }
  | _ => none }
def fnExactMergeRow : OpenClaim := { program := "ytjklobhnidbinaa", sum := "0c3c5cb169d8e2b38c0769d1ba14541f2721efdc0943337506b1cf7bfdc27597", func := "loop.example/g03309/laws.FnExactMerge", spec := "fnExactMerge", unfollowed := true, recurses := true, apart := false }
def FnExactMergeSaid : Prop := fnExactMergeRow.holds Try.pinned (OpenSpec.ofChange fnExactMergeSpec)

/-- ITS FALSE NEIGHBOUR: 'it returns false'. Refute it at one input. -/
def fnExactMergeWrong : ChangeSpec := { name := "fnExactMerge", fn := fun _ => fun
  | [d1, d2] => { results := [.lit (.bool false)], args := [d1, d2] }
  | _ => none }
def FnExactMergeWrongFalsely : Prop := fnExactMergeRow.holds Try.pinned (OpenSpec.ofChange fnExactMergeWrong)

/-- 'laws.FnExactHoldsTunes': WHATEVER THE INPUT: true; the input reads as it did. -/
def fnExactHoldsTunesSpec : ChangeSpec := { name := "fnExactHoldsTunes", fn := fun _ => fun
  | [d1, d2] => { results := [.lit (.bool true)], args := [d1, d2] }
  | _ => none }
def fnExactHoldsTunesRow : OpenClaim := { program := "ytjklobhnidbinaa", sum := "0c3c5cb169d8e2b38c0769d1ba14541f2721efdc0943337506b1cf7bfdc27597", func := "loop.example/g03309/laws.FnExactHoldsTunes", spec := "fnExactHoldsTunes", unfollowed := true, recurses := true, apart := false }
def FnExactHoldsTunesSaid : Prop := fnExactHoldsTunesRow.holds Try.pinned (OpenSpec.ofChange fnExactHoldsTunesSpec)

/-- ITS FALSE NEIGHBOUR: 'it returns false'. Refute it at one input. -/
def fnExactHoldsTunesWrong : ChangeSpec := { name := "fnExactHoldsTunes", fn := fun _ => fun
  | [d1, d2] => { results := [.lit (.bool false)], args := [d1, d2] }
  | _ => none }
def FnExactHoldsTunesWrongFalsely : Prop := fnExactHoldsTunesRow.holds Try.pinned (OpenSpec.ofChange fnExactHoldsTunesWrong)

/-- 'laws.FnShifts': WHATEVER THE INPUT: true; the input reads as it did. -/
def fnShiftsSpec : ChangeSpec := { name := "fnShifts", fn := fun _ => fun
  | [d] => { results := [.lit (.bool true)], args := [d] }
  | _ => none }
def fnShiftsRow : OpenClaim := { program := "ytjklobhnidbinaa", sum := "0c3c5cb169d8e2b38c0769d1ba14541f2721efdc0943337506b1cf7bfdc27597", func := "loop.example/g03309/laws.FnShifts", spec := "fnShifts", unfollowed := true, recurses := true, apart := false }
def FnShiftsSaid : Prop := fnShiftsRow.holds Try.pinned (OpenSpec.ofChange fnShiftsSpec)

/-- ITS FALSE NEIGHBOUR: 'it returns false'. Refute it at one input. -/
def fnShiftsWrong : ChangeSpec := { name := "fnShifts", fn := fun _ => fun
  | [d] => { results := [.lit (.bool false)], args := [d] }
  | _ => none }
def FnShiftsWrongFalsely : Prop := fnShiftsRow.holds Try.pinned (OpenSpec.ofChange fnShiftsWrong)

/- THE SECOND FORM. 'bulk': how many values and letters a reading holds, each counted each time it is reached (what is shared counts as often as it is met; a slice's spare places count too). A statement '..UptoSaid' is the law's where the arguments, and the package variables that the reading takes, are together of bulk at most 1048576: NARROWER than '..Said'. Prove '..Said' where nothing that the law and all that it calls make is longer than what came in: it says more and counts as full. Else prove '..UptoSaid'. A law counts once. -/
mutual
def uptoBulk {H : Type} : DataW H → Nat
  | .lit (.string bytes) => bytes.length + 1
  | .lit _ => 1
  | .nil => 1
  | .ptr d => uptoBulk d + 1
  | .slice elems spare => uptoBulkAll elems + uptoBulkAll spare + 1
  | .agg parts => uptoBulkAll parts + 1
  | .iface _ d => uptoBulk d + 1
  | .map entries => uptoBulkEntries entries + 1
  | .held _ => 1
def uptoBulkAll {H : Type} : List (DataW H) → Nat
  | [] => 0
  | d :: r => uptoBulk d + uptoBulkAll r
def uptoBulkEntries {H : Type} : List (Lit × DataW H) → Nat
  | [] => 0
  | x :: r => uptoBulkEntry x + uptoBulkEntries r
def uptoBulkEntry {H : Type} : Lit × DataW H → Nat
  | (.string bytes, d) => bytes.length + uptoBulk d + 1
  | (_, d) => uptoBulk d + 1
 end
def uptoSmall : (H : Type) → List (DataW H) → Bool := fun _ ds => decide (uptoBulkAll ds ≤ 1048576)
def OpenSpec.upto (s : _root_.Go.ChangeSpec) : _root_.Go.OpenSpec := { _root_.Go.OpenSpec.ofChange s with cond := some uptoSmall }

/-- 'laws.FnExactPartAt', WHERE WHAT IT READS IS OF BULK AT MOST 1048576: true; the input reads as it did. -/
def fnExactPartAtUptoRow : OpenClaim := { program := "ytjklobhnidbinaa", sum := "0c3c5cb169d8e2b38c0769d1ba14541f2721efdc0943337506b1cf7bfdc27597", func := "loop.example/g03309/laws.FnExactPartAt", spec := "fnExactPartAt", apart := false, narrowed := true }
def FnExactPartAtUptoSaid : Prop := fnExactPartAtUptoRow.holds Try.pinned (OpenSpec.upto fnExactPartAtSpec)

/-- 'laws.FnExactShiftedTracks', WHERE WHAT IT READS IS OF BULK AT MOST 1048576: true; the input reads as it did. -/
def fnExactShiftedTracksUptoRow : OpenClaim := { program := "ytjklobhnidbinaa", sum := "0c3c5cb169d8e2b38c0769d1ba14541f2721efdc0943337506b1cf7bfdc27597", func := "loop.example/g03309/laws.FnExactShiftedTracks", spec := "fnExactShiftedTracks", apart := false, narrowed := true }
def FnExactShiftedTracksUptoSaid : Prop := fnExactShiftedTracksUptoRow.holds Try.pinned (OpenSpec.upto fnExactShiftedTracksSpec)

/-- 'laws.FnExactMerge', WHERE WHAT IT READS IS OF BULK AT MOST 1048576: true; the input reads as it did. -/
def fnExactMergeUptoRow : OpenClaim := { program := "ytjklobhnidbinaa", sum := "0c3c5cb169d8e2b38c0769d1ba14541f2721efdc0943337506b1cf7bfdc27597", func := "loop.example/g03309/laws.FnExactMerge", spec := "fnExactMerge", unfollowed := true, recurses := true, apart := false, narrowed := true }
def FnExactMergeUptoSaid : Prop := fnExactMergeUptoRow.holds Try.pinned (OpenSpec.upto fnExactMergeSpec)

/-- 'laws.FnExactHoldsTunes', WHERE WHAT IT READS IS OF BULK AT MOST 1048576: true; the input reads as it did. -/
def fnExactHoldsTunesUptoRow : OpenClaim := { program := "ytjklobhnidbinaa", sum := "0c3c5cb169d8e2b38c0769d1ba14541f2721efdc0943337506b1cf7bfdc27597", func := "loop.example/g03309/laws.FnExactHoldsTunes", spec := "fnExactHoldsTunes", unfollowed := true, recurses := true, apart := false, narrowed := true }
def FnExactHoldsTunesUptoSaid : Prop := fnExactHoldsTunesUptoRow.holds Try.pinned (OpenSpec.upto fnExactHoldsTunesSpec)

/-- 'laws.FnShifts', WHERE WHAT IT READS IS OF BULK AT MOST 1048576: true; the input reads as it did. -/
def fnShiftsUptoRow : OpenClaim := { program := "ytjklobhnidbinaa", sum := "0c3c5cb169d8e2b38c0769d1ba14541f2721efdc0943337506b1cf7bfdc27597", func := "loop.example/g03309/laws.FnShifts", spec := "fnShifts", unfollowed := true, recurses := true, apart := false, narrowed := true }
def FnShiftsUptoSaid : Prop := fnShiftsUptoRow.holds Try.pinned (OpenSpec.upto fnShiftsSpec)

end Rows
end Go.Proofs.Ytjklobhnidbinaa
