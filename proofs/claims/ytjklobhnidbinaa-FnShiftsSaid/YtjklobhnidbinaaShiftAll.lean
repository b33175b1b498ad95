/-
  ShiftedTracks of impl and of spec, for all arguments.
-/
import Derived.Test.YtjklobhnidbinaaShiftI
import Derived.Test.YtjklobhnidbinaaShiftS
namespace Go.Proofs.Ytjklobhnidbinaa
open Go.RowKit

theorem iShiftedTracks_all (s t : Int) (A : Option Addr) (n c : Nat) (xs : List (Int × Int)) (d k : Int) (w : World) (h : Rd w w.heap.size 2 A n (pc xs)) (hn : n ≤ 1048576) :
    Calls Try.prog 16 #[.agg #[.int .i64 s, .int .i64 t, .slice A n c], .int .i64 d, .int .i64 k] w (MadeCO w (shiftC s t xs d k)) := by
  cases hb : shiftB s t xs d k
  · rw [show shiftC s t xs d k = none by simp [shiftC, hb]]
    exact iShiftedTracks_no s t A n c xs d k w h hn hb
  · rw [shiftC_yes hb]
    exact iShiftedTracks_yes s t A n c xs d k w h hn hb

theorem sShiftedTracks_all (s t : Int) (A : Option Addr) (n c : Nat) (xs : List (Int × Int)) (d k : Int) (w : World) (h : Rd w w.heap.size 2 A n (pc xs)) (hn : n ≤ 1048576) :
    Calls Try.prog 15 #[.agg #[.int .i64 s, .int .i64 t, .slice A n c], .int .i64 d, .int .i64 k] w (MadeCO w (shiftC s t xs d k)) := by
  cases hb : shiftB s t xs d k
  · rw [show shiftC s t xs d k = none by simp [shiftC, hb]]
    exact sShiftedTracks_no s t A n c xs d k w h hn hb
  · rw [shiftC_yes hb]
    exact sShiftedTracks_yes s t A n c xs d k w h hn hb

end Go.Proofs.Ytjklobhnidbinaa
