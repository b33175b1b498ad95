/-
  PartAt of impl and of spec, for all arguments.
-/
import Derived.Test.YtjklobhnidbinaaPartI
import Derived.Test.YtjklobhnidbinaaPartS
namespace Go.Proofs.Ytjklobhnidbinaa
open Go.RowKit

theorem iPartAt_all (s t : Int) (A : Option Addr) (n c : Nat) (xs : List (Int × Int)) (d k : Int) (w : World) (h : Rd w w.heap.size 2 A n (pc xs)) (hn : n ≤ 1048576) :
    Calls Try.prog 11 #[.agg #[.int .i64 s, .int .i64 t, .slice A n c], .int .i64 d, .int .i64 k] w (MadeCO w (partC s t xs d k)) := by
  unfold partC
  cases hb : shiftB s t xs d k
  · exact iPartAt_no s t A n c xs d k w h hn hb
  · exact iPartAt_yes s t A n c xs d k w h hn hb

theorem sPartAt_all (s t : Int) (A : Option Addr) (n c : Nat) (xs : List (Int × Int)) (d k : Int) (w : World) (h : Rd w w.heap.size 2 A n (pc xs)) (hn : n ≤ 1048576) :
    Calls Try.prog 9 #[.agg #[.int .i64 s, .int .i64 t, .slice A n c], .int .i64 d, .int .i64 k] w (MadeCO w (partC s t xs d k)) := by
  unfold partC
  cases hb : shiftB s t xs d k
  · exact sPartAt_no s t A n c xs d k w h hn hb
  · exact sPartAt_yes s t A n c xs d k w h hn hb

end Go.Proofs.Ytjklobhnidbinaa
