/-
  The reference's Higher of a valid tune whose moved notes are a valid tune too.
-/
import Derived.Test.YteidigbjllicpaaMove
namespace Go.Proofs.Yteidigbjllicpaa
open Go.RowKit

theorem sHigher_yes (A : Option Addr) (n cp : Nat) (xs : List (Int × Int)) (m : Int) (w : World) (h : Rd w w.heap.size 2 A n (pc xs)) (ht : tuneB xs = true) (ht2 : tuneB (moveL xs 1 0 m) = true) (hm : -60 ≤ m ∧ m ≤ 60) :
    Calls Try.prog 33 #[.slice A n cp, .int .i64 m] w (MadeT w (moveL xs 1 0 m)) := by
  have hin : inB m (-60) 60 = true := inB_true hm
  have H := Lib.hid (l03Move_yes A n cp xs 1 0 m w h ht ht2 (by omega) (by omega))
  have HI := Lib.hid (fun w => ((l01In_any m (-60) 60 w).mono fun e w' (h : _ ∧ _) => (⟨by rw [h.1, hin], h.2⟩ : e = .returned (.bool true) ∧ w = w')))
  clear h ht ht2 hin
  go_enter Try.func33, Try.ntmps33
  go_wp2_with (go_at_call 35; refine (HI.out _).mono ?_; rintro e w' ⟨rfl, rfl⟩)
  go_wp2_with (go_at_call 49; refine (H.out).mono ?_; rintro e w1 ⟨A1, c1, rfl, ho, hb⟩)
  have HO := Lib.hid ho
  clear ho
  go_ret2
  exact ⟨A1, c1, rfl, HO.out, hb⟩

end Go.Proofs.Yteidigbjllicpaa
