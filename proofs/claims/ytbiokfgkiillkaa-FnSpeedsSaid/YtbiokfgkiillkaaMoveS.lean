/-
  The reference's Slower and Later of a valid tune whose moved notes are a valid tune too.
-/
import Derived.Test.YtbiokfgkiillkaaMove
namespace Go.Proofs.Ytbiokfgkiillkaa
open Go.RowKit

theorem sSlower_yes (A : Option Addr) (n cp : Nat) (xs : List (Int × Int)) (m : Int) (w : World) (h : Rd w w.heap.size 2 A n (pc xs)) (ht : tuneB xs = true) (ht2 : tuneB (moveL xs m 0 0) = true) (hm : 1 ≤ m ∧ m ≤ 100) :
    Calls Try.prog 30 #[.slice A n cp, .int .i64 m] w (MadeT w (moveL xs m 0 0)) := by
  have hin : inB m (1) 100 = true := inB_true hm
  have H := Lib.hid (l03Move_yes A n cp xs m 0 0 w h ht ht2 (by omega) (by omega))
  have HI := Lib.hid (fun w => ((l01In_any m (1) 100 w).mono fun e w' (h : _ ∧ _) => (⟨by rw [h.1, hin], h.2⟩ : e = .returned (.bool true) ∧ w = w')))
  clear h ht ht2 hin
  go_enter Try.func30, Try.ntmps30
  go_wp2_with (go_at_call 33; refine (HI.out _).mono ?_; rintro e w' ⟨rfl, rfl⟩)
  go_wp2_with (go_at_call 44; refine (H.out).mono ?_; rintro e w1 ⟨A1, c1, rfl, ho, hb⟩)
  have HO := Lib.hid ho
  clear ho
  go_ret2
  exact ⟨A1, c1, rfl, HO.out, hb⟩

theorem sLater_yes (A : Option Addr) (n cp : Nat) (xs : List (Int × Int)) (m : Int) (w : World) (h : Rd w w.heap.size 2 A n (pc xs)) (ht : tuneB xs = true) (ht2 : tuneB (moveL xs 1 m 0) = true) (hm : -1000 ≤ m ∧ m ≤ 1000) :
    Calls Try.prog 31 #[.slice A n cp, .int .i64 m] w (MadeT w (moveL xs 1 m 0)) := by
  have hin : inB m (-1000) 1000 = true := inB_true hm
  have H := Lib.hid (l03Move_yes A n cp xs 1 m 0 w h ht ht2 (by omega) (by omega))
  have HI := Lib.hid (fun w => ((l01In_any m (-1000) 1000 w).mono fun e w' (h : _ ∧ _) => (⟨by rw [h.1, hin], h.2⟩ : e = .returned (.bool true) ∧ w = w')))
  clear h ht ht2 hin
  go_enter Try.func31, Try.ntmps31
  go_wp2_with (go_at_call 33; refine (HI.out _).mono ?_; rintro e w' ⟨rfl, rfl⟩)
  go_wp2_with (go_at_call 44; refine (H.out).mono ?_; rintro e w1 ⟨A1, c1, rfl, ho, hb⟩)
  have HO := Lib.hid ho
  clear ho
  go_ret2
  exact ⟨A1, c1, rfl, HO.out, hb⟩

end Go.Proofs.Ytbiokfgkiillkaa
