/-
  What ShiftedTracks gives of a cylinder and a shift within their bounds. No program in sight.
-/
import Derived.Test.YtjklobhnidbinaaShiftMath
namespace Go.Proofs.Ytjklobhnidbinaa

def endC (s : Int) (l : List (Int × Int)) : CyO := if cylB s 100 l = true then some (s, 100, l) else none
theorem shiftC_yes {s t : Int} {xs : List (Int × Int)} {d k : Int} (h : shiftB s t xs d k = true) : shiftC s t xs d k = endC s (shiftL d k xs) := by
  unfold shiftC endC
  by_cases hc : cylB s 100 (shiftL d k xs) = true
  · rw [if_pos ⟨h, hc⟩, if_pos hc]
  · rw [if_neg (fun q => hc q.2), if_neg hc]
theorem endC_yes {s : Int} {l : List (Int × Int)} (h : true = cylB s 100 l) : endC s l = some (s, 100, l) := by unfold endC; rw [if_pos h.symm]
theorem endC_no {s : Int} {l : List (Int × Int)} (h : false = cylB s 100 l) : endC s l = none := by unfold endC; rw [if_neg (by rw [← h]; simp)]

end Go.Proofs.Ytjklobhnidbinaa
