/-
  StepsOf and IsSweet of impl and of spec: what they return for all numbers, and the laws on them. They leave the world alone.
-/
import Derived.Test.YteidigbjllicpaaMag
namespace Go.Proofs.Yteidigbjllicpaa
open Go.RowKit

def StepsZ (a b : Int) : Int := if inB a 0 60 = true ∧ inB b 0 60 = true then min (absZ (a - b) % 12) (12 - absZ (a - b) % 12) else -1
def sweetB (a b : Int) : Bool := decide (StepsZ a b = 0 ∨ (3 ≤ StepsZ a b ∧ StepsZ a b ≤ 5))
theorem steps_comm (a b : Int) : StepsZ a b = StepsZ b a := by
  unfold StepsZ
  rw [show absZ (a - b) = absZ (b - a) by unfold absZ; omega]
  by_cases h1 : inB a 0 60 = true <;> by_cases h2 : inB b 0 60 = true <;> simp [h1, h2]
theorem sweet_comm (a b : Int) : sweetB a b = sweetB b a := by unfold sweetB; rw [steps_comm]
theorem steps_bd (a b : Int) : -1 ≤ StepsZ a b ∧ StepsZ a b ≤ 6 := by
  unfold StepsZ
  split
  · unfold absZ; omega
  · omega

theorem iStepsOf (a b : Int) (w : World) :
    Calls Try.prog 11 #[.int .i64 a, .int .i64 b] w fun e w' => e = .returned (.int .i64 (StepsZ a b)) ∧ w = w' := by
  cases h1 : inB a 0 60
  · have e : StepsZ a b = -1 := by simp [StepsZ, h1]
    rw [e]
    go_enter Try.func11, Try.ntmps11
    go_wp2_with (go_at_call 36; refine (within_any _ _ _ _).mono ?_; rintro e w' ⟨rfl, rfl⟩)
    go_ret
    exact ⟨rfl, rfl⟩
  cases h2 : inB b 0 60
  · have e : StepsZ a b = -1 := by simp [StepsZ, h2]
    rw [e]
    go_enter Try.func11, Try.ntmps11
    go_wp2_with (go_at_call 36; refine (within_any _ _ _ _).mono ?_; rintro e w' ⟨rfl, rfl⟩)
    go_ret
    exact ⟨rfl, rfl⟩
  have b1 := inB_iff.1 h1
  have b2 := inB_iff.1 h2
  have e : StepsZ a b = min (absZ (a - b) % 12) (12 - absZ (a - b) % 12) := by simp [StepsZ, h1, h2]
  rw [e]
  have HM := Lib.hid (fun w => magnitude_any (a - b) w (by omega) (by omega))
  obtain ⟨y, hy⟩ : ∃ y, y = absZ (a - b) := ⟨_, rfl⟩
  rw [← hy] at HM ⊢
  have hy2 : y = max (a - b) (b - a) := by rw [hy]; unfold absZ; omega
  have y0 : 0 ≤ y := by omega
  have y1 : y ≤ 60 := by omega
  clear e hy
  by_cases hab : a < b
  all_goals
    by_cases hm : y % 12 < 12 - y % 12
    all_goals
      have hv : y % 12 = y % 12 := rfl
      have HY := Lib.hid hy2
      clear hy2 hv
      go_enter Try.func11, Try.ntmps11
      go_wp2_with (first | (go_at_call 36; refine (within_any _ _ _ _).mono ?_; rintro e w' ⟨rfl, rfl⟩) | (go_at_call 37; refine (HM.out _).mono ?_; rintro e w' ⟨rfl, rfl⟩))
      all_goals
        go_ret
        exact ⟨ret_int (by have := HY.out; omega), rfl⟩

theorem iIsSweet (a b : Int) (w : World) :
    Calls Try.prog 13 #[.int .i64 a, .int .i64 b] w fun e w' => e = .returned (.bool (sweetB a b)) ∧ w = w' := by
  have hb := steps_bd a b
  unfold sweetB
  obtain ⟨y, hy⟩ : ∃ y, y = StepsZ a b := ⟨_, rfl⟩
  rw [← hy] at hb ⊢
  have HY := Lib.hid hy
  clear hy
  by_cases h0 : y = 0
  · rw [show decide (y = 0 ∨ (3 ≤ y ∧ y ≤ 5)) = true by simp [h0]]
    have h0a : y ≤ 0 := by omega
    have h0b : 0 ≤ y := by omega
    have q : inB y 3 5 = false := inB_false (by omega)
    clear h0
    go_enter Try.func13, Try.ntmps13
    go_wp2_with (first | (go_at_call 11; refine (iStepsOf _ _ _).mono ?_; rintro e w' ⟨rfl, rfl⟩; rw [← HY.out]) | (go_at_call 35; refine (l01In_any _ _ _ _).mono ?_; rintro e w' ⟨rfl, rfl⟩))
    go_ret
    exact ⟨rfl, rfl⟩
  by_cases h3 : 3 ≤ y
  case neg =>
    rw [show decide (y = 0 ∨ (3 ≤ y ∧ y ≤ 5)) = false by simp [h0, h3]]
    have q : inB y 3 5 = false := inB_false (by omega)
    have h0c : (y == 0) = false := by simp [h0]
    go_enter Try.func13, Try.ntmps13
    go_wp2_with (first | (go_at_call 11; refine (iStepsOf _ _ _).mono ?_; rintro e w' ⟨rfl, rfl⟩; rw [← HY.out]) | (go_at_call 35; refine (l01In_any _ _ _ _).mono ?_; rintro e w' ⟨rfl, rfl⟩))
    go_ret
    exact ⟨rfl, rfl⟩
  by_cases h5 : y ≤ 5
  · rw [show decide (y = 0 ∨ (3 ≤ y ∧ y ≤ 5)) = true by simp [h3, h5]]
    have q : inB y 3 5 = true := inB_true ⟨h3, h5⟩
    have h0c : (y == 0) = false := by simp [h0]
    go_enter Try.func13, Try.ntmps13
    go_wp2_with (first | (go_at_call 11; refine (iStepsOf _ _ _).mono ?_; rintro e w' ⟨rfl, rfl⟩; rw [← HY.out]) | (go_at_call 35; refine (l01In_any _ _ _ _).mono ?_; rintro e w' ⟨rfl, rfl⟩))
    go_ret
    exact ⟨rfl, rfl⟩
  · rw [show decide (y = 0 ∨ (3 ≤ y ∧ y ≤ 5)) = false by simp [h0, h5]]
    have q : inB y 3 5 = false := inB_false (by omega)
    have h0c : (y == 0) = false := by simp [h0]
    go_enter Try.func13, Try.ntmps13
    go_wp2_with (first | (go_at_call 11; refine (iStepsOf _ _ _).mono ?_; rintro e w' ⟨rfl, rfl⟩; rw [← HY.out]) | (go_at_call 35; refine (l01In_any _ _ _ _).mono ?_; rintro e w' ⟨rfl, rfl⟩))
    go_ret
    exact ⟨by first | rfl | (simp; omega), rfl⟩
theorem sStepsOf (a b : Int) (w : World) :
    Calls Try.prog 10 #[.int .i64 a, .int .i64 b] w fun e w' => e = .returned (.int .i64 (StepsZ a b)) ∧ w = w' := by
  cases h1 : inB a 0 60
  · have e : StepsZ a b = -1 := by simp [StepsZ, h1]
    rw [e]
    go_enter Try.func10, Try.ntmps10
    go_wp2_with (go_at_call 35; refine (l01In_any _ _ _ _).mono ?_; rintro e w' ⟨rfl, rfl⟩)
    go_ret
    exact ⟨rfl, rfl⟩
  cases h2 : inB b 0 60
  · have e : StepsZ a b = -1 := by simp [StepsZ, h2]
    rw [e]
    go_enter Try.func10, Try.ntmps10
    go_wp2_with (go_at_call 35; refine (l01In_any _ _ _ _).mono ?_; rintro e w' ⟨rfl, rfl⟩)
    go_ret
    exact ⟨rfl, rfl⟩
  have b1 := inB_iff.1 h1
  have b2 := inB_iff.1 h2
  have e : StepsZ a b = min (absZ (a - b) % 12) (12 - absZ (a - b) % 12) := by simp [StepsZ, h1, h2]
  rw [e]
  have HM := Lib.hid (fun w => magnitude_any (a - b) w (by omega) (by omega))
  obtain ⟨y, hy⟩ : ∃ y, y = absZ (a - b) := ⟨_, rfl⟩
  rw [← hy] at HM ⊢
  have hy2 : y = max (a - b) (b - a) := by rw [hy]; unfold absZ; omega
  have y0 : 0 ≤ y := by omega
  have y1 : y ≤ 60 := by omega
  clear e hy
  by_cases hab : a < b
  all_goals
    by_cases hm : y % 12 < 12 - y % 12
    all_goals
      have hv : y % 12 = y % 12 := rfl
      have HY := Lib.hid hy2
      clear hy2 hv
      go_enter Try.func10, Try.ntmps10
      go_wp2_with (go_at_call 35; refine (l01In_any _ _ _ _).mono ?_; rintro e w' ⟨rfl, rfl⟩)
      all_goals
        go_ret
        exact ⟨ret_int (by have := HY.out; omega), rfl⟩

theorem sIsSweet (a b : Int) (w : World) :
    Calls Try.prog 12 #[.int .i64 a, .int .i64 b] w fun e w' => e = .returned (.bool (sweetB a b)) ∧ w = w' := by
  have hb := steps_bd a b
  unfold sweetB
  obtain ⟨y, hy⟩ : ∃ y, y = StepsZ a b := ⟨_, rfl⟩
  rw [← hy] at hb ⊢
  have HY := Lib.hid hy
  clear hy
  by_cases h0 : y = 0
  · rw [show decide (y = 0 ∨ (3 ≤ y ∧ y ≤ 5)) = true by simp [h0]]
    have h0a : y ≤ 0 := by omega
    have h0b : 0 ≤ y := by omega
    have q : inB y 3 5 = false := inB_false (by omega)
    clear h0
    go_enter Try.func12, Try.ntmps12
    go_wp2_with (first | (go_at_call 10; refine (sStepsOf _ _ _).mono ?_; rintro e w' ⟨rfl, rfl⟩; rw [← HY.out]) | (go_at_call 35; refine (l01In_any _ _ _ _).mono ?_; rintro e w' ⟨rfl, rfl⟩))
    go_ret
    exact ⟨rfl, rfl⟩
  by_cases h3 : 3 ≤ y
  case neg =>
    rw [show decide (y = 0 ∨ (3 ≤ y ∧ y ≤ 5)) = false by simp [h0, h3]]
    have q : inB y 3 5 = false := inB_false (by omega)
    have h0c : (y == 0) = false := by simp [h0]
    go_enter Try.func12, Try.ntmps12
    go_wp2_with (first | (go_at_call 10; refine (sStepsOf _ _ _).mono ?_; rintro e w' ⟨rfl, rfl⟩; rw [← HY.out]) | (go_at_call 35; refine (l01In_any _ _ _ _).mono ?_; rintro e w' ⟨rfl, rfl⟩))
    go_ret
    exact ⟨rfl, rfl⟩
  by_cases h5 : y ≤ 5
  · rw [show decide (y = 0 ∨ (3 ≤ y ∧ y ≤ 5)) = true by simp [h3, h5]]
    have q : inB y 3 5 = true := inB_true ⟨h3, h5⟩
    have h0c : (y == 0) = false := by simp [h0]
    go_enter Try.func12, Try.ntmps12
    go_wp2_with (first | (go_at_call 10; refine (sStepsOf _ _ _).mono ?_; rintro e w' ⟨rfl, rfl⟩; rw [← HY.out]) | (go_at_call 35; refine (l01In_any _ _ _ _).mono ?_; rintro e w' ⟨rfl, rfl⟩))
    go_ret
    exact ⟨rfl, rfl⟩
  · rw [show decide (y = 0 ∨ (3 ≤ y ∧ y ≤ 5)) = false by simp [h0, h5]]
    have q : inB y 3 5 = false := inB_false (by omega)
    have h0c : (y == 0) = false := by simp [h0]
    go_enter Try.func12, Try.ntmps12
    go_wp2_with (first | (go_at_call 10; refine (sStepsOf _ _ _).mono ?_; rintro e w' ⟨rfl, rfl⟩; rw [← HY.out]) | (go_at_call 35; refine (l01In_any _ _ _ _).mono ?_; rintro e w' ⟨rfl, rfl⟩))
    go_ret
    exact ⟨by first | rfl | (simp; omega), rfl⟩

theorem fnExactStepsOf_walk (a : Int) (_ha : I64 a) (b : Int) (_hb : I64 b) (w : World) :
    Calls Try.prog 3 #[.int .i64 a, .int .i64 b] w fun e w' => e = .returned (.bool true) ∧ Below w.heap.size w w' := by
  go_enter Try.func3, Try.ntmps3
  go_wp2_with (first | (go_at_call 10; refine (sStepsOf _ _ _).mono ?_; rintro e w' ⟨rfl, rfl⟩) | (go_at_call 11; refine (iStepsOf _ _ _).mono ?_; rintro e w' ⟨rfl, rfl⟩))
  go_ret
  exact ⟨rfl, Below.refl _ _⟩
theorem fnExactIsSweet_walk (a : Int) (_ha : I64 a) (b : Int) (_hb : I64 b) (w : World) :
    Calls Try.prog 4 #[.int .i64 a, .int .i64 b] w fun e w' => e = .returned (.bool true) ∧ Below w.heap.size w w' := by
  go_enter Try.func4, Try.ntmps4
  go_wp2_with (first | (go_at_call 12; refine (sIsSweet _ _ _).mono ?_; rintro e w' ⟨rfl, rfl⟩) | (go_at_call 13; refine (iIsSweet _ _ _).mono ?_; rintro e w' ⟨rfl, rfl⟩))
  go_ret
  exact ⟨rfl, Below.refl _ _⟩
end Go.Proofs.Yteidigbjllicpaa
