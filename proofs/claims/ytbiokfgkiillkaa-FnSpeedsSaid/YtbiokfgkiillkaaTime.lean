/-
  Turning times: what TurnTime, PlayTime and TurnsForTime of impl and of spec return, for all arguments, and the laws on them. They leave the world alone.
-/
import Derived.Test.YtbiokfgkiillkaaWithin
namespace Go.Proofs.Ytbiokfgkiillkaa
open Go.RowKit

def timeB (a b : Int) : Bool := inB a 1 96 && inB b 1 1000
def TimeZ (a b : Int) : Int := if timeB a b = true then a * b else -1
def PlayZ (a b n : Int) : Int := if timeB a b = true ∧ inB n 0 1000 = true then a * b * n / 1000 else -1
/-- the fewest turns, reckoned -/
def ceilQ (N s : Int) : Int := (1000 * s + N - 1) / N
def TurnsForZ (a b s : Int) : Int := if timeB a b = true ∧ inB s 0 3600 = true then (if 1000 < ceilQ (a * b) s then -1 else ceilQ (a * b) s) else -1
theorem time_bd {a b : Int} (h : timeB a b = true) : 1 ≤ a * b ∧ a * b ≤ 96000 := by
  simp [timeB, inB] at h
  have h1 : 1 * 1 ≤ a * b := Int.mul_le_mul (by omega) (by omega) (by omega) (by omega)
  have h2 : a * b ≤ 96 * 1000 := Int.mul_le_mul (by omega) (by omega) (by omega) (by omega)
  omega
theorem ceil_bd {N s : Int} (hN : 1 ≤ N) (hs : 0 ≤ s) : 0 ≤ ceilQ N s ∧ 1000 * s ≤ N * ceilQ N s ∧ N * (ceilQ N s - 1) < 1000 * s := by
  unfold ceilQ
  have e := Int.mul_ediv_add_emod (1000 * s + N - 1) N
  have m0 := Int.emod_nonneg (1000 * s + N - 1) (show N ≠ 0 by omega)
  have m1 := Int.emod_lt_of_pos (1000 * s + N - 1) (show 0 < N by omega)
  have q0 : 0 ≤ (1000 * s + N - 1) / N := Int.ediv_nonneg (by omega) (by omega)
  have d : N * ((1000 * s + N - 1) / N - 1) = N * ((1000 * s + N - 1) / N) - N := by rw [Int.mul_sub, Int.mul_one]
  omega
theorem play_lt {N s k q : Int} (hN : 1 ≤ N) (hq : N * (q - 1) < 1000 * s) (hk : k < q) : N * k / 1000 < s := by
  have : N * k ≤ N * (q - 1) := Int.mul_le_mul_of_nonneg_left (by omega) (by omega)
  omega

theorem iTurnTime (a b : Int) (w : World) :
    Calls Try.prog 11 #[.int .i64 a, .int .i64 b] w fun e w' => e = .returned (.int .i64 (TimeZ a b)) ∧ w = w' := by
  cases h1 : inB a 1 96
  · have e : TimeZ a b = -1 := by simp [TimeZ, timeB, h1]
    rw [e]
    go_enter Try.func11, Try.ntmps11
    go_wp2_with (go_at_call 34; refine (within_any _ _ _ _).mono ?_; rintro e w' ⟨rfl, rfl⟩)
    go_ret
    exact ⟨rfl, rfl⟩
  cases h2 : inB b 1 1000
  · have e : TimeZ a b = -1 := by simp [TimeZ, timeB, h2]
    rw [e]
    go_enter Try.func11, Try.ntmps11
    go_wp2_with (go_at_call 34; refine (within_any _ _ _ _).mono ?_; rintro e w' ⟨rfl, rfl⟩)
    go_ret
    exact ⟨rfl, rfl⟩
  have ht : timeB a b = true := by simp [timeB, h1, h2]
  have e : TimeZ a b = a * b := by simp [TimeZ, ht]
  have hb := time_bd ht
  rw [e]
  clear e ht
  go_enter Try.func11, Try.ntmps11
  go_wp2_with (go_at_call 34; refine (within_any _ _ _ _).mono ?_; rintro e w' ⟨rfl, rfl⟩)
  go_ret
  exact ⟨rfl, rfl⟩

theorem iPlayTime (a b n : Int) (w : World) :
    Calls Try.prog 13 #[.int .i64 a, .int .i64 b, .int .i64 n] w fun e w' => e = .returned (.int .i64 (PlayZ a b n)) ∧ w = w' := by
  cases ht : timeB a b
  · have e : PlayZ a b n = -1 := by simp [PlayZ, ht]
    have hz : TimeZ a b = -1 := by simp [TimeZ, ht]
    have HZ := Lib.hid hz
    rw [e]
    clear hz
    go_enter Try.func13, Try.ntmps13
    go_wp2_with (first | (go_at_call 11; refine (iTurnTime _ _ _).mono ?_; rintro e w' ⟨rfl, rfl⟩; rw [HZ.out]) | (go_at_call 34; refine (within_any _ _ _ _).mono ?_; rintro e w' ⟨rfl, rfl⟩))
    go_ret
    exact ⟨rfl, rfl⟩
  have hz : TimeZ a b = a * b := by simp [TimeZ, ht]
  have hb := time_bd ht
  have HZ := Lib.hid hz
  clear hz
  cases h2 : inB n 0 1000
  · have e : PlayZ a b n = -1 := by simp [PlayZ, h2]
    rw [e]
    clear ht
    go_enter Try.func13, Try.ntmps13
    go_wp2_with (first | (go_at_call 11; refine (iTurnTime _ _ _).mono ?_; rintro e w' ⟨rfl, rfl⟩; rw [HZ.out]) | (go_at_call 34; refine (within_any _ _ _ _).mono ?_; rintro e w' ⟨rfl, rfl⟩))
    go_ret
    exact ⟨rfl, rfl⟩
  have e : PlayZ a b n = a * b * n / 1000 := by simp [PlayZ, ht, h2]
  rw [e]
  have hn := inB_iff.1 h2
  have m1 : 0 ≤ a * b * n := Int.mul_nonneg (by omega) (by omega)
  have m2 : a * b * n ≤ 96000 * 1000 := Int.mul_le_mul (by omega) (by omega) (by omega) (by omega)
  clear ht e
  go_enter Try.func13, Try.ntmps13
  go_wp2_with (first | (go_at_call 11; refine (iTurnTime _ _ _).mono ?_; rintro e w' ⟨rfl, rfl⟩; rw [HZ.out]) | (go_at_call 34; refine (within_any _ _ _ _).mono ?_; rintro e w' ⟨rfl, rfl⟩))
  go_ret
  exact ⟨rfl, rfl⟩
theorem sTurnTime (a b : Int) (w : World) :
    Calls Try.prog 10 #[.int .i64 a, .int .i64 b] w fun e w' => e = .returned (.int .i64 (TimeZ a b)) ∧ w = w' := by
  cases h1 : inB a 1 96
  · have e : TimeZ a b = -1 := by simp [TimeZ, timeB, h1]
    rw [e]
    go_enter Try.func10, Try.ntmps10
    go_wp2_with (go_at_call 33; refine (l01In_any _ _ _ _).mono ?_; rintro e w' ⟨rfl, rfl⟩)
    go_ret
    exact ⟨rfl, rfl⟩
  cases h2 : inB b 1 1000
  · have e : TimeZ a b = -1 := by simp [TimeZ, timeB, h2]
    rw [e]
    go_enter Try.func10, Try.ntmps10
    go_wp2_with (go_at_call 33; refine (l01In_any _ _ _ _).mono ?_; rintro e w' ⟨rfl, rfl⟩)
    go_ret
    exact ⟨rfl, rfl⟩
  have ht : timeB a b = true := by simp [timeB, h1, h2]
  have e : TimeZ a b = a * b := by simp [TimeZ, ht]
  have hb := time_bd ht
  rw [e]
  clear e ht
  go_enter Try.func10, Try.ntmps10
  go_wp2_with (go_at_call 33; refine (l01In_any _ _ _ _).mono ?_; rintro e w' ⟨rfl, rfl⟩)
  go_ret
  exact ⟨rfl, rfl⟩

theorem sPlayTime (a b n : Int) (w : World) :
    Calls Try.prog 12 #[.int .i64 a, .int .i64 b, .int .i64 n] w fun e w' => e = .returned (.int .i64 (PlayZ a b n)) ∧ w = w' := by
  cases ht : timeB a b
  · have e : PlayZ a b n = -1 := by simp [PlayZ, ht]
    have hz : TimeZ a b = -1 := by simp [TimeZ, ht]
    have HZ := Lib.hid hz
    rw [e]
    clear hz
    go_enter Try.func12, Try.ntmps12
    go_wp2_with (first | (go_at_call 10; refine (sTurnTime _ _ _).mono ?_; rintro e w' ⟨rfl, rfl⟩; rw [HZ.out]) | (go_at_call 33; refine (l01In_any _ _ _ _).mono ?_; rintro e w' ⟨rfl, rfl⟩))
    go_ret
    exact ⟨rfl, rfl⟩
  have hz : TimeZ a b = a * b := by simp [TimeZ, ht]
  have hb := time_bd ht
  have HZ := Lib.hid hz
  clear hz
  cases h2 : inB n 0 1000
  · have e : PlayZ a b n = -1 := by simp [PlayZ, h2]
    rw [e]
    clear ht
    go_enter Try.func12, Try.ntmps12
    go_wp2_with (first | (go_at_call 10; refine (sTurnTime _ _ _).mono ?_; rintro e w' ⟨rfl, rfl⟩; rw [HZ.out]) | (go_at_call 33; refine (l01In_any _ _ _ _).mono ?_; rintro e w' ⟨rfl, rfl⟩))
    go_ret
    exact ⟨rfl, rfl⟩
  have e : PlayZ a b n = a * b * n / 1000 := by simp [PlayZ, ht, h2]
  rw [e]
  have hn := inB_iff.1 h2
  have m1 : 0 ≤ a * b * n := Int.mul_nonneg (by omega) (by omega)
  have m2 : a * b * n ≤ 96000 * 1000 := Int.mul_le_mul (by omega) (by omega) (by omega) (by omega)
  clear ht e
  go_enter Try.func12, Try.ntmps12
  go_wp2_with (first | (go_at_call 10; refine (sTurnTime _ _ _).mono ?_; rintro e w' ⟨rfl, rfl⟩; rw [HZ.out]) | (go_at_call 33; refine (l01In_any _ _ _ _).mono ?_; rintro e w' ⟨rfl, rfl⟩))
  go_ret
  exact ⟨rfl, rfl⟩

theorem sTurnsForTime (a b s : Int) (w : World) :
    Calls Try.prog 14 #[.int .i64 a, .int .i64 b, .int .i64 s] w fun e w' => e = .returned (.int .i64 (TurnsForZ a b s)) ∧ w = w' := by
  cases ht : timeB a b
  · have e : TurnsForZ a b s = -1 := by simp [TurnsForZ, ht]
    have hz : TimeZ a b = -1 := by simp [TimeZ, ht]
    have HZ := Lib.hid hz
    rw [e]
    clear hz
    go_enter Try.func14, Try.ntmps14
    go_wp2_with (first | (go_at_call 10; refine (sTurnTime _ _ _).mono ?_; rintro e w' ⟨rfl, rfl⟩; rw [HZ.out]) | (go_at_call 33; refine (l01In_any _ _ _ _).mono ?_; rintro e w' ⟨rfl, rfl⟩))
    go_ret
    exact ⟨rfl, rfl⟩
  have hz : TimeZ a b = a * b := by simp [TimeZ, ht]
  have hb := time_bd ht
  have HZ := Lib.hid hz
  clear hz
  cases h2 : inB s 0 3600
  · have e : TurnsForZ a b s = -1 := by simp [TurnsForZ, h2]
    rw [e]
    clear ht
    go_enter Try.func14, Try.ntmps14
    go_wp2_with (first | (go_at_call 10; refine (sTurnTime _ _ _).mono ?_; rintro e w' ⟨rfl, rfl⟩; rw [HZ.out]) | (go_at_call 33; refine (l01In_any _ _ _ _).mono ?_; rintro e w' ⟨rfl, rfl⟩))
    go_ret
    exact ⟨rfl, rfl⟩
  have hs := inB_iff.1 h2
  have e : TurnsForZ a b s = if 1000 < ceilQ (a * b) s then -1 else ceilQ (a * b) s := by simp only [TurnsForZ, ht, h2, and_self, if_true]
  rw [e]
  clear e ht
  unfold ceilQ
  generalize a * b = N at *
  have q1 : 0 ≤ (1000 * s + N - 1) / N := Int.ediv_nonneg (by omega) (by omega)
  have q2 : (1000 * s + N - 1) / N ≤ 1000 * s + N - 1 := Int.ediv_le_self N (by omega)
  by_cases hq : 1000 < (1000 * s + N - 1) / N
  · rw [if_pos hq]
    go_enter Try.func14, Try.ntmps14
    go_wp2_with (first | (go_at_call 10; refine (sTurnTime _ _ _).mono ?_; rintro e w' ⟨rfl, rfl⟩; rw [HZ.out]) | (go_at_call 33; refine (l01In_any _ _ _ _).mono ?_; rintro e w' ⟨rfl, rfl⟩))
    go_ret
    exact ⟨rfl, rfl⟩
  · rw [if_neg hq]
    go_enter Try.func14, Try.ntmps14
    go_wp2_with (first | (go_at_call 10; refine (sTurnTime _ _ _).mono ?_; rintro e w' ⟨rfl, rfl⟩; rw [HZ.out]) | (go_at_call 33; refine (l01In_any _ _ _ _).mono ?_; rintro e w' ⟨rfl, rfl⟩))
    go_ret
    exact ⟨rfl, rfl⟩

theorem iTurnsForTime (a b s : Int) (w : World) :
    Calls Try.prog 15 #[.int .i64 a, .int .i64 b, .int .i64 s] w fun e w' => e = .returned (.int .i64 (TurnsForZ a b s)) ∧ w = w' := by
  cases ht : timeB a b
  · have e : TurnsForZ a b s = -1 := by simp [TurnsForZ, ht]
    have hz : TimeZ a b = -1 := by simp [TimeZ, ht]
    have HZ := Lib.hid hz
    rw [e]
    clear hz
    go_enter Try.func15, Try.ntmps15
    go_wp2_with (first | (go_at_call 11; refine (iTurnTime _ _ _).mono ?_; rintro e w' ⟨rfl, rfl⟩; rw [HZ.out]) | (go_at_call 34; refine (within_any _ _ _ _).mono ?_; rintro e w' ⟨rfl, rfl⟩))
    go_ret
    exact ⟨rfl, rfl⟩
  have hz : TimeZ a b = a * b := by simp [TimeZ, ht]
  have hb := time_bd ht
  have HZ := Lib.hid hz
  clear hz
  cases h2 : inB s 0 3600
  · have e : TurnsForZ a b s = -1 := by simp [TurnsForZ, h2]
    rw [e]
    clear ht
    go_enter Try.func15, Try.ntmps15
    go_wp2_with (first | (go_at_call 11; refine (iTurnTime _ _ _).mono ?_; rintro e w' ⟨rfl, rfl⟩; rw [HZ.out]) | (go_at_call 34; refine (within_any _ _ _ _).mono ?_; rintro e w' ⟨rfl, rfl⟩))
    go_ret
    exact ⟨rfl, rfl⟩
  have hs := inB_iff.1 h2
  have e : TurnsForZ a b s = if 1000 < ceilQ (a * b) s then -1 else ceilQ (a * b) s := by simp only [TurnsForZ, ht, h2, and_self, if_true]
  rw [e]
  clear e
  obtain ⟨c1, c2, c3⟩ := ceil_bd hb.1 hs.1
  have hp : ∀ k : Int, 0 ≤ k → k ≤ 1000 → PlayZ a b k = a * b * k / 1000 := fun k k0 k1 => by unfold PlayZ; rw [if_pos ⟨ht, inB_true ⟨k0, k1⟩⟩]
  have HP := Lib.hid hp
  clear hp ht
  generalize ceilQ (a * b) s = q at *
  go_enter Try.func15, Try.ntmps15
  go_wp2_with (first | (go_at_call 11; refine (iTurnTime _ _ _).mono ?_; rintro e w' ⟨rfl, rfl⟩; rw [HZ.out]) | (go_at_call 34; refine (within_any _ _ _ _).mono ?_; rintro e w' ⟨rfl, rfl⟩))
  go_loop [7] (fun i => ∃ k : Nat, k ≤ 1001 ∧ (k : Int) ≤ q ∧ i = .int .i64 k) (fun i => 1001 - (intOf i).toNat)
  case atStart => exact ⟨0, by omega, by omega, rfl⟩
  case round =>
    obtain ⟨k, hk, hkq, rfl⟩ := hrel
    by_cases hlt : k ≤ 1000
    · have e1 := HP.out k (by omega) (by omega)
      obtain ⟨y, hy⟩ : ∃ y, y = a * b * (k : Int) / 1000 := ⟨_, rfl⟩
      rw [← hy] at e1
      have E1 := Lib.hid e1
      clear e1
      by_cases hkq2 : (k : Int) < q
      · have hlt2 : y < s := by rw [hy]; exact play_lt hb.1 c3 hkq2
        clear hy
        go_wp2_with (go_at_call 13; refine (iPlayTime _ _ _ _).mono ?_; rintro e w' ⟨rfl, rfl⟩; rw [E1.out])
        go_round
        case rel => exact ⟨k + 1, by omega, by omega, by go_num⟩
        case measure => simp [intOf]; omega
      · obtain rfl : q = (k : Int) := by omega
        have hge : s ≤ y := by rw [hy]; omega
        clear hy
        go_wp2_with (go_at_call 13; refine (iPlayTime _ _ _ _).mono ?_; rintro e w' ⟨rfl, rfl⟩; rw [E1.out])
        go_ret
        exact ⟨rfl, rfl⟩
    · go_wp2
      go_ret
      exact ⟨rfl, rfl⟩

theorem fnExactTurnTime_walk (a : Int) (_ha : I64 a) (b : Int) (_hb : I64 b) (w : World) :
    Calls Try.prog 3 #[.int .i64 a, .int .i64 b] w fun e w' => e = .returned (.bool true) ∧ Below w.heap.size w w' := by
  go_enter Try.func3, Try.ntmps3
  go_wp2_with (first | (go_at_call 10; refine (sTurnTime _ _ _).mono ?_; rintro e w' ⟨rfl, rfl⟩) | (go_at_call 11; refine (iTurnTime _ _ _).mono ?_; rintro e w' ⟨rfl, rfl⟩))
  go_ret
  exact ⟨rfl, Below.refl _ _⟩
theorem fnExactPlayTime_walk (a : Int) (_ha : I64 a) (b : Int) (_hb : I64 b) (n : Int) (_hn : I64 n) (w : World) :
    Calls Try.prog 4 #[.int .i64 a, .int .i64 b, .int .i64 n] w fun e w' => e = .returned (.bool true) ∧ Below w.heap.size w w' := by
  go_enter Try.func4, Try.ntmps4
  go_wp2_with (first | (go_at_call 12; refine (sPlayTime _ _ _ _).mono ?_; rintro e w' ⟨rfl, rfl⟩) | (go_at_call 13; refine (iPlayTime _ _ _ _).mono ?_; rintro e w' ⟨rfl, rfl⟩))
  go_ret
  exact ⟨rfl, Below.refl _ _⟩
theorem fnExactTurnsForTime_walk (a : Int) (_ha : I64 a) (b : Int) (_hb : I64 b) (n : Int) (_hn : I64 n) (w : World) :
    Calls Try.prog 5 #[.int .i64 a, .int .i64 b, .int .i64 n] w fun e w' => e = .returned (.bool true) ∧ Below w.heap.size w w' := by
  go_enter Try.func5, Try.ntmps5
  go_wp2_with (first | (go_at_call 14; refine (sTurnsForTime _ _ _ _).mono ?_; rintro e w' ⟨rfl, rfl⟩) | (go_at_call 15; refine (iTurnsForTime _ _ _ _).mono ?_; rintro e w' ⟨rfl, rfl⟩))
  go_ret
  exact ⟨rfl, Below.refl _ _⟩

end Go.Proofs.Ytbiokfgkiillkaa
