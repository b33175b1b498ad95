/-
  StepsTo and ClosestTone of impl and of spec, and the walks of the laws on teeth: each returns true, and makes new blocks alone.
-/
import Derived.Test.YtbgoednppihboaaTooth
namespace Go.Proofs.Ytbgoednppihboaa
open Go.RowKit

/-- what a call of StepsTo leaves -/
def RetSteps (z t r goal : Int) (w : World) (e : Ending) (w' : World) : Prop := ∃ (a b : Int) (ok : Bool), e = .returned (.tuple #[.int .i64 a, .int .i64 b, .bool ok]) ∧ StepsToOf z t r goal a b ok ∧ Below w.heap.size w w'
/-- what a call of ClosestTone leaves -/
def RetClosest (z t r goal : Int) (w : World) (e : Ending) (w' : World) : Prop := ∃ c : Int, e = .returned (.int .i64 c) ∧ ClosestOf z t r goal c ∧ Below w.heap.size w w'

theorem iStepsTo (z t r goal : Int) (w : World) :
    Calls Try.prog 18 #[.agg #[.int .i64 z, .int .i64 t, .int .i64 r], .int .i64 goal] w (RetSteps z t r goal w) := by
  cases h : tooB z t r
  · have e : StepsToOf z t r goal 0 0 false := by unfold StepsToOf; rw [if_neg (by simp [h])]; exact ⟨rfl, rfl, rfl⟩
    go_enter Try.func18, Try.ntmps18
    go_wp2_with (go_at_call 11; refine (iToothOkE _ _ _ _).mono ?_; rintro e w' ⟨rfl, rfl⟩; rw [h])
    go_ret3
    exact ⟨0, 0, false, rfl, e, by (repeat (first | exact Below.refl _ _ | assumption | refine Below.alloc ?_ (by first | omega | (simp <;> omega)) _ | refine Below.setCell ?_ (by first | omega | (simp <;> omega)) _ | refine Below.drew ?_ | refine Below.trans ?_ (Below.mono (by assumption) (by first | omega | (simp <;> omega)))))⟩
  cases hg : inB goal 0 6000
  · have e : StepsToOf z t r goal 0 0 false := by
      have := inB_not hg
      unfold StepsToOf; rw [if_neg (by omega)]; exact ⟨rfl, rfl, rfl⟩
    go_enter Try.func18, Try.ntmps18
    go_wp2_with (first | (go_at_call 11; refine (iToothOkE _ _ _ _).mono ?_; rintro e w' ⟨rfl, rfl⟩; rw [h]) | (go_at_call 25; refine (within_any _ _ _ _).mono ?_; rintro e w1 ⟨rfl, rfl⟩; rw [hg]))
    go_ret3
    exact ⟨0, 0, false, rfl, e, by (repeat (first | exact Below.refl _ _ | assumption | refine Below.alloc ?_ (by first | omega | (simp <;> omega)) _ | refine Below.setCell ?_ (by first | omega | (simp <;> omega)) _ | refine Below.drew ?_ | refine Below.trans ?_ (Below.mono (by assumption) (by first | omega | (simp <;> omega)))))⟩
  have hb := tooB_iff.1 h
  have hgg := inB_iff.1 hg
  have e : ∀ a b ok, StepsToIs z t r goal a b ok → StepsToOf z t r goal a b ok := fun a b ok hh => by unfold StepsToOf; rw [if_pos ⟨h, hgg.1, hgg.2⟩]; exact hh
  have E := Lib.hid e
  clear e
  go_enter Try.func18, Try.ntmps18
  go_wp2_with (first | (go_at_call 11; refine (iToothOkE _ _ _ _).mono ?_; rintro e w' ⟨rfl, rfl⟩; rw [h]) | (go_at_call 25; refine (within_any _ _ _ _).mono ?_; rintro e w1 ⟨rfl, rfl⟩; rw [hg]))
  go_loop [7, 8, 9, 10] (fun tips roots found a => ∃ (p : Nat) (x y : Int) (ok : Bool), (p : Int) ≤ t + 1 ∧ a = .int .i64 p ∧ tips = .int .i64 x ∧ roots = .int .i64 y ∧ found = .bool ok ∧ 0 ≤ x ∧ x ≤ 20 ∧ 0 ≤ y ∧ y ≤ 20 ∧ Hid (StepsRun z t r goal p 0 x y ok)) (fun _ _ _ a => 22 - (intOf a).toNat)
  case atStart => exact ⟨0, 0, 0, false, by omega, rfl, rfl, rfl, rfl, by omega, by omega, by omega, by omega, StepsRun.start z t r goal⟩
  case round =>
    obtain ⟨p, x, y, ok, hp, rfl, rfl, rfl, rfl, x0, x1, y0, y1, hrun⟩ := hrel
    by_cases hlt : (p : Int) ≤ t
    case neg =>
      go_wp2
      go_ret3
      exact ⟨x, y, ok, rfl, E.out _ _ _ (hrun.out.done (by omega)), by (repeat (first | exact Below.refl _ _ | assumption | refine Below.alloc ?_ (by first | omega | (simp <;> omega)) _ | refine Below.setCell ?_ (by first | omega | (simp <;> omega)) _ | refine Below.drew ?_ | refine Below.trans ?_ (Below.mono (by assumption) (by first | omega | (simp <;> omega)))))⟩
    case pos =>
      go_wp2
      go_loop [7, 8, 9, 11] (fun tips roots found b => ∃ (q : Nat) (x y : Int) (ok : Bool), (q : Int) ≤ r + 1 ∧ b = .int .i64 q ∧ tips = .int .i64 x ∧ roots = .int .i64 y ∧ found = .bool ok ∧ 0 ≤ x ∧ x ≤ 20 ∧ 0 ≤ y ∧ y ≤ 20 ∧ Hid (StepsRun z t r goal p q x y ok)) (fun _ _ _ b => 22 - (intOf b).toNat)
      case atStart => exact ⟨0, x, y, ok, by omega, rfl, rfl, rfl, rfl, x0, x1, y0, y1, hrun⟩
      case round =>
        clear hrun x0 x1 y0 y1
        obtain ⟨q, x, y, ok, hq, rfl, rfl, rfl, rfl, x0, x1, y0, y1, hrun⟩ := hrel
        by_cases hlq : (q : Int) ≤ r
        case neg =>
          go_wp2
          go_round
          case rel => exact ⟨p + 1, x, y, ok, by omega, by go_num, rfl, rfl, rfl, x0, x1, y0, y1, hrun.out.row (by omega)⟩
          case measure => simp [intOf]; omega
        case pos =>
          by_cases hh : z + 7 * (p : Int) - 11 * (q : Int) = goal
          case neg =>
            have hne : (z + 7 * (p : Int) - 11 * (q : Int) == goal) = false := by simpa using hh
            have K := hrun.out.keep (fun k => hh k.1)
            have HK := Lib.hid K
            clear K hh hrun
            go_wp2
            go_round
            case rel => exact ⟨q + 1, x, y, ok, by omega, by go_num, rfl, rfl, rfl, x0, x1, y0, y1, HK.out⟩
            case measure => simp [intOf]; omega
          case pos =>
            have hne : (z + 7 * (p : Int) - 11 * (q : Int) == goal) = true := by simpa using hh
            have HH := Lib.hid hh
            clear hh
            cases ok
            case false =>
              have K := hrun.out.take (by omega) hlt (by omega) hlq HH.out (.inl rfl)
              have HK := Lib.hid K
              clear K hrun
              go_wp2
              go_round
              case rel => exact ⟨q + 1, p, q, true, by omega, by go_num, rfl, rfl, rfl, by omega, by omega, by omega, by omega, HK.out⟩
              case measure => simp [intOf]; omega
            case true =>
              by_cases hs : (p : Int) + q < x + y
              case pos =>
                have K := hrun.out.take (by omega) hlt (by omega) hlq HH.out (.inr hs)
                have HK := Lib.hid K
                clear K hrun
                go_wp2
                go_round
                case rel => exact ⟨q + 1, p, q, true, by omega, by go_num, rfl, rfl, rfl, by omega, by omega, by omega, by omega, HK.out⟩
                case measure => simp [intOf]; omega
              case neg =>
                have K := hrun.out.keep (fun k => by rcases k.2 with h | h; exact absurd h (by simp); omega)
                have HK := Lib.hid K
                clear K hrun
                go_wp2
                go_round
                case rel => exact ⟨q + 1, x, y, true, by omega, by go_num, rfl, rfl, rfl, x0, x1, y0, y1, HK.out⟩
                case measure => simp [intOf]; omega

theorem sStepsTo (z t r goal : Int) (w : World) :
    Calls Try.prog 17 #[.agg #[.int .i64 z, .int .i64 t, .int .i64 r], .int .i64 goal] w (RetSteps z t r goal w) := by
  cases h : tooB z t r
  · have e : StepsToOf z t r goal 0 0 false := by unfold StepsToOf; rw [if_neg (by simp [h])]; exact ⟨rfl, rfl, rfl⟩
    go_enter Try.func17, Try.ntmps17
    go_wp2_with (go_at_call 9; refine (sToothOkE _ _ _ _).mono ?_; rintro e w' ⟨rfl, rfl⟩; rw [h])
    go_ret3
    exact ⟨0, 0, false, rfl, e, by (repeat (first | exact Below.refl _ _ | assumption | refine Below.alloc ?_ (by first | omega | (simp <;> omega)) _ | refine Below.setCell ?_ (by first | omega | (simp <;> omega)) _ | refine Below.drew ?_ | refine Below.trans ?_ (Below.mono (by assumption) (by first | omega | (simp <;> omega)))))⟩
  cases hg : inB goal 0 6000
  · have e : StepsToOf z t r goal 0 0 false := by
      have := inB_not hg
      unfold StepsToOf; rw [if_neg (by omega)]; exact ⟨rfl, rfl, rfl⟩
    go_enter Try.func17, Try.ntmps17
    go_wp2_with (first | (go_at_call 9; refine (sToothOkE _ _ _ _).mono ?_; rintro e w' ⟨rfl, rfl⟩; rw [h]) | (go_at_call 24; refine (l01In_any _ _ _ _).mono ?_; rintro e w1 ⟨rfl, rfl⟩; rw [hg]))
    go_ret3
    exact ⟨0, 0, false, rfl, e, by (repeat (first | exact Below.refl _ _ | assumption | refine Below.alloc ?_ (by first | omega | (simp <;> omega)) _ | refine Below.setCell ?_ (by first | omega | (simp <;> omega)) _ | refine Below.drew ?_ | refine Below.trans ?_ (Below.mono (by assumption) (by first | omega | (simp <;> omega)))))⟩
  have hb := tooB_iff.1 h
  have hgg := inB_iff.1 hg
  have e : ∀ a b ok, StepsToIs z t r goal a b ok → StepsToOf z t r goal a b ok := fun a b ok hh => by unfold StepsToOf; rw [if_pos ⟨h, hgg.1, hgg.2⟩]; exact hh
  have E := Lib.hid e
  clear e
  go_enter Try.func17, Try.ntmps17
  go_wp2_with (first | (go_at_call 9; refine (sToothOkE _ _ _ _).mono ?_; rintro e w' ⟨rfl, rfl⟩; rw [h]) | (go_at_call 24; refine (l01In_any _ _ _ _).mono ?_; rintro e w1 ⟨rfl, rfl⟩; rw [hg]))
  go_loop [7] (fun n => ∃ k : Nat, (k : Int) ≤ t + r + 1 ∧ n = .int .i64 k ∧ Hid (StepsSum z t r goal k 0)) (fun n => 42 - (intOf n).toNat)
  case atStart => exact ⟨0, by omega, rfl, fun x y _ _ _ _ h => by omega⟩
  case round =>
    obtain ⟨k, hk, rfl, hrun⟩ := hrel
    by_cases hlt : (k : Int) ≤ t + r
    case neg =>
      go_wp2
      go_ret3
      exact ⟨0, 0, false, rfl, E.out _ _ _ (hrun.out.none (by omega)), by (repeat (first | exact Below.refl _ _ | assumption | refine Below.alloc ?_ (by first | omega | (simp <;> omega)) _ | refine Below.setCell ?_ (by first | omega | (simp <;> omega)) _ | refine Below.drew ?_ | refine Below.trans ?_ (Below.mono (by assumption) (by first | omega | (simp <;> omega)))))⟩
    case pos =>
      go_wp2
      go_loop [8, 9] (fun a _ => ∃ p : Nat, (p : Int) ≤ k + 1 ∧ a = .int .i64 p ∧ Hid (StepsSum z t r goal k p)) (fun a _ => 42 - (intOf a).toNat)
      case atStart => exact ⟨0, by omega, rfl, hrun⟩
      case round =>
        clear hrun
        obtain ⟨p, hp, rfl, hrun⟩ := hrel
        by_cases hlp : (p : Int) ≤ k
        case neg =>
          go_wp2
          go_round
          case rel => exact ⟨k + 1, by omega, by go_num, hrun.out.row (by omega)⟩
          case measure => simp [intOf]; omega
        case pos =>
          by_cases h1 : (p : Int) ≤ t
          case neg =>
            have K := hrun.out.next (fun k => h1 k.1)
            have HK := Lib.hid K
            clear K hrun
            go_wp2
            go_round
            case rel => exact ⟨p + 1, by omega, by go_num, HK.out⟩
            case measure => simp [intOf]; omega
          by_cases h2 : (k : Int) - p ≤ r
          case neg =>
            have K := hrun.out.next (fun k => h2 k.2.1)
            have HK := Lib.hid K
            clear K hrun
            go_wp2
            go_round
            case rel => exact ⟨p + 1, by omega, by go_num, HK.out⟩
            case measure => simp [intOf]; omega
          by_cases hh : z + 7 * (p : Int) - 11 * ((k : Int) - p) = goal
          case neg =>
            have hne : (z + 7 * (p : Int) - 11 * ((k : Int) - p) == goal) = false := by simpa using hh
            have K := hrun.out.next (fun k => hh k.2.2)
            have HK := Lib.hid K
            clear K hrun hh
            go_wp2
            go_round
            case rel => exact ⟨p + 1, by omega, by go_num, HK.out⟩
            case measure => simp [intOf]; omega
          case pos =>
            have hne : (z + 7 * (p : Int) - 11 * ((k : Int) - p) == goal) = true := by simpa using hh
            have K := hrun.out.hit (by omega) h1 (by omega) h2 hh
            have HK := Lib.hid K
            clear K hrun hh
            go_wp2
            go_ret3
            exact ⟨p, k - p, true, rfl, E.out _ _ _ HK.out, by (repeat (first | exact Below.refl _ _ | assumption | refine Below.alloc ?_ (by first | omega | (simp <;> omega)) _ | refine Below.setCell ?_ (by first | omega | (simp <;> omega)) _ | refine Below.drew ?_ | refine Below.trans ?_ (Below.mono (by assumption) (by first | omega | (simp <;> omega)))))⟩

theorem cmp_dist (goal n c : Int) : (max (n - goal) (goal - n) < max (c - goal) (goal - c)) ∨ (max (n - goal) (goal - n) = max (c - goal) (goal - c) ∧ n < c) ∨ better goal c n := by
  unfold better
  omega

set_option maxHeartbeats 1000000 in
theorem iClosestTone (z t r goal : Int) (w : World) :
    Calls Try.prog 20 #[.agg #[.int .i64 z, .int .i64 t, .int .i64 r], .int .i64 goal] w (RetClosest z t r goal w) := by
  cases h : tooB z t r
  · have e : ClosestOf z t r goal (-1) := by unfold ClosestOf; rw [if_neg (by simp [h])]
    go_enter Try.func20, Try.ntmps20
    go_wp2_with (go_at_call 11; refine (iToothOkE _ _ _ _).mono ?_; rintro e w' ⟨rfl, rfl⟩; rw [h])
    go_ret
    exact ⟨-1, rfl, e, by (repeat (first | exact Below.refl _ _ | assumption | refine Below.alloc ?_ (by first | omega | (simp <;> omega)) _ | refine Below.setCell ?_ (by first | omega | (simp <;> omega)) _ | refine Below.drew ?_ | refine Below.trans ?_ (Below.mono (by assumption) (by first | omega | (simp <;> omega)))))⟩
  cases hg : inB goal 0 6000
  · have e : ClosestOf z t r goal (-1) := by
      have := inB_not hg
      unfold ClosestOf; rw [if_neg (by omega)]
    go_enter Try.func20, Try.ntmps20
    go_wp2_with (first | (go_at_call 11; refine (iToothOkE _ _ _ _).mono ?_; rintro e w' ⟨rfl, rfl⟩; rw [h]) | (go_at_call 25; refine (within_any _ _ _ _).mono ?_; rintro e w1 ⟨rfl, rfl⟩; rw [hg]))
    go_ret
    exact ⟨-1, rfl, e, by (repeat (first | exact Below.refl _ _ | assumption | refine Below.alloc ?_ (by first | omega | (simp <;> omega)) _ | refine Below.setCell ?_ (by first | omega | (simp <;> omega)) _ | refine Below.drew ?_ | refine Below.trans ?_ (Below.mono (by assumption) (by first | omega | (simp <;> omega)))))⟩
  have hb := tooB_iff.1 h
  have hgg := inB_iff.1 hg
  have st := ClosestRun.start (goal := goal) h
  have ST := Lib.hid st
  clear st
  have e : ∀ c, ClosestIs z t r goal c → ClosestOf z t r goal c := fun c hh => by unfold ClosestOf; rw [if_pos ⟨h, hgg.1, hgg.2⟩]; exact hh
  have E := Lib.hid e
  clear e
  go_enter Try.func20, Try.ntmps20
  go_wp2_with (first | (go_at_call 11; refine (iToothOkE _ _ _ _).mono ?_; rintro e w' ⟨rfl, rfl⟩; rw [h]) | (go_at_call 25; refine (within_any _ _ _ _).mono ?_; rintro e w1 ⟨rfl, rfl⟩; rw [hg]))
  clear h hg
  go_loop [5, 6] (fun best a => ∃ (p : Nat) (c : Int), (p : Int) ≤ t + 1 ∧ a = .int .i64 p ∧ best = .int .i64 c ∧ 0 ≤ c ∧ c ≤ 6000 ∧ Hid (ClosestRun z t r goal p 0 c)) (fun _ a => 22 - (intOf a).toNat)
  case atStart => exact ⟨0, z, by omega, rfl, rfl, by omega, by omega, ST.out⟩
  case round =>
    obtain ⟨p, c, hp, rfl, rfl, c0, c1, hrun⟩ := hrel
    by_cases hlt : (p : Int) ≤ t
    case neg =>
      go_wp2
      go_ret
      exact ⟨c, rfl, E.out _ (hrun.out.done (by omega)), by (repeat (first | exact Below.refl _ _ | assumption | refine Below.alloc ?_ (by first | omega | (simp <;> omega)) _ | refine Below.setCell ?_ (by first | omega | (simp <;> omega)) _ | refine Below.drew ?_ | refine Below.trans ?_ (Below.mono (by assumption) (by first | omega | (simp <;> omega)))))⟩
    case pos =>
      go_wp2
      go_loop [5, 7] (fun best b => ∃ (q : Nat) (c : Int), (q : Int) ≤ r + 1 ∧ b = .int .i64 q ∧ best = .int .i64 c ∧ 0 ≤ c ∧ c ≤ 6000 ∧ Hid (ClosestRun z t r goal p q c)) (fun _ b => 22 - (intOf b).toNat)
      case atStart => exact ⟨0, c, by omega, rfl, rfl, c0, c1, hrun⟩
      case round =>
        clear hrun c0 c1
        obtain ⟨q, c, hq, rfl, rfl, c0, c1, hrun⟩ := hrel
        by_cases hlq : (q : Int) ≤ r
        case neg =>
          go_wp2_with (first | (go_at_call 25; refine (within_any _ _ _ _).mono ?_; rintro e w' ⟨rfl, rfl⟩) | (go_at_call 26; refine (magnitude_any _ _ (by omega) (by omega)).mono ?_; rintro e w' ⟨rfl, rfl⟩))
          go_round
          case rel => exact ⟨p + 1, c, by omega, by go_num, rfl, c0, c1, hrun.out.row (by omega)⟩
          case measure => simp [intOf]; omega
        case pos =>
          obtain ⟨n, hn⟩ : ∃ n, n = z + 7 * (p : Int) - 11 * (q : Int) := ⟨_, rfl⟩
          have n0 : -220 ≤ n := by omega
          have n1 : n ≤ 6140 := by omega
          cases hin : inB (z + 7 * (p : Int) - 11 * (q : Int)) 0 6000
          case false =>
            have hni := inB_not hin
            have K := hrun.out.keep (fun a b => absurd ⟨a, b⟩ hni)
            have HK := Lib.hid K
            have HN := Lib.hid hn
            clear K hrun hn hni
            go_wp2_with (first | (go_at_call 25; refine (within_any _ _ _ _).mono ?_; rintro e w' ⟨rfl, rfl⟩) | (go_at_call 26; refine (magnitude_any _ _ (by omega) (by omega)).mono ?_; rintro e w' ⟨rfl, rfl⟩; unfold absZ))
            all_goals
              go_round
              case rel => exact ⟨q + 1, c, by omega, by go_num, rfl, c0, c1, HK.out⟩
              case measure => simp [intOf]; omega
          case true =>
            have hni := inB_iff.1 hin
            rcases cmp_dist goal (z + 7 * (p : Int) - 11 * (q : Int)) c with hc | hc | hc
            · have K := hrun.out.take (by omega) hlt (by omega) hlq hni.1 hni.2 (.inl hc)
              have HK := Lib.hid K
              clear K hrun hn
              go_wp2_with (first | (go_at_call 25; refine (within_any _ _ _ _).mono ?_; rintro e w' ⟨rfl, rfl⟩) | (go_at_call 26; refine (magnitude_any _ _ (by omega) (by omega)).mono ?_; rintro e w' ⟨rfl, rfl⟩; unfold absZ))
              all_goals
                go_round
                case rel => exact ⟨q + 1, _, by omega, by go_num, rfl, by omega, by omega, HK.out⟩
                case measure => simp [intOf]; omega
            · have K := hrun.out.take (by omega) hlt (by omega) hlq hni.1 hni.2 (.inr ⟨hc.1, by omega⟩)
              have HK := Lib.hid K
              have hc1 := Int.le_of_eq hc.1
              have hc2 := Int.le_of_eq hc.1.symm
              have hc3 := hc.2
              clear K hrun hn hc
              go_wp2_with (first | (go_at_call 25; refine (within_any _ _ _ _).mono ?_; rintro e w' ⟨rfl, rfl⟩) | (go_at_call 26; refine (magnitude_any _ _ (by omega) (by omega)).mono ?_; rintro e w' ⟨rfl, rfl⟩; unfold absZ))
              all_goals
                go_round
                case rel => exact ⟨q + 1, _, by omega, by go_num, rfl, by omega, by omega, HK.out⟩
                case measure => simp [intOf]; omega
            · have K := hrun.out.keep (fun _ _ => hc)
              have HK := Lib.hid K
              have hc1 : max (c - goal) (goal - c) ≤ max (z + 7 * (p : Int) - 11 * (q : Int) - goal) (goal - (z + 7 * (p : Int) - 11 * (q : Int))) := by unfold better at hc; omega
              have hc2 : max (c - goal) (goal - c) < max (z + 7 * (p : Int) - 11 * (q : Int) - goal) (goal - (z + 7 * (p : Int) - 11 * (q : Int))) ∨ c ≤ z + 7 * (p : Int) - 11 * (q : Int) := by unfold better at hc; omega
              clear K hrun hn hc
              rcases hc2 with hc2 | hc2
              all_goals
                go_wp2_with (first | (go_at_call 25; refine (within_any _ _ _ _).mono ?_; rintro e w' ⟨rfl, rfl⟩) | (go_at_call 26; refine (magnitude_any _ _ (by omega) (by omega)).mono ?_; rintro e w' ⟨rfl, rfl⟩; unfold absZ))
                all_goals
                  go_round
                  case rel => exact ⟨q + 1, c, by omega, by go_num, rfl, c0, c1, HK.out⟩
                  case measure => simp [intOf]; omega
set_option maxHeartbeats 1000000 in
theorem sClosestTone (z t r goal : Int) (w : World) :
    Calls Try.prog 19 #[.agg #[.int .i64 z, .int .i64 t, .int .i64 r], .int .i64 goal] w (RetClosest z t r goal w) := by
  cases h : tooB z t r
  · have e : ClosestOf z t r goal (-1) := by unfold ClosestOf; rw [if_neg (by simp [h])]
    go_enter Try.func19, Try.ntmps19
    go_wp2_with (go_at_call 9; refine (sToothOkE _ _ _ _).mono ?_; rintro e w' ⟨rfl, rfl⟩; rw [h])
    go_ret
    exact ⟨-1, rfl, e, by (repeat (first | exact Below.refl _ _ | assumption | refine Below.alloc ?_ (by first | omega | (simp <;> omega)) _ | refine Below.setCell ?_ (by first | omega | (simp <;> omega)) _ | refine Below.drew ?_ | refine Below.trans ?_ (Below.mono (by assumption) (by first | omega | (simp <;> omega)))))⟩
  cases hg : inB goal 0 6000
  · have e : ClosestOf z t r goal (-1) := by
      have := inB_not hg
      unfold ClosestOf; rw [if_neg (by omega)]
    go_enter Try.func19, Try.ntmps19
    go_wp2_with (first | (go_at_call 9; refine (sToothOkE _ _ _ _).mono ?_; rintro e w' ⟨rfl, rfl⟩; rw [h]) | (go_at_call 24; refine (l01In_any _ _ _ _).mono ?_; rintro e w1 ⟨rfl, rfl⟩; rw [hg]))
    go_ret
    exact ⟨-1, rfl, e, by (repeat (first | exact Below.refl _ _ | assumption | refine Below.alloc ?_ (by first | omega | (simp <;> omega)) _ | refine Below.setCell ?_ (by first | omega | (simp <;> omega)) _ | refine Below.drew ?_ | refine Below.trans ?_ (Below.mono (by assumption) (by first | omega | (simp <;> omega)))))⟩
  have hb := tooB_iff.1 h
  have hgg := inB_iff.1 hg
  have st := ClosestRun.start (goal := goal) h
  have ST := Lib.hid st
  clear st
  have e : ∀ c, ClosestIs z t r goal c → ClosestOf z t r goal c := fun c hh => by unfold ClosestOf; rw [if_pos ⟨h, hgg.1, hgg.2⟩]; exact hh
  have E := Lib.hid e
  clear e
  go_enter Try.func19, Try.ntmps19
  go_wp2_with (first | (go_at_call 9; refine (sToothOkE _ _ _ _).mono ?_; rintro e w' ⟨rfl, rfl⟩; rw [h]) | (go_at_call 24; refine (l01In_any _ _ _ _).mono ?_; rintro e w1 ⟨rfl, rfl⟩; rw [hg]))
  clear h hg
  go_loop [5, 6] (fun best a => ∃ (p : Nat) (c : Int), (p : Int) ≤ t + 1 ∧ a = .int .i64 p ∧ best = .int .i64 c ∧ 0 ≤ c ∧ c ≤ 6000 ∧ Hid (ClosestRun z t r goal p 0 c)) (fun _ a => 22 - (intOf a).toNat)
  case atStart => exact ⟨0, z, by omega, rfl, rfl, by omega, by omega, ST.out⟩
  case round =>
    obtain ⟨p, c, hp, rfl, rfl, c0, c1, hrun⟩ := hrel
    by_cases hlt : (p : Int) ≤ t
    case neg =>
      go_wp2
      go_ret
      exact ⟨c, rfl, E.out _ (hrun.out.done (by omega)), by (repeat (first | exact Below.refl _ _ | assumption | refine Below.alloc ?_ (by first | omega | (simp <;> omega)) _ | refine Below.setCell ?_ (by first | omega | (simp <;> omega)) _ | refine Below.drew ?_ | refine Below.trans ?_ (Below.mono (by assumption) (by first | omega | (simp <;> omega)))))⟩
    case pos =>
      go_wp2
      go_loop [5, 7] (fun best b => ∃ (q : Nat) (c : Int), (q : Int) ≤ r + 1 ∧ b = .int .i64 q ∧ best = .int .i64 c ∧ 0 ≤ c ∧ c ≤ 6000 ∧ Hid (ClosestRun z t r goal p q c)) (fun _ b => 22 - (intOf b).toNat)
      case atStart => exact ⟨0, c, by omega, rfl, rfl, c0, c1, hrun⟩
      case round =>
        clear hrun c0 c1
        obtain ⟨q, c, hq, rfl, rfl, c0, c1, hrun⟩ := hrel
        by_cases hlq : (q : Int) ≤ r
        case neg =>
          go_wp2_with (first | (go_at_call 24; refine (l01In_any _ _ _ _).mono ?_; rintro e w' ⟨rfl, rfl⟩) | (go_at_call 26; refine (magnitude_any _ _ (by omega) (by omega)).mono ?_; rintro e w' ⟨rfl, rfl⟩))
          go_round
          case rel => exact ⟨p + 1, c, by omega, by go_num, rfl, c0, c1, hrun.out.row (by omega)⟩
          case measure => simp [intOf]; omega
        case pos =>
          obtain ⟨n, hn⟩ : ∃ n, n = z + 7 * (p : Int) - 11 * (q : Int) := ⟨_, rfl⟩
          have n0 : -220 ≤ n := by omega
          have n1 : n ≤ 6140 := by omega
          cases hin : inB (z + 7 * (p : Int) - 11 * (q : Int)) 0 6000
          case false =>
            have hni := inB_not hin
            have K := hrun.out.keep (fun a b => absurd ⟨a, b⟩ hni)
            have HK := Lib.hid K
            have HN := Lib.hid hn
            clear K hrun hn hni
            go_wp2_with (go_at_call 24; refine (l01In_any _ _ _ _).mono ?_; rintro e w' ⟨rfl, rfl⟩)
            all_goals
              go_round
              case rel => exact ⟨q + 1, c, by omega, by go_num, rfl, c0, c1, HK.out⟩
              case measure => simp [intOf]; omega
          case true =>
            have hni := inB_iff.1 hin
            rcases cmp_dist goal (z + 7 * (p : Int) - 11 * (q : Int)) c with hc | hc | hc
            · have K := hrun.out.take (by omega) hlt (by omega) hlq hni.1 hni.2 (.inl hc)
              have HK := Lib.hid K
              clear K hrun hn
              go_wp2_with (go_at_call 24; refine (l01In_any _ _ _ _).mono ?_; rintro e w' ⟨rfl, rfl⟩)
              all_goals
                go_round
                case rel => exact ⟨q + 1, _, by omega, by go_num, rfl, by omega, by omega, HK.out⟩
                case measure => simp [intOf]; omega
            · have K := hrun.out.take (by omega) hlt (by omega) hlq hni.1 hni.2 (.inr ⟨hc.1, by omega⟩)
              have HK := Lib.hid K
              have hc1 := Int.le_of_eq hc.1
              have hc2 := Int.le_of_eq hc.1.symm
              have hc3 := hc.2
              clear K hrun hn hc
              go_wp2_with (go_at_call 24; refine (l01In_any _ _ _ _).mono ?_; rintro e w' ⟨rfl, rfl⟩)
              all_goals
                go_round
                case rel => exact ⟨q + 1, _, by omega, by go_num, rfl, by omega, by omega, HK.out⟩
                case measure => simp [intOf]; omega
            · have K := hrun.out.keep (fun _ _ => hc)
              have HK := Lib.hid K
              have hc1 : max (c - goal) (goal - c) ≤ max (z + 7 * (p : Int) - 11 * (q : Int) - goal) (goal - (z + 7 * (p : Int) - 11 * (q : Int))) := by unfold better at hc; omega
              have hc2 : max (c - goal) (goal - c) < max (z + 7 * (p : Int) - 11 * (q : Int) - goal) (goal - (z + 7 * (p : Int) - 11 * (q : Int))) ∨ c ≤ z + 7 * (p : Int) - 11 * (q : Int) := by unfold better at hc; omega
              clear K hrun hn hc
              rcases hc2 with hc2 | hc2
              all_goals
                go_wp2_with (go_at_call 24; refine (l01In_any _ _ _ _).mono ?_; rintro e w' ⟨rfl, rfl⟩)
                all_goals
                  go_round
                  case rel => exact ⟨q + 1, c, by omega, by go_num, rfl, c0, c1, HK.out⟩
                  case measure => simp [intOf]; omega

theorem fnExactToothOk_walk (z t r : Int) (_hz : I64 z) (_ht : I64 t) (_hr : I64 r) (w : World) :
    Calls Try.prog 3 #[.agg #[.int .i64 z, .int .i64 t, .int .i64 r]] w fun e w' => e = .returned (.bool true) ∧ Below w.heap.size w w' := by
  go_enter Try.func3, Try.ntmps3
  go_wp2_with (go_at_call 10; refine (toTooth_any _ _ _ _).mono ?_; rintro e w1 ⟨rfl, hb1⟩; have hk1 := (Blk.new w 23 #[.int .i64 z, .int .i64 t, .int .i64 r]).below hb1 (by simp))
  go_wp2_with (go_at_call 9; refine (sToothOk _ _ _ _).mono ?_; rintro e w2 ⟨rfl, hb2⟩; have hk2 := hk1.below hb2 hk1.lt; obtain ⟨k0, k1, k2⟩ := hk2.c3)
  go_wp2_with (go_at_call 10; refine (toTooth_any _ _ _ _).mono ?_; rintro e w3 ⟨rfl, hb3⟩)
  go_wp2_with (go_at_call 11; refine (iToothOk _ _ _ _).mono ?_; rintro e w4 ⟨rfl, hb4⟩)
  go_ret
  have hl := hk1.lt
  have z1 := hb2.size
  have z2 := hb3.size
  have b1 : Below w.heap.size w w1 := ((Below.refl _ _).alloc (Nat.le_refl _) _).trans (hb1.mono (by simp))
  have b2 := b1.trans (hb2.mono (by omega))
  have b3 := b2.trans (hb3.mono (by omega))
  exact ⟨rfl, b3.trans (hb4.mono (by omega))⟩

theorem fnExactClosestTone_walk (z t r : Int) (_hz : I64 z) (_ht : I64 t) (_hr : I64 r) (g : Int) (_hg : I64 g) (w : World) :
    Calls Try.prog 7 #[.agg #[.int .i64 z, .int .i64 t, .int .i64 r], .int .i64 g] w fun e w' => e = .returned (.bool true) ∧ Below w.heap.size w w' := by
  go_enter Try.func7, Try.ntmps7
  go_wp2_with (go_at_call 10; refine (toTooth_any _ _ _ _).mono ?_; rintro e w1 ⟨rfl, hb1⟩; have hk1 := (Blk.new w 23 #[.int .i64 z, .int .i64 t, .int .i64 r]).below hb1 (by simp))
  go_wp2_with (go_at_call 19; refine (sClosestTone _ _ _ _ _).mono ?_; rintro e w2 ⟨c, rfl, hc, hb2⟩; have hk2 := hk1.below hb2 hk1.lt; obtain ⟨k0, k1, k2⟩ := hk2.c3)
  go_wp2_with (go_at_call 10; refine (toTooth_any _ _ _ _).mono ?_; rintro e w3 ⟨rfl, hb3⟩)
  go_wp2_with (go_at_call 20; refine (iClosestTone _ _ _ _ _).mono ?_; rintro e w4 ⟨c', rfl, hc', hb4⟩; obtain rfl := hc.one hc')
  go_ret
  have hl := hk1.lt
  have z1 := hb2.size
  have z2 := hb3.size
  have b1 : Below w.heap.size w w1 := ((Below.refl _ _).alloc (Nat.le_refl _) _).trans (hb1.mono (by simp))
  have b2 := b1.trans (hb2.mono (by omega))
  have b3 := b2.trans (hb3.mono (by omega))
  exact ⟨rfl, b3.trans (hb4.mono (by omega))⟩

theorem fnExactStepsTo_walk (z t r : Int) (_hz : I64 z) (_ht : I64 t) (_hr : I64 r) (g : Int) (_hg : I64 g) (w : World) :
    Calls Try.prog 6 #[.agg #[.int .i64 z, .int .i64 t, .int .i64 r], .int .i64 g] w fun e w' => e = .returned (.bool true) ∧ Below w.heap.size w w' := by
  go_enter Try.func6, Try.ntmps6
  go_wp2_with (go_at_call 10; refine (toTooth_any _ _ _ _).mono ?_; rintro e w1 ⟨rfl, hb1⟩; have hk1 := (Blk.new w 23 #[.int .i64 z, .int .i64 t, .int .i64 r]).below hb1 (by simp))
  go_wp2_with (go_at_call 17; refine (sStepsTo _ _ _ _ _).mono ?_; rintro e w2 ⟨a, b, ok, rfl, hc, hb2⟩; have hk2 := hk1.below hb2 hk1.lt; obtain ⟨k0, k1, k2⟩ := hk2.c3)
  go_wp2_with (go_at_call 10; refine (toTooth_any _ _ _ _).mono ?_; rintro e w3 ⟨rfl, hb3⟩)
  go_wp2_with (go_at_call 18; refine (iStepsTo _ _ _ _ _).mono ?_; rintro e w4 ⟨a', b', ok', rfl, hc', hb4⟩; obtain ⟨rfl, rfl, rfl⟩ := hc.one hc')
  go_ret
  have hl := hk1.lt
  have z1 := hb2.size
  have z2 := hb3.size
  have b1 : Below w.heap.size w w1 := ((Below.refl _ _).alloc (Nat.le_refl _) _).trans (hb1.mono (by simp))
  have b2 := b1.trans (hb2.mono (by omega))
  have b3 := b2.trans (hb3.mono (by omega))
  exact ⟨rfl, b3.trans (hb4.mono (by omega))⟩

theorem fnExactFileTip_walk (z t r : Int) (_hz : I64 z) (_ht : I64 t) (_hr : I64 r) (w : World) :
    Calls Try.prog 4 #[.agg #[.int .i64 z, .int .i64 t, .int .i64 r]] w fun e w' => e = .returned (.bool true) ∧ Below w.heap.size w w' := by
  have s1 := sFileTip z t r
  have i1 := iFileTip z t r
  unfold tup4 at s1 i1
  obtain ⟨x, hx⟩ : ∃ x, x = (TipT z t r).1 := ⟨_, rfl⟩
  obtain ⟨y, hy⟩ : ∃ y, y = (TipT z t r).2.1 := ⟨_, rfl⟩
  obtain ⟨v, hv⟩ : ∃ v, v = (TipT z t r).2.2.1 := ⟨_, rfl⟩
  obtain ⟨o, ho⟩ : ∃ o, o = (TipT z t r).2.2.2 := ⟨_, rfl⟩
  rw [← hx, ← hy, ← hv, ← ho] at s1 i1
  have S := Lib.hid s1
  have I := Lib.hid i1
  clear s1 i1 hx hy hv ho
  go_enter Try.func4, Try.ntmps4
  go_wp2_with (go_at_call 10; refine (toTooth_any _ _ _ _).mono ?_; rintro e w1 ⟨rfl, hb1⟩; have hk1 := (Blk.new w 23 #[.int .i64 z, .int .i64 t, .int .i64 r]).below hb1 (by simp))
  go_wp2_with (go_at_call 12; refine (S.out _).mono ?_; rintro e w2 ⟨rfl, hb2⟩; have hk2 := hk1.below hb2 hk1.lt; obtain ⟨k0, k1, k2⟩ := hk2.c3; have hl2 := hk2.lt)
  go_wp2_with (go_at_call 10; refine (toTooth_any _ _ _ _).mono ?_; rintro e w3 ⟨rfl, hb3⟩; have hr3 := (Blk.new w2 25 #[.int .i64 x, .int .i64 y, .int .i64 v]).below hb3 (by simp))
  go_wp2_with (go_at_call 13; refine (I.out _).mono ?_; rintro e w4 ⟨rfl, hb4⟩; have hr4 := hr3.below hb4 hr3.lt; obtain ⟨r0, r1, r2⟩ := hr4.c3; have hl4 := hr4.lt)
  go_wp2_with (go_at_call 14; refine (eqTooth_same _ _ _ _).mono ?_; rintro e w5 ⟨rfl, hb5⟩)
  go_ret
  have z1 := hb2.size
  have z2 := hb3.size
  have z3 := hb4.size
  simp at z2
  have b1 : Below w.heap.size w w1 := ((Below.refl _ _).alloc (Nat.le_refl _) _).trans (hb1.mono (by simp))
  have b2 := b1.trans (hb2.mono (by have := hk1.lt; omega))
  have b3 := (b2.alloc (by omega) _).trans (hb3.mono (by simp; omega))
  have b4 := b3.trans (hb4.mono (by omega))
  exact ⟨rfl, (b4.alloc (by omega) _).trans (hb5.mono (by simp; omega))⟩

theorem fnExactFileRoot_walk (z t r : Int) (_hz : I64 z) (_ht : I64 t) (_hr : I64 r) (w : World) :
    Calls Try.prog 5 #[.agg #[.int .i64 z, .int .i64 t, .int .i64 r]] w fun e w' => e = .returned (.bool true) ∧ Below w.heap.size w w' := by
  have s1 := sFileRoot z t r
  have i1 := iFileRoot z t r
  unfold tup4 at s1 i1
  obtain ⟨x, hx⟩ : ∃ x, x = (RootT z t r).1 := ⟨_, rfl⟩
  obtain ⟨y, hy⟩ : ∃ y, y = (RootT z t r).2.1 := ⟨_, rfl⟩
  obtain ⟨v, hv⟩ : ∃ v, v = (RootT z t r).2.2.1 := ⟨_, rfl⟩
  obtain ⟨o, ho⟩ : ∃ o, o = (RootT z t r).2.2.2 := ⟨_, rfl⟩
  rw [← hx, ← hy, ← hv, ← ho] at s1 i1
  have S := Lib.hid s1
  have I := Lib.hid i1
  clear s1 i1 hx hy hv ho
  go_enter Try.func5, Try.ntmps5
  go_wp2_with (go_at_call 10; refine (toTooth_any _ _ _ _).mono ?_; rintro e w1 ⟨rfl, hb1⟩; have hk1 := (Blk.new w 23 #[.int .i64 z, .int .i64 t, .int .i64 r]).below hb1 (by simp))
  go_wp2_with (go_at_call 15; refine (S.out _).mono ?_; rintro e w2 ⟨rfl, hb2⟩; have hk2 := hk1.below hb2 hk1.lt; obtain ⟨k0, k1, k2⟩ := hk2.c3; have hl2 := hk2.lt)
  go_wp2_with (go_at_call 10; refine (toTooth_any _ _ _ _).mono ?_; rintro e w3 ⟨rfl, hb3⟩; have hr3 := (Blk.new w2 25 #[.int .i64 x, .int .i64 y, .int .i64 v]).below hb3 (by simp))
  go_wp2_with (go_at_call 16; refine (I.out _).mono ?_; rintro e w4 ⟨rfl, hb4⟩; have hr4 := hr3.below hb4 hr3.lt; obtain ⟨r0, r1, r2⟩ := hr4.c3; have hl4 := hr4.lt)
  go_wp2_with (go_at_call 14; refine (eqTooth_same _ _ _ _).mono ?_; rintro e w5 ⟨rfl, hb5⟩)
  go_ret
  have z1 := hb2.size
  have z2 := hb3.size
  have z3 := hb4.size
  simp at z2
  have b1 : Below w.heap.size w w1 := ((Below.refl _ _).alloc (Nat.le_refl _) _).trans (hb1.mono (by simp))
  have b2 := b1.trans (hb2.mono (by have := hk1.lt; omega))
  have b3 := (b2.alloc (by omega) _).trans (hb3.mono (by simp; omega))
  have b4 := b3.trans (hb4.mono (by omega))
  exact ⟨rfl, (b4.alloc (by omega) _).trans (hb5.mono (by simp; omega))⟩

end Go.Proofs.Ytbgoednppihboaa
