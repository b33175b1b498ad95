/-
  The walks of the governor's functions of impl and of spec: what each returns, for all arguments; they leave the world alone.
-/
import Derived.Test.YtcnnkdpfigckoaaWithin
import Derived.Test.YtcnnkdpfigckoaaGovMath
namespace Go.Proofs.Ytcnnkdpfigckoaa
open Go.RowKit

theorem iNextSpeed (v f b : Int) (w : World) :
    Calls Try.prog 34 #[.int .i64 v, .int .i64 f, .int .i64 b] w fun e w' => e = .returned (.int .i64 (NextZ v f b)) ∧ w = w' := by
  by_cases h : govB v f b = true
  · have hb := govB_true h
    have e : NextZ v f b = v + f - b * v / 100 := by unfold NextZ nxt; rw [if_pos h]
    rw [e]
    obtain ⟨m1, m2, m3⟩ := mul_bd hb.2.2.2.2.1 hb.2.2.2.2.2 hb.1 hb.2.1
    have h1 := inB_true (n := v) (lo := 0) (hi := 100000) (by omega)
    have h2 := inB_true (n := f) (lo := 0) (hi := 10000) (by omega)
    have h3 := inB_true (n := b) (lo := 0) (hi := 100) (by omega)
    clear h e
    go_enter Try.func34, Try.ntmps34
    go_wp2_with (go_at_call 46; refine (within_any _ _ _ _).mono ?_; rintro e w' ⟨rfl, rfl⟩)
    all_goals
      go_ret
      exact ⟨ret_int (by omega), rfl⟩
  · have e : NextZ v f b = -1 := by unfold NextZ; rw [if_neg h]
    rw [e]
    unfold govB at h
    cases h1 : inB v 0 100000 <;> cases h2 : inB f 0 10000 <;> cases h3 : inB b 0 100
    case neg.true.true.true => simp [h1, h2, h3] at h
    all_goals
      clear h e
      go_enter Try.func34, Try.ntmps34
      go_wp2_with (go_at_call 46; refine (within_any _ _ _ _).mono ?_; rintro e w' ⟨rfl, rfl⟩)
      go_ret
      exact ⟨rfl, rfl⟩

theorem sl13Ok (v f b : Int) (w : World) :
    Calls Try.prog 49 #[.int .i64 v, .int .i64 f, .int .i64 b] w fun e w' => e = .returned (.bool (govB v f b)) ∧ w = w' := by
  unfold govB
  go_enter Try.func49, Try.ntmps49
  cases h1 : inB v 0 100000 <;> cases h2 : inB f 0 10000 <;> cases h3 : inB b 0 100
  all_goals
    go_wp2_with (go_at_call 45; refine (l01In_any _ _ _ _).mono ?_; rintro e w' ⟨rfl, rfl⟩)
    go_ret
    exact ⟨rfl, rfl⟩

theorem sNextSpeed (v f b : Int) (w : World) :
    Calls Try.prog 33 #[.int .i64 v, .int .i64 f, .int .i64 b] w fun e w' => e = .returned (.int .i64 (NextZ v f b)) ∧ w = w' := by
  by_cases h : govB v f b = true
  · have hb := govB_true h
    have e : NextZ v f b = v + f - b * v / 100 := by unfold NextZ nxt; rw [if_pos h]
    rw [e]
    obtain ⟨m1, m2, m3⟩ := mul_bd hb.2.2.2.2.1 hb.2.2.2.2.2 hb.1 hb.2.1
    clear e
    go_enter Try.func33, Try.ntmps33
    go_wp2_with (go_at_call 49; refine (sl13Ok _ _ _ _).mono ?_; rintro e w' ⟨rfl, rfl⟩)
    all_goals
      go_ret
      exact ⟨ret_int (by omega), rfl⟩
  · have e : NextZ v f b = -1 := by unfold NextZ; rw [if_neg h]
    rw [e]
    have h' : govB v f b = false := by simpa using h
    clear h e
    go_enter Try.func33, Try.ntmps33
    go_wp2_with (go_at_call 49; refine (sl13Ok _ _ _ _).mono ?_; rintro e w' ⟨rfl, rfl⟩)
    go_ret
    exact ⟨rfl, rfl⟩

/-- what a round of SpeedAfter wants to know of the speed x behind i steps -/
theorem after_round {f b x : Int} (hf0 : 0 ≤ f) (hf : f ≤ 10000) (hb0 : 0 ≤ b) (hb : b ≤ 100) (hx0 : 0 ≤ x) (hx : x ≤ 100000) :
    ∃ y, NextZ x f b = y ∧ 0 ≤ y ∧ y ≤ 110000 ∧ (y ≤ 100000 → adv f b x = y) ∧ (100000 < y → adv f b x = 100000) ∧ (y = x ↔ b * x / 100 = f) := by
  have hg : govB x f b = true := by simp [govB, inB]; omega
  have hy := nxt_bd hb0 hb hx0 hx hf0 hf
  refine ⟨nxt x f b, by unfold NextZ; rw [if_pos hg], hy.1, hy.2.2.1, fun h => by unfold adv; omega, fun h => by unfold adv; omega, nxt_fix⟩

theorem iSpeedAfter (v f b n : Int) (w : World) :
    Calls Try.prog 36 #[.int .i64 v, .int .i64 f, .int .i64 b, .int .i64 n] w fun e w' => e = .returned (.int .i64 (AfterZ v f b n)) ∧ w = w' := by
  cases h : govB v f b
  · have e : AfterZ v f b n = -1 := by simp [AfterZ, h]
    have hn : NextZ v f b = -1 := by simp [NextZ, h]
    rw [e]
    have HN := Lib.hid hn
    clear e hn
    go_enter Try.func36, Try.ntmps36
    go_wp2_with (first | (go_at_call 34; refine (iNextSpeed _ _ _ _).mono ?_; rintro e w' ⟨rfl, rfl⟩; rw [HN.out]) | (go_at_call 49; refine (sl13Ok _ _ _ _).mono ?_; rintro e w' ⟨rfl, rfl⟩))
    go_ret
    exact ⟨rfl, rfl⟩
  have hg := govB_true h
  have hn : NextZ v f b = nxt v f b := by simp [NextZ, h]
  have hy := nxt_bd hg.2.2.2.2.1 hg.2.2.2.2.2 hg.1 hg.2.1 hg.2.2.1 hg.2.2.2.1
  have HN := Lib.hid hn
  clear hn
  cases h2 : inB n 0 1000
  · have e : AfterZ v f b n = -1 := by simp [AfterZ, h2]
    rw [e]
    clear e
    go_enter Try.func36, Try.ntmps36
    go_wp2_with (first | (go_at_call 34; refine (iNextSpeed _ _ _ _).mono ?_; rintro e w' ⟨rfl, rfl⟩; rw [HN.out]) | (go_at_call 49; refine (sl13Ok _ _ _ _).mono ?_; rintro e w' ⟨rfl, rfl⟩) | (go_at_call 46; refine (within_any _ _ _ _).mono ?_; rintro e w' ⟨rfl, rfl⟩))
    go_ret
    exact ⟨rfl, rfl⟩
  have hN := inB_iff.1 h2
  have e : AfterZ v f b n = advN f b n.toNat v := by simp [AfterZ, h, h2]
  rw [e]
  clear e
  obtain ⟨N, rfl⟩ := Int.eq_ofNat_of_zero_le hN.1
  rw [Int.toNat_natCast]
  go_enter Try.func36, Try.ntmps36
  go_wp2_with (first | (go_at_call 34; refine (iNextSpeed _ _ _ _).mono ?_; rintro e w' ⟨rfl, rfl⟩; rw [HN.out]) | (go_at_call 49; refine (sl13Ok _ _ _ _).mono ?_; rintro e w' ⟨rfl, rfl⟩) | (go_at_call 46; refine (within_any _ _ _ _).mono ?_; rintro e w' ⟨rfl, rfl⟩))
  go_loop [0, 9] (fun x i => ∃ k : Nat, k ≤ N ∧ i = .int .i64 k ∧ x = .int .i64 (advN f b k v)) (fun _ i => N - (intOf i).toNat)
  case atStart => exact ⟨0, Nat.zero_le _, rfl, rfl⟩
  case round =>
    obtain ⟨k, hk, rfl, rfl⟩ := hrel
    have hx := advN_bd hg.2.2.2.2.1 hg.2.2.2.2.2 hg.2.2.1 hg.2.2.2.1 k v hg.1 hg.2.1
    have hs := advN_succ f b k v
    by_cases hlt : k < N
    · generalize advN f b k v = x at *
      obtain ⟨y, ey, y0, y1, ya, yb, _⟩ := after_round hg.2.2.1 hg.2.2.2.1 hg.2.2.2.2.1 hg.2.2.2.2.2 hx.1 hx.2
      have HS := Lib.hid hs
      have EY := Lib.hid ey
      have YA := Lib.hid ya
      have YB := Lib.hid yb
      clear hs ey ya yb
      by_cases hyl : y ≤ 100000
      all_goals
        go_wp2_with (go_at_call 34; refine (iNextSpeed _ _ _ _).mono ?_; rintro e w' ⟨rfl, rfl⟩; rw [EY.out])
        go_round
        case rel => exact ⟨k + 1, by omega, by go_num, by rw [HS.out]; (first | rw [YA.out (by omega)] | rw [YB.out (by omega)]); congr 1; split <;> omega⟩
        case measure => simp [intOf]; omega
    · obtain rfl : k = N := by omega
      have HS := Lib.hid hs
      clear hs
      go_wp2
      go_ret
      exact ⟨rfl, rfl⟩
theorem sSpeedAfter (v f b n : Int) (w : World) :
    Calls Try.prog 35 #[.int .i64 v, .int .i64 f, .int .i64 b, .int .i64 n] w fun e w' => e = .returned (.int .i64 (AfterZ v f b n)) ∧ w = w' := by
  cases h : govB v f b
  · have e : AfterZ v f b n = -1 := by simp [AfterZ, h]
    have hn : NextZ v f b = -1 := by simp [NextZ, h]
    rw [e]
    have HN := Lib.hid hn
    clear e hn
    go_enter Try.func35, Try.ntmps35
    go_wp2_with (first | (go_at_call 34; refine (iNextSpeed _ _ _ _).mono ?_; rintro e w' ⟨rfl, rfl⟩; rw [HN.out]) | (go_at_call 49; refine (sl13Ok _ _ _ _).mono ?_; rintro e w' ⟨rfl, rfl⟩))
    go_ret
    exact ⟨rfl, rfl⟩
  have hg := govB_true h
  have hn : NextZ v f b = nxt v f b := by simp [NextZ, h]
  have hy := nxt_bd hg.2.2.2.2.1 hg.2.2.2.2.2 hg.1 hg.2.1 hg.2.2.1 hg.2.2.2.1
  have HN := Lib.hid hn
  clear hn
  cases h2 : inB n 0 1000
  · have e : AfterZ v f b n = -1 := by simp [AfterZ, h2]
    rw [e]
    clear e
    go_enter Try.func35, Try.ntmps35
    go_wp2_with (first | (go_at_call 34; refine (iNextSpeed _ _ _ _).mono ?_; rintro e w' ⟨rfl, rfl⟩; rw [HN.out]) | (go_at_call 49; refine (sl13Ok _ _ _ _).mono ?_; rintro e w' ⟨rfl, rfl⟩) | (go_at_call 45; refine (l01In_any _ _ _ _).mono ?_; rintro e w' ⟨rfl, rfl⟩))
    go_ret
    exact ⟨rfl, rfl⟩
  have hN := inB_iff.1 h2
  have e : AfterZ v f b n = advN f b n.toNat v := by simp [AfterZ, h, h2]
  rw [e]
  clear e
  obtain ⟨N, rfl⟩ := Int.eq_ofNat_of_zero_le hN.1
  rw [Int.toNat_natCast]
  go_enter Try.func35, Try.ntmps35
  go_wp2_with (first | (go_at_call 34; refine (iNextSpeed _ _ _ _).mono ?_; rintro e w' ⟨rfl, rfl⟩; rw [HN.out]) | (go_at_call 49; refine (sl13Ok _ _ _ _).mono ?_; rintro e w' ⟨rfl, rfl⟩) | (go_at_call 45; refine (l01In_any _ _ _ _).mono ?_; rintro e w' ⟨rfl, rfl⟩))
  go_loop [0, 9] (fun x i => ∃ k : Nat, k ≤ N ∧ i = .int .i64 k ∧ x = .int .i64 (advN f b k v)) (fun _ i => N - (intOf i).toNat)
  case atStart => exact ⟨0, Nat.zero_le _, rfl, rfl⟩
  case round =>
    obtain ⟨k, hk, rfl, rfl⟩ := hrel
    have hx := advN_bd hg.2.2.2.2.1 hg.2.2.2.2.2 hg.2.2.1 hg.2.2.2.1 k v hg.1 hg.2.1
    have hs := advN_succ f b k v
    by_cases hlt : k < N
    · generalize advN f b k v = x at *
      obtain ⟨y, ey, y0, y1, ya, yb, _⟩ := after_round hg.2.2.1 hg.2.2.2.1 hg.2.2.2.2.1 hg.2.2.2.2.2 hx.1 hx.2
      have HS := Lib.hid hs
      have EY := Lib.hid ey
      have YA := Lib.hid ya
      have YB := Lib.hid yb
      clear hs ey ya yb
      by_cases hyl : y ≤ 100000
      all_goals
        go_wp2_with (go_at_call 33; refine (sNextSpeed _ _ _ _).mono ?_; rintro e w' ⟨rfl, rfl⟩; rw [EY.out])
        go_round
        case rel => exact ⟨k + 1, by omega, by go_num, by rw [HS.out]; (first | rw [YA.out (by omega)] | rw [YB.out (by omega)]); congr 1; split <;> omega⟩
        case measure => simp [intOf]; omega
    · obtain rfl : k = N := by omega
      have HS := Lib.hid hs
      clear hs
      go_wp2
      go_ret
      exact ⟨rfl, rfl⟩

theorem iSteadySpeed (f b : Int) (w : World) :
    Calls Try.prog 38 #[.int .i64 f, .int .i64 b] w (RetInt (SteadyOf f b) w) := by
  cases h1 : inB f 0 10000
  · have e : SteadyOf f b (-1) := by unfold SteadyOf; rw [if_neg (by simp [h1])]
    go_enter Try.func38, Try.ntmps38
    go_wp2_with (go_at_call 46; refine (within_any _ _ _ _).mono ?_; rintro e w' ⟨rfl, rfl⟩)
    go_ret
    exact ⟨_, rfl, e, rfl⟩
  cases h2 : inB b 1 100
  · have e : SteadyOf f b (-1) := by unfold SteadyOf; rw [if_neg (by simp [h2])]
    go_enter Try.func38, Try.ntmps38
    go_wp2_with (go_at_call 46; refine (within_any _ _ _ _).mono ?_; rintro e w' ⟨rfl, rfl⟩)
    go_ret
    exact ⟨_, rfl, e, rfl⟩
  have e : ∀ r, SteadyIs f b r → SteadyOf f b r := fun r hr => by unfold SteadyOf; rw [if_pos ⟨h1, h2⟩]; exact hr
  have E := Lib.hid e
  clear e
  have hf := inB_iff.1 h1
  have hb := inB_iff.1 h2
  go_enter Try.func38, Try.ntmps38
  go_wp2_with (go_at_call 46; refine (within_any _ _ _ _).mono ?_; rintro e w' ⟨rfl, rfl⟩)
  go_loop [5] (fun s => ∃ k : Nat, k ≤ 100001 ∧ s = .int .i64 k ∧ Hid (∀ t : Int, 0 ≤ t → t < k → b * t / 100 ≠ f)) (fun s => 100001 - (intOf s).toNat)
  case atStart => exact ⟨0, by omega, rfl, fun t h0 h1 => by omega⟩
  case round =>
    obtain ⟨k, hk, rfl, hall⟩ := hrel
    by_cases hlt : k ≤ 100000
    · obtain ⟨y, ey, y0, y1, _, _, yc⟩ := after_round (x := (k : Int)) hf.1 hf.2 (by omega) hb.2 (by omega) (by omega)
      have EY := Lib.hid ey
      have YC := Lib.hid yc
      clear ey yc
      by_cases hy : y = k
      · have HY := Lib.hid hy
        clear hy
        go_wp2_with (go_at_call 34; refine (iNextSpeed _ _ _ _).mono ?_; rintro e w' ⟨rfl, rfl⟩; rw [EY.out, HY.out])
        go_ret
        exact ⟨_, rfl, E.out _ (.inl ⟨by omega, by omega, YC.out.1 HY.out, hall.out⟩), rfl⟩
      · go_wp2_with (go_at_call 34; refine (iNextSpeed _ _ _ _).mono ?_; rintro e w' ⟨rfl, rfl⟩; rw [EY.out])
        go_round
        case rel => exact ⟨k + 1, by omega, by go_num, fun t h0 h1 => by
          by_cases ht : t = k
          · subst ht; exact fun hh => hy (YC.out.2 hh)
          · exact hall.out t h0 (by omega)⟩
        case measure => simp [intOf]; omega
    · go_wp2
      go_ret
      exact ⟨_, rfl, E.out _ (.inr ⟨rfl, fun s h0 h1 => hall.out s h0 (by omega)⟩), rfl⟩

theorem sSteadySpeed (f b : Int) (w : World) :
    Calls Try.prog 37 #[.int .i64 f, .int .i64 b] w (RetInt (SteadyOf f b) w) := by
  cases h1 : inB f 0 10000
  · have e : SteadyOf f b (-1) := by unfold SteadyOf; rw [if_neg (by simp [h1])]
    go_enter Try.func37, Try.ntmps37
    go_wp2_with (go_at_call 45; refine (l01In_any _ _ _ _).mono ?_; rintro e w' ⟨rfl, rfl⟩)
    go_ret
    exact ⟨_, rfl, e, rfl⟩
  cases h2 : inB b 1 100
  · have e : SteadyOf f b (-1) := by unfold SteadyOf; rw [if_neg (by simp [h2])]
    go_enter Try.func37, Try.ntmps37
    go_wp2_with (go_at_call 45; refine (l01In_any _ _ _ _).mono ?_; rintro e w' ⟨rfl, rfl⟩)
    go_ret
    exact ⟨_, rfl, e, rfl⟩
  have e : ∀ r, SteadyIs f b r → SteadyOf f b r := fun r hr => by unfold SteadyOf; rw [if_pos ⟨h1, h2⟩]; exact hr
  have E := Lib.hid e
  clear e
  have hf := inB_iff.1 h1
  have hb := inB_iff.1 h2
  go_enter Try.func37, Try.ntmps37
  go_wp2_with (go_at_call 45; refine (l01In_any _ _ _ _).mono ?_; rintro e w' ⟨rfl, rfl⟩)
  go_loop [5] (fun s => ∃ k : Nat, k ≤ 100001 ∧ s = .int .i64 k ∧ Hid (∀ t : Int, 0 ≤ t → t < k → b * t / 100 ≠ f)) (fun s => 100001 - (intOf s).toNat)
  case atStart => exact ⟨0, by omega, rfl, fun t h0 h1 => by omega⟩
  case round =>
    obtain ⟨k, hk, rfl, hall⟩ := hrel
    by_cases hlt : k ≤ 100000
    · have hm := mul_bd (b := b) (v := (k : Int)) (by omega) hb.2 (by omega) (by omega)
      rcases Int.lt_trichotomy (b * (k : Int) / 100) f with hy | hy | hy
      · go_wp2
        go_round
        case rel => exact ⟨k + 1, by omega, by go_num, fun t h0 h1 => by
          by_cases ht : t = k
          · subst ht; omega
          · exact hall.out t h0 (by omega)⟩
        case measure => simp [intOf]; omega
      · have hy1 := Int.le_of_eq hy
        have hy2 := Int.le_of_eq hy.symm
        have HY := Lib.hid hy
        clear hy
        go_wp2
        go_ret
        exact ⟨_, rfl, E.out _ (.inl ⟨by omega, by omega, HY.out, hall.out⟩), rfl⟩
      · go_wp2
        go_ret
        exact ⟨_, rfl, E.out _ (.inr ⟨rfl, fun s h0 h1 hh => by
          rcases Int.lt_or_le s k with hs | hs
          · exact hall.out s h0 hs hh
          · have := div_mono (b := b) (by omega) hs
            omega⟩), rfl⟩
    · go_wp2
      go_ret
      exact ⟨_, rfl, E.out _ (.inr ⟨rfl, fun s h0 h1 => hall.out s h0 (by omega)⟩), rfl⟩

theorem iStepsUntilSteady (v f b : Int) (w : World) :
    Calls Try.prog 40 #[.int .i64 v, .int .i64 f, .int .i64 b] w (RetInt (StepsOfGov v f b) w) := by
  cases h : govB v f b
  · have e : StepsOfGov v f b (-1) := by unfold StepsOfGov; rw [if_neg (by simp [h])]
    have hn : NextZ v f b = -1 := by simp [NextZ, h]
    have HN := Lib.hid hn
    clear hn
    go_enter Try.func40, Try.ntmps40
    go_wp2_with (first | (go_at_call 34; refine (iNextSpeed _ _ _ _).mono ?_; rintro e w' ⟨rfl, rfl⟩; rw [HN.out]) | (go_at_call 49; refine (sl13Ok _ _ _ _).mono ?_; rintro e w' ⟨rfl, rfl⟩))
    go_ret
    exact ⟨_, rfl, e, rfl⟩
  have hg := govB_true h
  have hn : NextZ v f b = nxt v f b := by simp [NextZ, h]
  have hy := nxt_bd hg.2.2.2.2.1 hg.2.2.2.2.2 hg.1 hg.2.1 hg.2.2.1 hg.2.2.2.1
  have HN := Lib.hid hn
  clear hn
  cases h2 : inB b 1 100
  · have e : StepsOfGov v f b (-1) := by unfold StepsOfGov; rw [if_neg (by simp [h2])]
    have hb0 := inB_not h2
    go_enter Try.func40, Try.ntmps40
    go_wp2_with (first | (go_at_call 34; refine (iNextSpeed _ _ _ _).mono ?_; rintro e w' ⟨rfl, rfl⟩; rw [HN.out]) | (go_at_call 49; refine (sl13Ok _ _ _ _).mono ?_; rintro e w' ⟨rfl, rfl⟩) | (go_at_call 46; refine (within_any _ _ _ _).mono ?_; rintro e w' ⟨rfl, rfl⟩))
    go_ret
    exact ⟨_, rfl, e, rfl⟩
  have e : ∀ r, StepsIs v f b r → StepsOfGov v f b r := fun r hr => by unfold StepsOfGov; rw [if_pos ⟨h, h2⟩]; exact hr
  have E := Lib.hid e
  clear e
  have hbb := inB_iff.1 h2
  go_enter Try.func40, Try.ntmps40
  go_wp2_with (first | (go_at_call 34; refine (iNextSpeed _ _ _ _).mono ?_; rintro e w' ⟨rfl, rfl⟩; rw [HN.out]) | (go_at_call 49; refine (sl13Ok _ _ _ _).mono ?_; rintro e w' ⟨rfl, rfl⟩) | (go_at_call 46; refine (within_any _ _ _ _).mono ?_; rintro e w' ⟨rfl, rfl⟩))
  clear hy HN
  go_loop [0, 7] (fun x i => ∃ k : Nat, k ≤ 1001 ∧ i = .int .i64 k ∧ x = .int .i64 (advN f b k v) ∧ Hid (∀ j, j < k → nxt (advN f b j v) f b ≠ advN f b j v)) (fun _ i => 1001 - (intOf i).toNat)
  case atStart => exact ⟨0, by omega, rfl, rfl, fun j hj => by omega⟩
  case round =>
    obtain ⟨k, hk, rfl, rfl, hall⟩ := hrel
    have hx := advN_bd hg.2.2.2.2.1 hg.2.2.2.2.2 hg.2.2.1 hg.2.2.2.1 k v hg.1 hg.2.1
    have hs := advN_succ f b k v
    by_cases hlt : k ≤ 1000
    · obtain ⟨x, hxe⟩ : ∃ x, x = advN f b k v := ⟨_, rfl⟩
      rw [← hxe] at hx hs ⊢
      obtain ⟨y, ey, y0, y1, ya, yb, yc⟩ := after_round hg.2.2.1 hg.2.2.2.1 hg.2.2.2.2.1 hg.2.2.2.2.2 hx.1 hx.2
      have HS := Lib.hid hs
      have EY := Lib.hid ey
      have YA := Lib.hid ya
      have YB := Lib.hid yb
      have YC := Lib.hid yc
      have HX := Lib.hid hxe
      clear hs ey ya yb yc hxe
      by_cases hy : y = x
      · have HY := Lib.hid hy
        clear hy
        go_wp2_with (go_at_call 34; refine (iNextSpeed _ _ _ _).mono ?_; rintro e w' ⟨rfl, rfl⟩; rw [EY.out, HY.out])
        go_ret
        exact ⟨_, rfl, E.out _ (.inl ⟨k, rfl, hlt, by rw [← HX.out]; exact nxt_fix.2 (YC.out.1 HY.out), hall.out⟩), rfl⟩
      · by_cases hyl : y ≤ 100000
        all_goals
          go_wp2_with (go_at_call 34; refine (iNextSpeed _ _ _ _).mono ?_; rintro e w' ⟨rfl, rfl⟩; rw [EY.out])
          go_round
          case rel => exact ⟨k + 1, by omega, by go_num, by rw [HS.out]; (first | rw [YA.out (by omega)] | rw [YB.out (by omega)]); congr 1; split <;> omega, fun j hj => by
            by_cases hjk : j = k
            · subst hjk; rw [← HX.out]; exact fun hh => hy (YC.out.2 (nxt_fix.1 hh))
            · exact hall.out j (by omega)⟩
          case measure => simp [intOf]; omega
    · have HS := Lib.hid hs
      clear hs
      go_wp2
      go_ret
      exact ⟨_, rfl, E.out _ (.inr ⟨rfl, fun j hj => hall.out j (by omega)⟩), rfl⟩
theorem sStepsUntilSteady (v f b : Int) (w : World) :
    Calls Try.prog 39 #[.int .i64 v, .int .i64 f, .int .i64 b] w (RetInt (StepsOfGov v f b) w) := by
  cases h : govB v f b
  · have e : StepsOfGov v f b (-1) := by unfold StepsOfGov; rw [if_neg (by simp [h])]
    have hn : NextZ v f b = -1 := by simp [NextZ, h]
    have HN := Lib.hid hn
    clear hn
    go_enter Try.func39, Try.ntmps39
    go_wp2_with (first | (go_at_call 34; refine (iNextSpeed _ _ _ _).mono ?_; rintro e w' ⟨rfl, rfl⟩; rw [HN.out]) | (go_at_call 49; refine (sl13Ok _ _ _ _).mono ?_; rintro e w' ⟨rfl, rfl⟩))
    go_ret
    exact ⟨_, rfl, e, rfl⟩
  have hg := govB_true h
  have hn : NextZ v f b = nxt v f b := by simp [NextZ, h]
  have hy := nxt_bd hg.2.2.2.2.1 hg.2.2.2.2.2 hg.1 hg.2.1 hg.2.2.1 hg.2.2.2.1
  have HN := Lib.hid hn
  clear hn
  cases h2 : inB b 1 100
  · have e : StepsOfGov v f b (-1) := by unfold StepsOfGov; rw [if_neg (by simp [h2])]
    have hb0 := inB_not h2
    go_enter Try.func39, Try.ntmps39
    go_wp2_with (first | (go_at_call 34; refine (iNextSpeed _ _ _ _).mono ?_; rintro e w' ⟨rfl, rfl⟩; rw [HN.out]) | (go_at_call 49; refine (sl13Ok _ _ _ _).mono ?_; rintro e w' ⟨rfl, rfl⟩) | (go_at_call 45; refine (l01In_any _ _ _ _).mono ?_; rintro e w' ⟨rfl, rfl⟩))
    go_ret
    exact ⟨_, rfl, e, rfl⟩
  have e : ∀ r, StepsIs v f b r → StepsOfGov v f b r := fun r hr => by unfold StepsOfGov; rw [if_pos ⟨h, h2⟩]; exact hr
  have E := Lib.hid e
  clear e
  have hbb := inB_iff.1 h2
  go_enter Try.func39, Try.ntmps39
  go_wp2_with (first | (go_at_call 34; refine (iNextSpeed _ _ _ _).mono ?_; rintro e w' ⟨rfl, rfl⟩; rw [HN.out]) | (go_at_call 49; refine (sl13Ok _ _ _ _).mono ?_; rintro e w' ⟨rfl, rfl⟩) | (go_at_call 45; refine (l01In_any _ _ _ _).mono ?_; rintro e w' ⟨rfl, rfl⟩))
  clear hy HN
  go_loop [0, 7] (fun x i => ∃ k : Nat, k ≤ 1001 ∧ i = .int .i64 k ∧ x = .int .i64 (advN f b k v) ∧ Hid (∀ j, j < k → nxt (advN f b j v) f b ≠ advN f b j v)) (fun _ i => 1001 - (intOf i).toNat)
  case atStart => exact ⟨0, by omega, rfl, rfl, fun j hj => by omega⟩
  case round =>
    obtain ⟨k, hk, rfl, rfl, hall⟩ := hrel
    have hx := advN_bd hg.2.2.2.2.1 hg.2.2.2.2.2 hg.2.2.1 hg.2.2.2.1 k v hg.1 hg.2.1
    have hs := advN_succ f b k v
    by_cases hlt : k ≤ 1000
    · obtain ⟨x, hxe⟩ : ∃ x, x = advN f b k v := ⟨_, rfl⟩
      rw [← hxe] at hx hs ⊢
      obtain ⟨y, ey, y0, y1, ya, yb, yc⟩ := after_round hg.2.2.1 hg.2.2.2.1 hg.2.2.2.2.1 hg.2.2.2.2.2 hx.1 hx.2
      have HS := Lib.hid hs
      have EY := Lib.hid ey
      have YA := Lib.hid ya
      have YB := Lib.hid yb
      have YC := Lib.hid yc
      have HX := Lib.hid hxe
      clear hs ey ya yb yc hxe
      by_cases hy : y = x
      · have HY := Lib.hid hy
        clear hy
        go_wp2_with (go_at_call 33; refine (sNextSpeed _ _ _ _).mono ?_; rintro e w' ⟨rfl, rfl⟩; rw [EY.out, HY.out])
        go_ret
        exact ⟨_, rfl, E.out _ (.inl ⟨k, rfl, hlt, by rw [← HX.out]; exact nxt_fix.2 (YC.out.1 HY.out), hall.out⟩), rfl⟩
      · by_cases hyl : y ≤ 100000
        all_goals
          go_wp2_with (go_at_call 33; refine (sNextSpeed _ _ _ _).mono ?_; rintro e w' ⟨rfl, rfl⟩; rw [EY.out])
          go_round
          case rel => exact ⟨k + 1, by omega, by go_num, by rw [HS.out]; (first | rw [YA.out (by omega)] | rw [YB.out (by omega)]); congr 1; split <;> omega, fun j hj => by
            by_cases hjk : j = k
            · subst hjk; rw [← HX.out]; exact fun hh => hy (YC.out.2 (nxt_fix.1 hh))
            · exact hall.out j (by omega)⟩
          case measure => simp [intOf]; omega
    · have HS := Lib.hid hs
      clear hs
      go_wp2
      go_ret
      exact ⟨_, rfl, E.out _ (.inr ⟨rfl, fun j hj => hall.out j (by omega)⟩), rfl⟩
end Go.Proofs.Ytcnnkdpfigckoaa
