/-
  Combs: CombOk of impl and of spec; combOf, CombForAll of impl and of spec.
-/
import Derived.Test.YtjcaamnojinnmaaTeethAll
import Derived.Test.YtjcaamnojinnmaaApp
namespace Go.Proofs.Ytjcaamnojinnmaa
open Go.RowKit

/-- f 0 times 0, f 1 times 1, .. below p -/
def combL (f : Nat → Nat) : Nat → List Int
  | 0 => []
  | p + 1 => combL f p ++ List.replicate (f p) (p : Int)
theorem combL_len (f : Nat → Nat) : ∀ p, (combL f p).length = sm f p
  | 0 => rfl
  | p + 1 => by
    unfold combL sm
    rw [List.length_append, combL_len f p, List.length_replicate]
theorem combL_lt {f : Nat → Nat} {x : Int} : ∀ {p : Nat}, x ∈ combL f p → 0 ≤ x ∧ x < p
  | p + 1, h => by
    unfold combL at h
    rcases List.mem_append.1 h with h | h
    · have := combL_lt h
      omega
    · have := (List.mem_replicate.1 h).2
      omega
theorem combL_asc (f : Nat → Nat) : ∀ p, (combL f p).Pairwise (· ≤ ·)
  | 0 => List.Pairwise.nil
  | p + 1 => by
    unfold combL
    rw [List.pairwise_append]
    refine ⟨combL_asc f p, ?_, fun a ha b hb => ?_⟩
    · rw [List.pairwise_iff_getElem]
      intro i j hi hj _
      simp
    · have := combL_lt ha
      have := (List.mem_replicate.1 hb).2
      omega
theorem sm_s (f : Nat → Nat) (k : Nat) : sm f (k + 1) = sm f k + f k := rfl
theorem sm_more (f : Nat → Nat) {k : Nat} : ∀ {m : Nat}, k ≤ m → sm f k ≤ sm f m
  | 0, h => by
    obtain rfl : k = 0 := by omega
    exact Nat.le_refl _
  | m + 1, h => by
    by_cases e : k = m + 1
    · subst e
      exact Nat.le_refl _
    · have := sm_more f (k := k) (m := m) (by omega)
      rw [sm_s]
      omega
def stepK (xs : List Int) (k : Nat) : Bool := inB (xs.getD k 0) 0 60 && (k == 0 || decide (xs.getD (k - 1) 0 ≤ xs.getD k 0))
def combTo (xs : List Int) (k : Nat) : Bool := (List.range k).all (stepK xs)
/-- is a comb valid? -/
def combB (xs : List Int) : Bool := combTo xs xs.length && inB (xs.length : Int) 1 24
theorem combTo_step {xs : List Int} {k : Nat} (h : combTo xs k = true) (h1 : stepK xs k = true) : combTo xs (k + 1) = true := by
  unfold combTo at *
  rw [List.range_succ, List.all_append, h]; simp [h1]
theorem combTo_stop {xs : List Int} {k n : Nat} (hk : k < n) (h1 : stepK xs k = false) : combTo xs n = false := by
  rw [Bool.eq_false_iff]; intro ha
  have := List.all_eq_true.1 ha k (List.mem_range.2 hk)
  rw [h1] at this; cases this
theorem comb_all {xs : List Int} (hb : ∀ x ∈ xs, 0 ≤ x ∧ x ≤ 60) (hp : xs.Pairwise (· ≤ ·)) : combTo xs xs.length = true := by
  unfold combTo
  rw [List.all_eq_true]
  intro k hk
  have hk := List.mem_range.1 hk
  have hm := hb _ (List.getElem_mem hk)
  unfold stepK
  rw [getD_of (List.getElem?_eq_getElem hk), inB_true hm]
  by_cases h0 : k = 0
  · simp [h0]
  · obtain ⟨j, rfl⟩ : ∃ j, k = j + 1 := ⟨k - 1, by omega⟩
    have := List.pairwise_iff_getElem.1 hp j (j + 1) (by omega) hk (by omega)
    rw [show j + 1 - 1 = j by omega, getD_of (List.getElem?_eq_getElem (show j < xs.length by omega))]
    simp [this]
theorem comb_made (f : Nat → Nat) : combB (combL f 61) = inB (sm f 61 : Nat) 1 24 := by
  unfold combB
  rw [comb_all (fun x hx => by have := combL_lt hx; omega) (combL_asc f 61), Bool.true_and, combL_len]

set_option maxHeartbeats 400000 in
theorem iCombOk (A : Option Addr) (n c : Nat) (xs : List Int) (w : World) (B : Nat) (h : Rd w B 1 A n (xs.map (Value.int .i64))) (hn : n ≤ 1048576) :
    Calls Try.prog 57 #[.slice A n c] w fun e w' => e = .returned (.bool (combB xs)) ∧ w = w' := by
  have hlen : xs.length = n := by simpa using h.1
  have H := Lib.hid h
  have HL := Lib.hid hlen
  clear h hlen
  have hni : (n : Int) ≤ 1048576 := by omega
  obtain ⟨v, hv⟩ : ∃ v, v = combB xs := ⟨_, rfl⟩
  rw [← hv]
  unfold combB at hv
  rw [HL.out] at hv
  have HV := Lib.hid hv
  clear hv
  by_cases hl1 : (n : Int) < 1
  · have HF := Lib.hid (HV.out.trans (by rw [inB_false (by omega), Bool.and_false]))
    go_enter Try.func57, Try.ntmps57
    go_wp2
    go_ret
    exact ⟨by rw [HF.out]; rfl, rfl⟩
  by_cases hl2 : (24 : Int) < n
  · have HF := Lib.hid (HV.out.trans (by rw [inB_false (by omega), Bool.and_false]))
    go_enter Try.func57, Try.ntmps57
    go_wp2
    go_ret
    exact ⟨by rw [HF.out]; rfl, rfl⟩
  have HV2 := Lib.hid (HV.out.trans (by rw [inB_true (by omega), Bool.and_true]))
  clear HV
  go_enter Try.func57, Try.ntmps57
  go_wp2
  go_loop [15] (fun i => ∃ k : Nat, k ≤ n ∧ i = .int .i64 k ∧ Hid (combTo xs k = true)) (fun i => n - (intOf i).toNat)
  case atStart => exact ⟨0, Nat.zero_le _, rfl, rfl⟩
  case round =>
    obtain ⟨k, hk, rfl, hall⟩ := hrel
    by_cases hlt : (k : Int) < n
    · obtain ⟨b, o, rfl, hbB, hcell⟩ := H.out.cell (by omega)
      obtain ⟨x, hx⟩ : ∃ x, xs[k]? = some x := ⟨_, List.getElem?_eq_getElem (by rw [HL.out]; omega)⟩
      have c0 : w.cell? ⟨b, o + k, none⟩ = some (.int .i64 x) := hcell k _ (by simp [hx])
      have hst : stepK xs k = (inB x 0 60 && (k == 0 || decide (xs.getD (k - 1) 0 ≤ x))) := by unfold stepK; rw [getD_of hx]
      have HS := Lib.hid hst
      have HC := Lib.hid hcell
      clear hx hst hcell
      have IH := Lib.hid (fun w => within_any x 0 60 w)
      cases hs1 : inB x 0 60
      · rw [hs1] at IH
        have hf : v = false := HV2.out.trans (combTo_stop (k := k) (by omega) (HS.out.trans (by rw [hs1]; rfl)))
        have HF := Lib.hid hf
        clear hf
        go_wp2_with (go_at_call 37; refine (IH.out _).mono ?_; rintro e w' ⟨rfl, rfl⟩)
        go_ret
        exact ⟨by rw [HF.out]; rfl, rfl⟩
      rw [hs1] at IH
      by_cases hk0 : (0 : Int) < k
      case neg =>
        have hk1 : (k == 0) = true := by simp; omega
        have hst2 := combTo_step hall.out (HS.out.trans (by rw [hs1, hk1]; rfl))
        have HS2 := Lib.hid hst2
        clear hst2 hk1
        go_wp2_with (go_at_call 37; refine (IH.out _).mono ?_; rintro e w' ⟨rfl, rfl⟩)
        go_round
        case rel => exact ⟨k + 1, by omega, by go_num, HS2⟩
        case measure => simp [intOf]; omega
      obtain ⟨j, hj⟩ : ∃ j, k = j + 1 := ⟨k - 1, by omega⟩
      obtain ⟨y, hy⟩ : ∃ y, xs[j]? = some y := ⟨_, List.getElem?_eq_getElem (by rw [HL.out]; omega)⟩
      have d0 : w.cell? ⟨b, o + j, none⟩ = some (.int .i64 y) := HC.out j _ (by simp [hy])
      have hprev : decide (xs.getD (k - 1) 0 ≤ x) = decide (y ≤ x) := by rw [show k - 1 = j by omega, getD_of hy]
      have HP := Lib.hid hprev
      have hwj : IntKind.i64.wrap ((k : Int) - 1) = (j : Int) := by rw [IntWalk.i64_in _ (by omega)]; omega
      have hsj : (k : Int) - 1 = (j : Int) := by omega
      have hj0 : (0 : Int) ≤ j := by omega
      have hjn : (j : Int) < n := by omega
      clear hj hy hprev
      by_cases hyx : y ≤ x
      · have hst2 := combTo_step hall.out (HS.out.trans (by rw [hs1, HP.out, decide_eq_true hyx]; simp))
        have HS2 := Lib.hid hst2
        have hd : decide (x < y) = false := by simp; omega
        clear hst2
        go_wp2_with (go_at_call 37; refine (IH.out _).mono ?_; rintro e w' ⟨rfl, rfl⟩)
        go_round
        case rel => exact ⟨k + 1, by omega, by go_num, HS2⟩
        case measure => simp [intOf]; omega
      · have hf : v = false := HV2.out.trans (combTo_stop (k := k) (by omega) (HS.out.trans (by rw [hs1, HP.out, decide_eq_false hyx]; simp; omega)))
        have HF := Lib.hid hf
        have hd : x < y := by omega
        clear hf hyx
        go_wp2_with (go_at_call 37; refine (IH.out _).mono ?_; rintro e w' ⟨rfl, rfl⟩)
        go_ret
        exact ⟨by rw [HF.out]; rfl, rfl⟩
    · obtain rfl : k = n := by omega
      have HF := Lib.hid (HV2.out.trans hall.out)
      go_wp2
      go_ret
      exact ⟨by rw [HF.out]; rfl, rfl⟩

/-- a slice of numbers that a call made, and a yes or no -/
def MadeTI (w : World) (l : List Int) (b : Bool) (E : Ending) (w' : World) : Prop := ∃ A c, E = .returned (.tuple #[.slice A l.length c, .bool b]) ∧ w'.ownsRow w.heap.size 3 1 (.slice A l.length c) l.length (l.map (Value.int .i64)) ∧ Below w.heap.size w w'
theorem madeTI_of {w w' : World} {l : List Int} {b : Bool} {v : Value} {n : Nat} (h : w'.ownsRow w.heap.size 3 1 v n (l.map (Value.int .i64))) (hb : Below w.heap.size w w') : MadeTI w l b (.returned (.tuple #[v, .bool b])) w' := by
  obtain ⟨A, c, rfl⟩ := own_shape h
  have hn : l.length = n := by have := h.1; simpa using this
  subst hn
  exact ⟨A, c, rfl, h, hb⟩
theorem comb_more (f : Nat → Nat) (k j : Nat) : combL f k ++ List.replicate (j + 1) (k : Int) = (combL f k ++ List.replicate j (k : Int)) ++ [(k : Int)] := by
  rw [List.append_assoc, List.replicate_succ']

set_option maxHeartbeats 1000000 in
theorem iCombOf (A : Option Addr) (c : Nat) (f : Nat → Nat) (w : World) (h : Rd w w.heap.size 1 A 61 ((listN f).map (Value.int .i64))) (hf : 1 ≤ sm f 61 ∧ sm f 61 ≤ 24) :
    Calls Try.prog 41 #[.slice A 61 c] w (MadeTI w (combL f 61) true) := by
  have H := Lib.hid h
  have HB := Lib.hid (fun k (hk : k < 61) => (by
    have h1 : sm f k + f k ≤ sm f 61 := sm_more f (k := k + 1) (m := 61) (by omega)
    omega : sm f k + f k ≤ 24))
  have OE := Lib.hid (own_empty w 3 1 w.heap.size (Nat.le_refl _))
  have hcb : combB (combL f 61) = true := by rw [comb_made]; exact inB_true (by omega)
  have HCB := Lib.hid hcb
  clear h hcb
  go_enter Try.func41, Try.ntmps41
  go_wp2
  go_loopw [4, 11] (fun v i wr => ∃ k : Nat, k ≤ 61 ∧ i = .int .i64 k ∧ wr.ownsRow w.heap.size 3 1 v (sm f k) ((combL f k).map (Value.int .i64)) ∧ Below w.heap.size w wr) (fun _ i _ => 61 - (intOf i).toNat)
  case atStart => exact ⟨0, Nat.zero_le _, rfl, OE.out, (Below.refl _ _).alloc (Nat.le_refl _) _⟩
  case round =>
    obtain ⟨k, hk, rfl, hown, hbl⟩ := hrel
    by_cases hlt : (k : Int) < 61
    · obtain ⟨b, o, rfl, hbB, hcell⟩ := H.out.cell (by omega)
      have c0 : wr.cell? ⟨b, o + k, none⟩ = some (.int .i64 (f k : Nat)) := (hbl.cell (p := ⟨b, o + k, none⟩) hbB).trans (hcell k _ (by rw [List.getElem?_map, listN_get f (by omega)]; rfl))
      have hb := HB.out k (by omega)
      have hs1 : sm f (k + 1) = sm f k + f k := rfl
      have hs2 : combL f (k + 1) = combL f k ++ List.replicate (f k) (k : Int) := rfl
      have HS1 := Lib.hid hs1
      have HS2 := Lib.hid hs2
      obtain ⟨F, hF⟩ : ∃ F, F = f k := ⟨_, rfl⟩
      rw [← hF] at HS1 HS2 hb c0
      have HO := Lib.hid hown
      have HL := Lib.hid hbl
      clear hcell hs1 hs2 hown hbl hF
      go_wp2
      go_loopw [4, 7] (fun v i wr => ∃ j : Nat, j ≤ F ∧ i = .int .i64 j ∧ wr.ownsRow w.heap.size 3 1 v (sm f k + j) ((combL f k ++ List.replicate j (k : Int)).map (Value.int .i64)) ∧ Below w.heap.size w wr) (fun _ i _ => F - (intOf i).toNat)
      case atStart => exact ⟨0, Nat.zero_le _, rfl, by simpa using HO.out, HL.out⟩
      case round =>
        obtain ⟨j, hj, rfl, hown, hbl⟩ := hrel
        by_cases hjl : (j : Int) < F
        · have HO2 := Lib.hid hown
          have hcm := comb_more f k j
          have HCM := Lib.hid hcm
          have zb := hbl.size
          clear hown hcm
          go_wp2_with (at_builtin; refine wpList_app_int (w := wr) (W := w) rfl (.tmp 21) (.tmp 23) rfl w.heap.size _ _ _ (k : Int) rfl HO2.out (by simp [go_sem]) (by omega) zb hbl ?_; intro v' w' hown' hg' hbl')
          have HO' := Lib.hid hown'
          clear hown' hg'
          go_roundw
          case rel => exact ⟨j + 1, by omega, by go_num, by rw [HCM.out]; exact HO'.out, hbl'⟩
          case measure => simp [intOf] <;> omega
        · obtain rfl : j = F := by omega
          have HO2 := Lib.hid hown
          clear hown
          go_wp2
          go_roundw
          case rel => exact ⟨k + 1, by omega, by go_num, by rw [HS1.out, HS2.out]; exact HO2.out, hbl⟩
          case measure => simp [intOf] <;> omega
    · obtain rfl : k = 61 := by omega
      obtain ⟨A2, c2, rfl⟩ := own_shape hown
      have RK := Lib.hid (Rd.of_own hown)
      have HO := Lib.hid hown
      have KO := Lib.hid (fun w B h => iCombOk A2 (sm f 61) c2 (combL f 61) w B h (by omega))
      rw [HCB.out] at KO
      have hcl := combL_len f 61
      have HCL := Lib.hid hcl
      clear hown hcl
      generalize sm f 61 = S at *
      go_wp2_with (go_at_call 57; refine (KO.out _ _ RK.out).mono ?_; rintro e w' ⟨rfl, rfl⟩)
      go_ret2
      exact madeTI_of HO.out hbl

end Go.Proofs.Ytjcaamnojinnmaa
