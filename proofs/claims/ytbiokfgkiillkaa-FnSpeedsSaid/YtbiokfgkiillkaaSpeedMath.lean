/-
  Plain facts on beats and on shortened tunes: what becomes of them when a tune is played slower and later. No program in sight but for the names of the functions that the plain ones tell of.
-/
import Derived.Test.YtbiokfgkiillkaaFits
import Derived.Test.YtbiokfgkiillkaaMoveS
namespace Go.Proofs.Ytbiokfgkiillkaa

theorem gcdZ_scale {a x y : Int} (ha : 0 ≤ a) (hx : 0 ≤ x) (hy : 0 ≤ y) : gcdZ (a * x) (a * y) = a * gcdZ x y := by
  unfold gcdZ
  rw [Int.toNat_mul ha hx, Int.toNat_mul ha hy, Nat.gcd_mul_left, Int.natCast_mul, Int.toNat_of_nonneg ha]
theorem gcdZ_dvd2 {x y : Int} (h : 0 ≤ y) : gcdZ x y ∣ y := by rw [gcdZ_comm]; exact gcdZ_dvd_left h
theorem bt_nn {xs : List (Int × Int)} (h : tuneB xs = true) (k : Nat) (hk : k < xs.length) : 0 ≤ bt xs k := (bt_bd h hk).1
theorem beats_nn (xs : List (Int × Int)) : ∀ k, 0 ≤ beatsTo xs k
  | 0 => Int.le_refl _
  | _ + 1 => gcdZ_nn _ _
theorem bt_zero (xs : List (Int × Int)) : bt xs 0 = 0 := by unfold bt; omega
theorem bt_move {xs : List (Int × Int)} {k : Nat} (a b c : Int) (hk : k < xs.length) : bt (moveL xs a b c) k = a * bt xs k := by
  unfold bt
  rw [nt_move a b c hk, nt_move a b c (show 0 < xs.length by omega)]
  simp only [mvP]
  rw [Int.mul_sub, Int.mul_comm a, Int.mul_comm a]
  omega
theorem beats_move {xs : List (Int × Int)} (h : tuneB xs = true) (a b c : Int) (ha : 0 ≤ a) : ∀ k, k ≤ xs.length → beatsTo (moveL xs a b c) k = a * beatsTo xs k
  | 0, _ => by simp [beatsTo]
  | k + 1, hk => by
    unfold beatsTo
    rw [beats_move h a b c ha k (by omega), bt_move a b c (by omega), gcdZ_scale ha (beats_nn _ _) (bt_nn h k (by omega))]
theorem beats_dvd {xs : List (Int × Int)} (ht : tuneB xs = true) {j : Nat} : ∀ {k : Nat}, j < k → k ≤ xs.length → beatsTo xs k ∣ bt xs j
  | k + 1, h, hk => by
    unfold beatsTo
    by_cases e : j = k
    · subst e
      exact gcdZ_dvd2 (bt_nn ht _ (by omega))
    · exact Int.dvd_trans (gcdZ_dvd_left (beats_nn _ _)) (beats_dvd ht (by omega) (by omega))
/-- a beat times how many beats -/
theorem beat_mul {xs : List (Int × Int)} (ht : tuneB xs = true) {j k : Nat} (h : j < k) (hk : k ≤ xs.length) : beatsTo xs k * (bt xs j / beatsTo xs k) = bt xs j := Int.mul_ediv_cancel' (beats_dvd ht h hk)
theorem beat_zero {xs : List (Int × Int)} (ht : tuneB xs = true) {j k : Nat} (h : j < k) (hk : k ≤ xs.length) (h0 : beatsTo xs k = 0) : bt xs j = 0 := by
  have := beats_dvd (xs := xs) ht h hk
  rw [h0] at this
  exact Int.zero_dvd.1 this
theorem sh_same {xs : List (Int × Int)} (ht : tuneB xs = true) (a b : Int) (ha : 1 ≤ a) {n : Nat} (hn : n = xs.length) : shTo (moveL xs a b 0) (a * beatsTo xs n) n = shTo xs (beatsTo xs n) n := by
  have hg := beats_nn xs n
  unfold shTo
  apply List.map_congr_left
  intro j hj
  have hj := List.mem_range.1 hj
  rw [bt_move a b 0 (by omega), nt_move a b 0 (by omega)]
  simp only [mvP, Int.add_zero, Prod.mk.injEq, and_true]
  by_cases h0 : beatsTo xs n = 0
  · rw [h0, beat_zero ht hj (by omega) h0]
    simp
  · have h1 : 0 < a * beatsTo xs n := Int.mul_pos (by omega) (by omega)
    rw [show max 1 (a * beatsTo xs n) = a * beatsTo xs n by omega, show max 1 (beatsTo xs n) = beatsTo xs n by omega]
    exact Int.mul_ediv_mul_of_pos _ _ (by omega)
theorem nt_sh {xs : List (Int × Int)} (g : Int) {n k : Nat} (hk : k < n) : nt (shTo xs g n) k = (bt xs k / max 1 g, (nt xs k).2) := nt_of (sh_get xs g n k hk)
theorem bt_sh {xs : List (Int × Int)} (g : Int) {n k : Nat} (hk : k < n) : bt (shTo xs g n) k = bt xs k / max 1 g := by
  unfold bt
  rw [nt_sh g hk, nt_sh g (show 0 < n by omega), bt_zero]
  simp [bt]
theorem sh_tune {xs : List (Int × Int)} (h : tuneB xs = true) {n : Nat} (hn : n = xs.length) : tuneB (shTo xs (beatsTo xs n) n) = true := by
  unfold tuneB tuneTo
  have h40 := tune_len h
  have hg := beats_nn xs n
  rw [decide_eq_true (by rw [shTo_len]; omega), Bool.and_true, List.all_eq_true]
  intro k hk
  have hk := List.mem_range.1 hk
  rw [shTo_len] at hk
  have ha := tune_at h (show k < xs.length by omega)
  have hb := bt_bd h (show k < xs.length by omega)
  have e : (shTo xs (beatsTo xs n) n).getD k (0, 0) = _ := nt_sh (beatsTo xs n) hk
  have q0 := Int.ediv_nonneg hb.1 (show 0 ≤ max 1 (beatsTo xs n) by omega)
  have q1 := Int.ediv_le_self (max 1 (beatsTo xs n)) hb.1
  unfold stepN
  rw [e, inB_true (by simp only; omega), inB_true (by simp only; omega)]
  by_cases h0 : k = 0
  · simp [h0]
  · obtain ⟨j, rfl⟩ : ∃ j, k = j + 1 := ⟨k - 1, by omega⟩
    have hl := tune_less h (show j + 1 < xs.length by omega)
    have e' : (shTo xs (beatsTo xs n) n).getD j (0, 0) = _ := nt_sh (beatsTo xs n) (show j < n by omega)
    rw [show j + 1 - 1 = j by omega, e']
    have m0 := beat_mul h (show j < n by omega) (by omega)
    have m1 := beat_mul h hk (by omega)
    simp only [lessN, decide_eq_true_eq] at hl
    simp only [Bool.true_and, Bool.or_eq_true, lessN, decide_eq_true_eq]
    right
    by_cases hz : beatsTo xs n = 0
    · have z0 := beat_zero h (show j < n by omega) (by omega) hz
      have z1 := beat_zero h hk (by omega) hz
      rw [z0, z1]
      right
      refine ⟨rfl, ?_⟩
      unfold bt at z0 z1
      omega
    · rw [show max 1 (beatsTo xs n) = beatsTo xs n by omega]
      rcases hl with h1 | ⟨h1, h2⟩
      · left
        have hlt : bt xs j < bt xs (j + 1) := by unfold bt; omega
        rw [← m0, ← m1] at hlt
        exact Int.lt_of_mul_lt_mul_left hlt (by omega)
      · right
        refine ⟨?_, h2⟩
        rw [show bt xs j = bt xs (j + 1) by unfold bt; omega]
theorem beats_short {xs : List (Int × Int)} (h : tuneB xs = true) {n : Nat} (hn : n = xs.length) (hg : 0 < beatsTo xs n) : ∀ k, k ≤ n → beatsTo xs n * beatsTo (shTo xs (beatsTo xs n) n) k = beatsTo xs k
  | 0, _ => by simp [beatsTo]
  | k + 1, hk => by
    have e := bt_sh (xs := xs) (beatsTo xs n) (show k < n by omega)
    have hb := bt_nn h k (by omega)
    rw [show beatsTo (shTo xs (beatsTo xs n) n) (k + 1) = gcdZ (beatsTo (shTo xs (beatsTo xs n) n) k) (bt (shTo xs (beatsTo xs n) n) k) from rfl, ← gcdZ_scale (by omega) (beats_nn _ _) (by rw [e]; exact Int.ediv_nonneg hb (by omega)),
      beats_short h hn hg k (by omega), e, show max 1 (beatsTo xs n) = beatsTo xs n by omega, beat_mul h (by omega) (by omega)]
    rfl
theorem beats_short0 {xs : List (Int × Int)} (h : tuneB xs = true) {n : Nat} (hn : n = xs.length) (hg : beatsTo xs n = 0) : ∀ k, k ≤ n → beatsTo (shTo xs (beatsTo xs n) n) k = 0
  | 0, _ => rfl
  | k + 1, hk => by
    rw [show beatsTo (shTo xs (beatsTo xs n) n) (k + 1) = gcdZ (beatsTo (shTo xs (beatsTo xs n) n) k) (bt (shTo xs (beatsTo xs n) n) k) from rfl, beats_short0 h hn hg k (by omega), bt_sh _ (by omega), beat_zero h (by omega) (by omega) hg]
    simp [gcdZ]
/-- a shortened tune has no common beat -/
theorem beats_one {xs : List (Int × Int)} (h : tuneB xs = true) : beatsZ (shortV xs) = if 0 < beatsTo xs xs.length then 1 else 0 := by
  have hg := beats_nn xs xs.length
  rw [short_yes h, beats_yes (sh_tune h rfl), shTo_len]
  split
  · rename_i h0
    have := beats_short h rfl h0 xs.length (Nat.le_refl _)
    exact Int.eq_of_mul_eq_mul_left (show beatsTo xs xs.length ≠ 0 by omega) (by rw [this]; omega)
  · exact beats_short0 h rfl (by omega) _ (Nat.le_refl _)

end Go.Proofs.Ytbiokfgkiillkaa
