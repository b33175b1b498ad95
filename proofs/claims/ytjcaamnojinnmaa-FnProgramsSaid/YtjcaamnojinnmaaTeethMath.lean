/-
  Plain facts on the teeth that a tune needs: counting in windows, forwards and backwards, gives the same greatest counts. No program in sight.
-/
import Derived.Test.YtjcaamnojinnmaaTuneMath
namespace Go.Proofs.Ytjcaamnojinnmaa

/-- how many numbers below k are picked -/
def cn (f : Nat → Bool) : Nat → Nat
  | 0 => 0
  | k + 1 => cn f k + if f k = true then 1 else 0
theorem cn_s (f : Nat → Bool) (k : Nat) : cn f (k + 1) = cn f k + if f k = true then 1 else 0 := rfl
theorem cn_le (f : Nat → Bool) : ∀ k, cn f k ≤ k
  | 0 => Nat.le_refl _
  | k + 1 => by
    have := cn_le f k
    rw [cn_s]
    split <;> omega
theorem cn_mono {f g : Nat → Bool} : ∀ {k : Nat}, (∀ j, j < k → f j = true → g j = true) → cn f k ≤ cn g k
  | 0, _ => Nat.le_refl _
  | k + 1, h => by
    have h1 := cn_mono (f := f) (g := g) (k := k) fun j hj => h j (by omega)
    rw [cn_s, cn_s]
    by_cases hf : f k = true
    · rw [if_pos hf, if_pos (h k (by omega) hf)]; omega
    · rw [if_neg hf]; split <;> omega
theorem cn_congr {f g : Nat → Bool} : ∀ {k : Nat}, (∀ j, j < k → f j = g j) → cn f k = cn g k
  | 0, _ => rfl
  | k + 1, h => by
    have h1 := cn_congr (f := f) (g := g) (k := k) fun j hj => h j (by omega)
    rw [cn_s, cn_s, h1, h k (by omega)]
theorem cn_shift (g : Nat → Bool) (i : Nat) : ∀ m, cn g (i + m) = cn g i + cn (fun q => g (i + q)) m
  | 0 => rfl
  | m + 1 => by
    have := cn_shift g i m
    rw [show i + (m + 1) = (i + m) + 1 by omega, cn_s, cn_s, this]
    omega
theorem cn_more (f : Nat → Bool) {k m : Nat} (h : k ≤ m) : cn f k ≤ cn f m := by
  obtain ⟨d, rfl⟩ : ∃ d, m = k + d := ⟨m - k, by omega⟩
  rw [cn_shift]
  omega
theorem cn_none {f : Nat → Bool} : ∀ {k : Nat}, (∀ j, j < k → f j = false) → cn f k = 0
  | 0, _ => rfl
  | k + 1, h => by
    have h1 := cn_none (f := f) (k := k) fun j hj => h j (by omega)
    rw [cn_s]
    rw [h1, h k (by omega)]
    rfl
theorem cn_last {f : Nat → Bool} : ∀ (m : Nat), cn f m = 0 ∨ ∃ q, q < m ∧ f q = true ∧ cn f m = cn f (q + 1)
  | 0 => Or.inl rfl
  | m + 1 => by
    by_cases h : f m = true
    · exact Or.inr ⟨m, by omega, h, rfl⟩
    · have e : cn f (m + 1) = cn f m := by rw [cn_s, if_neg h]; rfl
      rcases cn_last (f := f) m with h1 | ⟨q, hq, hf, h1⟩
      · exact Or.inl (e.trans h1)
      · exact Or.inr ⟨q, by omega, hf, e.trans h1⟩
theorem cn_first {f : Nat → Bool} : ∀ (m : Nat), cn f m = 0 ∨ ∃ q, q < m ∧ f q = true ∧ cn f m = cn (fun j => f (q + j)) (m - q)
  | 0 => Or.inl rfl
  | m + 1 => by
    rcases cn_first (f := f) m with h1 | ⟨q, hq, hf, h1⟩
    · by_cases h : f m = true
      · refine Or.inr ⟨m, by omega, h, ?_⟩
        rw [show m + 1 - m = 1 by omega]
        rw [cn_s, h1]
        simp [cn]
      · left
        rw [cn_s]
        rw [h1, if_neg h]
    · refine Or.inr ⟨q, by omega, hf, ?_⟩
      rw [show m + 1 - q = (m - q) + 1 by omega, cn_s, cn_s, h1, show q + (m - q) = m by omega]

/-- the greatest of the picked numbers f 0 .. f (n-1); 0 where there are none -/
def mx (s : Nat → Bool) (f : Nat → Nat) : Nat → Nat
  | 0 => 0
  | k + 1 => if s k = true then max (mx s f k) (f k) else mx s f k
theorem mx_ge {s : Nat → Bool} {f : Nat → Nat} : ∀ {n k : Nat}, k < n → s k = true → f k ≤ mx s f n
  | n + 1, k, hk, hs => by
    unfold mx
    by_cases e : k = n
    · subst e
      rw [if_pos hs]
      exact Nat.le_max_right _ _
    · have := mx_ge (s := s) (f := f) (n := n) (k := k) (by omega) hs
      split
      · exact Nat.le_trans this (Nat.le_max_left _ _)
      · exact this
theorem mx_le {s : Nat → Bool} {f : Nat → Nat} {b : Nat} : ∀ {n : Nat}, (∀ k, k < n → s k = true → f k ≤ b) → mx s f n ≤ b
  | 0, _ => Nat.zero_le _
  | n + 1, h => by
    have h1 := mx_le (s := s) (f := f) (b := b) (n := n) fun k hk => h k (by omega)
    unfold mx
    split
    · rename_i hs
      exact Nat.max_le.2 ⟨h1, h n (by omega) hs⟩
    · exact h1

/-- is the note at i of the pitch of the note at k, less than r before it? -/
def winS (xs : List (Int × Int)) (r : Int) (k i : Nat) : Bool := decide ((nt xs i).2 = (nt xs k).2 ∧ (nt xs k).1 - (nt xs i).1 < r)
/-- is the note at j of the pitch of the note at i, less than r behind it? -/
def winI (xs : List (Int × Int)) (r : Int) (i j : Nat) : Bool := decide ((nt xs j).2 = (nt xs i).2 ∧ (nt xs j).1 < (nt xs i).1 + r)
def cntS (xs : List (Int × Int)) (r : Int) (k : Nat) : Nat := cn (winS xs r k) (k + 1)
def cntI (xs : List (Int × Int)) (r : Int) (i : Nat) : Nat := cn (fun q => winI xs r i (i + q)) (xs.length - i)
def pickP (xs : List (Int × Int)) (p : Int) (k : Nat) : Bool := decide ((nt xs k).2 = p)
def needS (xs : List (Int × Int)) (r p : Int) (k : Nat) : Nat := mx (pickP xs p) (cntS xs r) k
def needI (xs : List (Int × Int)) (r p : Int) (k : Nat) : Nat := mx (pickP xs p) (cntI xs r) k
theorem cntS_le {xs : List (Int × Int)} (r : Int) (k : Nat) : cntS xs r k ≤ k + 1 := cn_le _ _
theorem cntI_le {xs : List (Int × Int)} (r : Int) (k : Nat) : cntI xs r k ≤ xs.length := Nat.le_trans (cn_le _ _) (Nat.sub_le _ _)
theorem needS_le {xs : List (Int × Int)} (r p : Int) {k : Nat} (hk : k ≤ xs.length) : needS xs r p k ≤ xs.length := mx_le fun j hj _ => Nat.le_trans (cntS_le r j) (by omega)
theorem needI_le {xs : List (Int × Int)} (r p : Int) {k : Nat} : needI xs r p k ≤ xs.length := mx_le fun j _ _ => cntI_le r j

theorem need_eq {xs : List (Int × Int)} (h : tuneB xs = true) {r : Int} (p : Int) : needI xs r p xs.length = needS xs r p xs.length := by
  apply Nat.le_antisymm
  · refine mx_le fun i hi hp => ?_
    rcases cn_last (f := fun q => winI xs r i (i + q)) (xs.length - i) with h0 | ⟨q, hq, hf, h1⟩
    · unfold cntI
      rw [h0]
      exact Nat.zero_le _
    · unfold cntI
      rw [h1]
      have hq' : pickP xs p (i + q) = true := by
        simp [pickP, winI] at *
        rw [hf.1, hp]
      refine Nat.le_trans ?_ (mx_ge (k := i + q) (by omega) hq')
      unfold cntS
      rw [show i + q + 1 = i + (q + 1) from rfl, cn_shift (winS xs r (i + q)) i (q + 1)]
      refine Nat.le_trans (cn_mono fun j hj hw => ?_) (Nat.le_add_left _ _)
      have m1 := tune_mono h (j := i) (k := i + j) (by omega) (by omega)
      simp [winI, winS] at *
      refine ⟨by rw [hw.1, hf.1], by omega⟩
  · refine mx_le fun k hk hp => ?_
    rcases cn_first (f := winS xs r k) (k + 1) with h0 | ⟨i, hi, hf, h1⟩
    · unfold cntS
      rw [h0]
      exact Nat.zero_le _
    · unfold cntS
      rw [h1]
      have hi' : pickP xs p i = true := by
        simp [pickP, winS] at *
        rw [hf.1, hp]
      refine Nat.le_trans ?_ (mx_ge (k := i) (by omega) hi')
      unfold cntI
      refine Nat.le_trans (cn_mono (g := fun q => winI xs r i (i + q)) fun j hj hw => ?_) (cn_more _ (by omega))
      have m1 := tune_mono h (j := i + j) (k := k) (by omega) (by omega)
      simp [winI, winS] at *
      refine ⟨by rw [hw.1, hf.1], by omega⟩

end Go.Proofs.Ytjcaamnojinnmaa
