/-
  Plain facts on a valid tune: its length, its bounds, its order. No program in sight.
-/
import Derived.Test.YtjcaamnojinnmaaTune
namespace Go.Proofs.Ytjcaamnojinnmaa

/-- the note at k -/
def nt (xs : List (Int × Int)) (k : Nat) : Int × Int := xs.getD k (0, 0)
theorem nt_of {xs : List (Int × Int)} {k : Nat} {p : Int × Int} (h : xs[k]? = some p) : nt xs k = p := getD_of h
theorem tune_len {xs : List (Int × Int)} (h : tuneB xs = true) : xs.length ≤ 40 := by
  unfold tuneB at h
  simp only [Bool.and_eq_true, decide_eq_true_eq] at h
  exact h.2
theorem tune_step {xs : List (Int × Int)} {k : Nat} (h : tuneB xs = true) (hk : k < xs.length) : stepN xs k = true := by
  unfold tuneB tuneTo at h
  simp only [Bool.and_eq_true] at h
  exact List.all_eq_true.1 h.1 k (List.mem_range.2 hk)
theorem tune_at {xs : List (Int × Int)} {k : Nat} (h : tuneB xs = true) (hk : k < xs.length) : 0 ≤ (nt xs k).1 ∧ (nt xs k).1 ≤ 1000 ∧ 0 ≤ (nt xs k).2 ∧ (nt xs k).2 ≤ 60 := by
  have hs := tune_step h hk
  unfold stepN at hs
  simp only [Bool.and_eq_true] at hs
  have h1 := inB_iff.1 hs.1.1
  have h2 := inB_iff.1 hs.1.2
  exact ⟨h1.1, h1.2, h2.1, h2.2⟩
theorem tune_less {xs : List (Int × Int)} {k : Nat} (h : tuneB xs = true) (hk : k + 1 < xs.length) : lessN (nt xs k) (nt xs (k + 1)) = true := by
  have hs := tune_step h hk
  unfold stepN at hs
  simp only [Bool.and_eq_true, Bool.or_eq_true] at hs
  rcases hs.2 with h0 | h0
  · simp at h0
  · exact h0
theorem less_time {p q : Int × Int} (h : lessN p q = true) : p.1 ≤ q.1 := by
  simp [lessN] at h
  omega
theorem tune_mono {xs : List (Int × Int)} (h : tuneB xs = true) {j : Nat} : ∀ {k : Nat}, j ≤ k → k < xs.length → (nt xs j).1 ≤ (nt xs k).1
  | 0, hj, _ => by
    obtain rfl : j = 0 := by omega
    exact Int.le_refl _
  | k + 1, hj, hk => by
    by_cases e : j = k + 1
    · subst e
      exact Int.le_refl _
    · have := tune_mono h (j := j) (k := k) (by omega) (by omega)
      have := less_time (tune_less h hk)
      omega

end Go.Proofs.Ytjcaamnojinnmaa
