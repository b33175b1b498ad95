/-
  Plain facts on a spring: its force, and what it gives turn by turn. No program in sight; the bounds stand in each lemma.
-/
import Derived.Below
namespace Go.Proofs.Ytcnnkdpfigckoaa

/-- turns t of at most m, greatest force f: in range -/
def sprB (t m f : Int) : Bool := decide (1 ≤ m ∧ m ≤ 50) && decide (0 ≤ t ∧ t ≤ m) && decide (1 ≤ f ∧ f ≤ 10000)
theorem sprB_iff {t m f : Int} : sprB t m f = true ↔ 1 ≤ m ∧ m ≤ 50 ∧ 0 ≤ t ∧ t ≤ m ∧ 1 ≤ f ∧ f ≤ 10000 := by simp [sprB]; omega
theorem sprB_no {t m f : Int} (h : sprB t m f = false) : ¬ (1 ≤ m ∧ m ≤ 50 ∧ 0 ≤ t ∧ t ≤ m ∧ 1 ≤ f ∧ f ≤ 10000) := fun k => by rw [sprB_iff.2 k] at h; cases h

def frc (t m f : Int) : Int := f * t / m
theorem ft_bd {t m f : Int} (h : sprB t m f = true) : 0 ≤ f * t ∧ f * t ≤ 500000 ∧ f * t ≤ f * m := by
  obtain ⟨h1, h2, h3, h4, h5, h6⟩ := sprB_iff.1 h
  have a : 0 ≤ f * t := Int.mul_nonneg (by omega) h3
  have b : f * t ≤ 10000 * 50 := Int.mul_le_mul h6 (by omega) h3 (by omega)
  have c : f * t ≤ f * m := Int.mul_le_mul_of_nonneg_left h4 (by omega)
  omega
theorem frc_bd {t m f : Int} (h : sprB t m f = true) : 0 ≤ frc t m f ∧ frc t m f ≤ f := by
  obtain ⟨h1, h2, h3, h4, h5, h6⟩ := sprB_iff.1 h
  obtain ⟨a, b, c⟩ := ft_bd h
  unfold frc
  refine ⟨Int.ediv_nonneg a (by omega), ?_⟩
  exact Int.ediv_le_of_le_mul (by omega) c
theorem frc_mono {t u m f : Int} (hm : 1 ≤ m) (hf : 0 ≤ f) (h : t ≤ u) : frc t m f ≤ frc u m f := by
  unfold frc
  exact Int.ediv_le_ediv (by omega) (Int.mul_le_mul_of_nonneg_left h hf)
def ForceZ (t m f : Int) : Int := if sprB t m f = true then frc t m f else -1

/-- how many turns give at least 'need', one after the other -/
def twn (m f need : Int) : Nat → Int
  | 0 => 0
  | k + 1 => if need ≤ frc (k + 1 : Nat) m f then 1 + twn m f need k else 0
theorem twn_bd (m f need : Int) : ∀ k : Nat, 0 ≤ twn m f need k ∧ twn m f need k ≤ k
  | 0 => by simp [twn]
  | k + 1 => by
    have := twn_bd m f need k
    unfold twn
    split <;> omega
def TurnsWithZ (t m f need : Int) : Int := if sprB t m f = true ∧ 0 ≤ need ∧ need ≤ 10000 then twn m f need t.toNat else -1
/-- the sum of the forces -/
def wrk (m f : Int) : Nat → Int
  | 0 => 0
  | k + 1 => frc (k + 1 : Nat) m f + wrk m f k
theorem wrk_bd {m f : Int} (hm : 1 ≤ m) (hm2 : m ≤ 50) (hf : 1 ≤ f) (hf2 : f ≤ 10000) : ∀ k : Nat, (k : Int) ≤ m → 0 ≤ wrk m f k ∧ wrk m f k ≤ 10000 * k
  | 0, _ => by simp [wrk]
  | k + 1, h => by
    have := wrk_bd hm hm2 hf hf2 k (by omega)
    have := frc_bd (t := (k + 1 : Nat)) (m := m) (f := f) (sprB_iff.2 (by omega))
    unfold wrk
    omega
def WorkZ (t m f : Int) : Int := if sprB t m f = true then wrk m f t.toNat else -1

/-- winding by k: the new turns, and how many; nothing and -1 where an argument is out of range -/
def WindT (t m f k : Int) : Int × Int := if sprB t m f = true ∧ 0 ≤ k ∧ k ≤ 100 then (t + min k (m - t), min k (m - t)) else (t, -1)
def UnwindT (t m f k : Int) : Int × Int := if sprB t m f = true ∧ 0 ≤ k ∧ k ≤ 100 then (t - min k t, min k t) else (t, -1)

/-- behind the turns that gave enough, the next one does not -/
theorem twn_stop (m f need : Int) : ∀ k : Nat, twn m f need k < k → frc ((k : Int) - twn m f need k) m f < need
  | 0, h => by simp [twn] at h
  | k + 1, h => by
    unfold twn at h ⊢
    by_cases hc : need ≤ frc (k + 1 : Nat) m f
    · rw [if_pos hc] at h ⊢
      have := twn_stop m f need k (by omega)
      rw [show ((k + 1 : Nat) : Int) - (1 + twn m f need k) = (k : Int) - twn m f need k by omega]
      exact this
    · rw [if_neg hc] at h ⊢
      rw [show ((k + 1 : Nat) : Int) - 0 = ((k + 1 : Nat) : Int) by omega]
      omega
theorem twn_first (m f need : Int) : ∀ k : Nat, 0 < twn m f need k → need ≤ frc (k : Nat) m f
  | 0, h => by simp [twn] at h
  | k + 1, h => by
    unfold twn at h
    split at h
    · assumption
    · omega
theorem twn_zero {m f : Int} (hm : 1 ≤ m) (hm2 : m ≤ 50) (hf : 1 ≤ f) (hf2 : f ≤ 10000) : ∀ k : Nat, (k : Int) ≤ m → twn m f 0 k = k
  | 0, _ => rfl
  | k + 1, h => by
    have := twn_zero hm hm2 hf hf2 k (by omega)
    have := frc_bd (t := (k + 1 : Nat)) (m := m) (f := f) (sprB_iff.2 (by omega))
    unfold twn
    rw [if_pos (by omega)]
    omega

end Go.Proofs.Ytcnnkdpfigckoaa
