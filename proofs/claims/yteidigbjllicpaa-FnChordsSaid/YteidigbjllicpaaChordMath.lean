/-
  Plain facts on steps, sweet pitches, chords and roots, and on harsh pairs an octave higher. No program in sight but for the names that the plain functions tell of.
-/
import Derived.Test.YteidigbjllicpaaHarsh
import Derived.Test.YteidigbjllicpaaSweetFor
import Derived.Test.YteidigbjllicpaaRoot
import Derived.Test.YteidigbjllicpaaMove
namespace Go.Proofs.Yteidigbjllicpaa

theorem steps_low {a b : Int} (ha : 0 ≤ a ∧ a ≤ 60) (hb : 0 ≤ b ∧ b ≤ 60) : 0 ≤ StepsZ a b := by
  unfold StepsZ
  rw [if_pos ⟨inB_true ha, inB_true hb⟩]
  unfold absZ
  omega
theorem steps_up {a b : Int} (ha : 0 ≤ a ∧ a ≤ 48) (hb : 0 ≤ b ∧ b ≤ 60) : StepsZ (a + 12) b = StepsZ a b := by
  unfold StepsZ
  rw [if_pos ⟨inB_true (by omega), inB_true hb⟩, if_pos ⟨inB_true (by omega), inB_true hb⟩]
  unfold absZ
  omega
theorem sweet_self {a : Int} (ha : 0 ≤ a ∧ a ≤ 60) : sweetB a a = true := by
  unfold sweetB StepsZ
  rw [if_pos ⟨inB_true ha, inB_true ha⟩]
  unfold absZ
  apply decide_eq_true
  omega
theorem sweet_up {a b : Int} (ha : 0 ≤ a ∧ a ≤ 48) (hb : 0 ≤ b ∧ b ≤ 48) : sweetB (a + 12) (b + 12) = sweetB a b := by
  have : StepsZ (a + 12) (b + 12) = StepsZ a b := by
    unfold StepsZ
    rw [if_pos ⟨inB_true (by omega), inB_true (by omega)⟩, if_pos ⟨inB_true (by omega), inB_true (by omega)⟩, show a + 12 - (b + 12) = a - b by omega]
  unfold sweetB
  rw [this]
theorem harsh_up {xs : List (Int × Int)} (h : tuneB xs = true) (h2 : tuneB (moveL xs 1 0 12) = true) (hp : ∀ p ∈ xs, 0 ≤ p.2 ∧ p.2 ≤ 48) : harshZ (moveL xs 1 0 12) = harshZ xs := by
  have one : ∀ i j, i < xs.length → j < xs.length → oneH ((moveL xs 1 0 12).getD i (0, 0)) ((moveL xs 1 0 12).getD j (0, 0)) = oneH (xs.getD i (0, 0)) (xs.getD j (0, 0)) := fun i j hi hj => by
    have e1 := nt_move 1 0 12 hi
    have e2 := nt_move 1 0 12 hj
    have m1 : nt xs i ∈ xs := by unfold nt; rw [List.getD_eq_getElem?_getD, List.getElem?_eq_getElem hi]; exact List.getElem_mem hi
    have m2 : nt xs j ∈ xs := by unfold nt; rw [List.getD_eq_getElem?_getD, List.getElem?_eq_getElem hj]; exact List.getElem_mem hj
    have b1 := hp _ m1
    have b2 := hp _ m2
    unfold nt at e1 e2 b1 b2
    rw [e1, e2]
    unfold oneH harshB mvP
    simp only
    rw [sweet_up b1 b2, Int.mul_one, Int.mul_one, Int.add_zero, Int.add_zero]
  have two : ∀ i, i < xs.length → ∀ j, j ≤ i → hIn (moveL xs 1 0 12) i j = hIn xs i j := fun i hi j => by
    induction j with
    | zero => intro _; rfl
    | succ j ih =>
      intro hj
      unfold hIn
      rw [ih (by omega), one i j hi (by omega)]
  have three : ∀ k, k ≤ xs.length → hAll (moveL xs 1 0 12) k = hAll xs k := fun k => by
    induction k with
    | zero => intro _; rfl
    | succ k ih =>
      intro hk
      unfold hAll
      rw [ih (by omega), two k (by omega) k (Nat.le_refl _)]
  unfold harshZ
  rw [if_pos h, if_pos h2, moveL_len, three _ (Nat.le_refl _)]
theorem chord_two {a b : Int} (ha : 0 ≤ a ∧ a ≤ 60) (hb : 0 ≤ b ∧ b ≤ 60) : chordB [a, b] = sweetB a b := by
  simp [chordB, chordTo, oneB, withB, pitchB, inB_true ha, inB_true hb, List.range_succ]
theorem sweet_mem {xs : List Int} {lo x : Int} : ∀ {k : Nat}, x ∈ sweetTo xs lo k ↔ lo ≤ x ∧ x < lo + (k : Int) ∧ withB xs x = true
  | 0 => by simp [sweetTo]; omega
  | k + 1 => by
    unfold sweetTo
    rw [List.mem_append, sweet_mem (k := k)]
    by_cases h : withB xs (lo + (k : Int)) = true
    · rw [if_pos h, List.mem_singleton]
      constructor
      · rintro (h1 | h1)
        · exact ⟨h1.1, by omega, h1.2.2⟩
        · subst h1
          exact ⟨by omega, by omega, h⟩
      · rintro ⟨h1, h2, h3⟩
        by_cases e : x = lo + (k : Int)
        · exact Or.inr e
        · exact Or.inl ⟨h1, by omega, h3⟩
    · rw [if_neg h]
      constructor
      · rintro (h1 | h1)
        · exact ⟨h1.1, by omega, h1.2.2⟩
        · cases h1
      · rintro ⟨h1, h2, h3⟩
        by_cases e : x = lo + (k : Int)
        · rw [e] at h3
          exact absurd h3 h
        · exact Or.inl ⟨h1, by omega, h3⟩
theorem sweet_has {a b p : Int} (ha : 0 ≤ a ∧ a ≤ 60) (hb : 0 ≤ b ∧ b ≤ 60) (hp : 0 ≤ p ∧ p ≤ 60) : decide (p ∈ sweetV [a, b] 0 60) = (sweetB p a && sweetB p b) := by
  have e : okB [a, b] 0 60 = true := by
    unfold okB
    simp [pitchB, inB_true ha, inB_true hb]
    decide
  unfold sweetV
  rw [if_pos e, Bool.eq_iff_iff, decide_eq_true_iff, sweet_mem]
  have e2 : withB [a, b] p = (sweetB p a && sweetB p b) := by simp [withB, sweet_comm p]
  rw [e2]
  constructor
  · rintro ⟨_, _, h⟩
    exact h
  · intro h
    exact ⟨hp.1, by simp only [show ((60 : Int) + 1 - 0).toNat = 61 from rfl]; omega, h⟩
theorem root_maj : ∀ r : Nat, r < 12 → rootZ [(r : Int) + 7, (r : Int) + 16, (r : Int), (r : Int) + 24] = r := by decide +kernel
theorem root_min : ∀ r : Nat, r < 12 → rootZ [(r : Int), (r : Int) + 3, (r : Int) + 7] = r := by decide +kernel
theorem root_none : ∀ r : Nat, r < 12 → rootZ [(r : Int), (r : Int) + 1] = -1 := by decide +kernel
theorem chord_maj : ∀ r : Nat, r < 12 → chordB [(r : Int) + 7, (r : Int) + 16, (r : Int), (r : Int) + 24] = true := by decide +kernel

end Go.Proofs.Yteidigbjllicpaa
