/-
  What Merge gives of two cylinders with one size. No program in sight.
-/
import Derived.Test.YtjklobhnidbinaaShiftMath
namespace Go.Proofs.Ytjklobhnidbinaa

def endM (s t : Int) (l : List (Int × Int)) : CyO := if cylB s t l = true then some (s, t, l) else none
theorem endM_yes {s t : Int} {l : List (Int × Int)} (h : true = cylB s t l) : endM s t l = some (s, t, l) := by unfold endM; rw [if_pos h.symm]
theorem endM_no {s t : Int} {l : List (Int × Int)} (h : false = cylB s t l) : endM s t l = none := by unfold endM; rw [if_neg (by rw [← h]; simp)]
theorem mergeC_sorted {s t : Int} {a b m : List (Int × Int)} (ha : cylB s t a = true) (hb : cylB s t b = true) (hp : m.Perm (a ++ b)) (hs : m.Pairwise fun p q => lessQ q p = false) : mergeC s t a s t b = endM s t m := by
  unfold mergeC endM
  rw [merge_sorted ha hb hp hs]
  by_cases h : cylB s t m = true
  · rw [if_pos h, if_pos h]
  · rw [if_neg h, if_neg h]
theorem mergeC_bad {s t s' t' : Int} {a b : List (Int × Int)} (h : ¬ (cylB s t a = true ∧ cylB s' t' b = true ∧ s = s' ∧ t = t')) : mergeC s t a s' t' b = none := by
  unfold mergeC mergeV
  rw [if_neg h]
/-- the merging pin by pin: where it stops, and where it ends -/
theorem mergeC_stop {s t : Int} {a b : List (Int × Int)} {k : Nat} (hk : k ≤ b.length) (h : mergeTo a b k = none) : mergeC s t a s t b = none := by
  unfold mergeC mergeV
  rw [mergeTo_stop h hk]
  split <;> rename_i h2
  · split at h2 <;> cases h2
  · rfl
theorem mergeC_end {s t : Int} {a b m : List (Int × Int)} (ha : cylB s t a = true) (hb : cylB s t b = true) (h : mergeTo a b b.length = some m) : mergeC s t a s t b = endM s t m := by
  obtain ⟨a1, a2, a3, a4, a5⟩ := cyl_iff.1 ha
  obtain ⟨b1, b2, b3, b4, b5⟩ := cyl_iff.1 hb
  obtain ⟨_, i2, i3⟩ := merge_some a5 h
  rw [List.take_length] at i3
  unfold mergeC mergeV endM
  rw [if_pos ⟨ha, hb, rfl, rfl⟩, h]
  simp only
  by_cases hl : m.length ≤ 100
  · rw [if_pos hl, if_pos (cyl_iff.2 ⟨a1, a2, hl, fun p hp' => ?_, i2⟩)]
    rcases List.mem_append.1 (i3.mem_iff.1 hp') with h1 | h1
    · exact a4 p h1
    · exact b4 p h1
  · rw [if_neg hl, if_neg]
    intro hc
    exact hl (cyl_iff.1 hc).2.2.1

end Go.Proofs.Ytjklobhnidbinaa
