/-
  What the law of shifts needs of two cylinders of one size with few tracks: together on one cylinder, picked again, merged, moved, disturbed. No program in sight but for the types' shapes.
-/
import Derived.Test.YtjklobhnidbinaaHolds
namespace Go.Proofs.Ytjklobhnidbinaa
open Go.RowKit

theorem pair_facts {s t : Int} {xs ys : List (Int × Int)} (hx : cylB s t xs = true) (hy : cylB s t ys = true) (ht : t ≤ 8) (hl : xs.length ≤ 9 ∧ ys.length ≤ 9) :
    ∃ m, holdsC [(s, t, xs), (s, t, ys)] 3 = some (s, 100, m) ∧ cylB s 100 m = true ∧ m.length = xs.length + ys.length ∧ partC s 100 m 3 0 = some (s, 34, xs) ∧ partC s 100 m 3 1 = some (s, 34, ys) ∧ partC s 100 m 3 2 = some (s, 34, []) := by
  obtain ⟨h0, k0⟩ := shift_ok (d := 3) (k := 0) hx (by omega) (by omega) (by omega)
  obtain ⟨h1, k1⟩ := shift_ok (d := 3) (k := 1) hy (by omega) (by omega) (by omega)
  obtain ⟨m, hm, hp, ha, hc⟩ := merge_ok k0 k1 (by rw [shiftL_len, shiftL_len]; omega) (shift_apart 3 0 1 (by omega) (by omega) (by omega) xs ys)
  have hxa := (cyl_iff.1 hx).2.2.2.2
  have hya := (cyl_iff.1 hy).2.2.2.2
  obtain ⟨p0, p1, p2⟩ := part_merge (d := 3) (by omega) hxa hya ha hp
  have hsh : ∀ k, 0 ≤ k ∧ k ≤ 2 → shiftB s 100 m 3 k = true := fun k hk => shiftB_iff.2 ⟨hc, by omega, by omega⟩
  refine ⟨m, ?_, hc, ?_, ?_, ?_, ?_⟩
  · rw [holdsC_yes (by simp)]
    show holdsN _ 3 (1 + 1) = _
    rw [holds_step (c := (s, t, ys)) (o := (s, 100, shiftL 3 0 xs)) (x := (s, 100, shiftL 3 1 ys)) (by omega) rfl ?_ ?_]
    · exact hm
    · rw [holds_one (c := (s, t, xs)) rfl]
      exact h0
    · exact h1
  · have := hp.length_eq
    rw [List.length_append, shiftL_len, shiftL_len] at this
    exact this
  · unfold partC
    rw [if_pos (hsh 0 (by omega)), p0]
    rfl
  · unfold partC
    rw [if_pos (hsh 1 (by omega)), p1]
    rfl
  · unfold partC
    rw [if_pos (hsh 2 (by omega)), p2 2 (by omega)]
    rfl

theorem merge_facts {s t : Int} {xs ys : List (Int × Int)} (hx : cylB s t xs = true) (hy : cylB s t ys = true) (hl : xs.length ≤ 9 ∧ ys.length ≤ 9) :
    (mergeC s t xs s t ys).isSome = decide (distL s 1 xs ys = 0) ∧ (distL s 1 xs ys = 0 → (cyP (mergeC s t xs s t ys)).length = xs.length + ys.length) := by
  have hx' := cyl_iff.1 hx
  have hy' := cyl_iff.1 hy
  have hz := dist_zero (s := s) (t := t) hx'.2.2.2.1 hy'.2.2.2.1
  by_cases h : distL s 1 xs ys = 0
  · obtain ⟨m, hm, hp, _, _⟩ := merge_ok hx hy (by omega) (hz.1 h)
    rw [hm]
    refine ⟨by simp [h], fun _ => ?_⟩
    have := hp.length_eq
    rw [List.length_append] at this
    exact this
  · refine ⟨?_, fun h' => absurd h' h⟩
    have : ∃ p ∈ xs, p ∈ ys := by
      apply Classical.byContradiction
      intro hn
      exact h (hz.2 fun p hp hq => hn ⟨p, hp, hq⟩)
    obtain ⟨p, hp, hq⟩ := this
    rw [merge_no hx'.2.2.2.2 hp hq]
    simp [h]

theorem shift_facts {s t : Int} {xs : List (Int × Int)} (hx : cylB s t xs = true) (ht : t ≤ 8) : shiftC s t xs 2 1 = some (s, 100, shiftL 2 1 xs) ∧ (shiftL 2 1 xs).length = xs.length :=
  ⟨(shift_ok (d := 2) (k := 1) hx (by omega) (by omega) (by omega)).1, shiftL_len _ _ _⟩

end Go.Proofs.Ytjklobhnidbinaa
