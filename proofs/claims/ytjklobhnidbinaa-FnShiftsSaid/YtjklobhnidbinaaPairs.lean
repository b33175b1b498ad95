/-
  Slices of structs of two ints: as a list of pairs, and its cells. No program in sight but for the types' shapes.
-/
import Derived.Test.YtjklobhnidbinaaAid
import Derived.Test.YtjklobhnidbinaaNum
import Derived.Deep.SlicePairs
namespace Go.Proofs.Ytjklobhnidbinaa
open Go.ChangeShapes Go.WideShapes Go.ChangeAt Go.RowKit Go.Joins Go.Deep

/-- the cells of a list of pairs -/
def pc : List (Int × Int) → List Value
  | [] => []
  | p :: l => .int .i64 p.1 :: .int .i64 p.2 :: pc l
theorem pc_length : ∀ l : List (Int × Int), (pc l).length = l.length * 2
  | [] => rfl
  | p :: l => by simp [pc, pc_length l]; omega
theorem pc_get : ∀ (l : List (Int × Int)) (k : Nat) (p : Int × Int), l[k]? = some p → (pc l)[k * 2]? = some (.int .i64 p.1) ∧ (pc l)[k * 2 + 1]? = some (.int .i64 p.2)
  | [], k, p, h => by simp at h
  | q :: l, 0, p, h => by
    simp at h
    subst h
    exact ⟨rfl, rfl⟩
  | q :: l, k + 1, p, h => by
    have := pc_get l k p (by simpa using h)
    rw [show (k + 1) * 2 = k * 2 + 1 + 1 by omega]
    exact this
theorem pc_append : ∀ (l m : List (Int × Int)), pc (l ++ m) = pc l ++ pc m
  | [], _ => rfl
  | p :: l, m => by simp [pc, pc_append l m]
theorem pc_one : ∀ (l : List (Int × Int)), ∀ v ∈ pc l, v.oneCell' = true
  | [], v, h => by cases h
  | p :: l, v, h => by
    rcases List.mem_cons.1 h with rfl | h
    · rfl
    · rcases List.mem_cons.1 h with rfl | h
      · rfl
      · exact pc_one l v h
theorem Rd.pair {w : World} {B n : Nat} {A : Option Addr} {xs : List (Int × Int)} (h : Rd w B 2 A n (pc xs)) : xs.length = n := by
  have := h.1
  rw [pc_length] at this
  omega
/-- the two cells of an element -/
theorem Rd.pairAt {w : World} {B n : Nat} {A : Option Addr} {xs : List (Int × Int)} (h : Rd w B 2 A n (pc xs)) (hn : 0 < n) :
    ∃ b o, A = some ⟨b, o, none⟩ ∧ b < B ∧ ∀ k p, xs[k]? = some p → w.cell? ⟨b, o + k * 2, none⟩ = some (.int .i64 p.1) ∧ w.cell? ⟨b, o + k * 2 + 1, none⟩ = some (.int .i64 p.2) := by
  obtain ⟨b, o, e, hb, hc⟩ := h.2 hn
  refine ⟨b, o, e, hb, fun k p hp => ?_⟩
  obtain ⟨g0, g1⟩ := pc_get xs k p hp
  exact ⟨hc _ _ g0, hc _ _ g1⟩

section
variable {H : Type} {enc : TypeId × Value → H} {P : Program} {w : World} {base : Nat} {spare : Nat → Bool} {held : Bool} {r : Reach} {b0 : Nat}
theorem opn_pairs {t e i : TypeId} {f0 f1 : Field} {v : Value} {d : DataW H} {p : List MemPlace} (ht : P.underlying t = some (.slice e)) (he : P.underlying e = some (.struct #[f0, f1])) (hi : P.underlying i = some (.int .i64))
    (h0 : f0.type = i) (h1 : f1.type = i) (o0 : f0.offset = 0) (o1 : f1.offset = 1) (ce : P.cellsOf e = 2) (ci : P.cellsOf i = 1)
    (hv : Value.okWide P w r b0 t v) (h : DataW.Trod enc P w base spare held t v d p) :
    ∃ (A : Option Addr) (n c : Nat) (xs : List (Int × Int)), v = .slice A n c ∧ Rd w w.heap.size 2 A n (pc xs) ∧ xs.length = n ∧ n ≤ c ∧ n ≤ 9223372036854775807 ∧ ∀ x ∈ xs, I64 x.1 ∧ I64 x.2 := by
  obtain ⟨A, n, c, rfl⟩ := okWide_slice ht hv
  obtain ⟨fuel, hf⟩ := h
  rcases open_slice_pairs ht he ce o0 o1 (by rw [h0]; exact ci) (by rw [h1]; exact ci) hf with ⟨hcs, _⟩ | ⟨x, l, cp, m, k, V0, V1, D0, D1, P0, P1, hcs, _, hl, hm, hmm, _, hcell⟩
  · simp [Value.cells] at hcs
    obtain ⟨rfl, rfl, rfl⟩ := hcs
    exact ⟨none, 0, 0, [], rfl, Rd.nil _ _ _ _, rfl, by omega, by omega, by simp⟩
  · simp [Value.cells] at hcs
    obtain ⟨rfl, rfl, rfl⟩ := hcs
    unfold maxLen at hm
    have hnm : n ≤ m := by rw [hmm]; split <;> omega
    have hz : ∀ i, i < n → ∃ a b : Int, V0 i = .int .i64 a ∧ V1 i = .int .i64 b ∧ I64 a ∧ I64 b := fun i hin => by
      obtain ⟨_, _, k0, k1⟩ := hcell i (by omega)
      rw [h0] at k0
      rw [h1] at k1
      obtain ⟨a, e0, _, wa⟩ := DataW.trod_int hi k0
      obtain ⟨b, e1, _, wb⟩ := DataW.trod_int hi k1
      simp at e0 e1
      exact ⟨a, b, e0, e1, I64.of_wf wa, I64.of_wf wb⟩
    let num : Value → Int := fun v => match v with | .int _ q => q | _ => 0
    obtain ⟨xs, hxs⟩ : ∃ xs, xs = (List.range n).map fun i => (num (V0 i), num (V1 i)) := ⟨_, rfl⟩
    have hlen : xs.length = n := by rw [hxs]; simp
    have hget : ∀ i, i < n → xs[i]? = some (num (V0 i), num (V1 i)) := fun i hi => by rw [hxs]; simp [hi]
    refine ⟨_, _, _, xs, rfl, ⟨by rw [pc_length, hlen], fun hn => ?_⟩, hlen, hl, by omega, fun y hy => ?_⟩
    · obtain ⟨b, off, spot⟩ := x
      have h00 := (hcell 0 (by omega)).1
      have hspot : spot = none := by simpa [Addr.add] using World.cell?_spot h00
      subst hspot
      refine ⟨b, off, rfl, ?_, fun j u hu => ?_⟩
      · rcases Nat.lt_or_ge b w.heap.size with h | h
        · exact h
        · simp [World.cell?, Addr.add, Array.getElem?_eq_none h] at h00
      · have hj : j < n * 2 := by
          have := (List.getElem?_eq_some_iff.1 hu).1
          rw [pc_length, hlen] at this
          exact this
        have hadd : ∀ q : Nat, (⟨b, off, none⟩ : Addr).add q = ⟨b, off + q, none⟩ := fun q => by
          by_cases h0 : q = 0
          · subst h0; rfl
          · simp [Addr.add, h0]
        obtain ⟨k', hk'⟩ : ∃ k', j = k' * 2 ∨ j = k' * 2 + 1 := ⟨j / 2, by omega⟩
        have hkn : k' < n := by omega
        obtain ⟨g0, g1⟩ := pc_get xs k' _ (hget k' hkn)
        obtain ⟨a, b', e0, e1, _, _⟩ := hz k' hkn
        obtain ⟨c0, c1, _, _⟩ := hcell k' (by omega)
        rw [hadd] at c0 c1
        rw [e0] at g0 c0
        rw [e1] at g1 c1
        rcases hk' with rfl | rfl
        · rw [g0] at hu
          injection hu with hu
          subst hu
          exact c0
        · rw [g1] at hu
          injection hu with hu
          subst hu
          rw [← Nat.add_assoc] at c1 ⊢
          exact c1
    · rw [hxs] at hy
      simp only [List.mem_map, List.mem_range] at hy
      obtain ⟨i, hi, rfl⟩ := hy
      obtain ⟨a, b, e0, e1, wa, wb⟩ := hz i hi
      rw [e0, e1]
      exact ⟨wa, wb⟩
end

end Go.Proofs.Ytjklobhnidbinaa
