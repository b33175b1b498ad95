/-
  A cylinder that came in as an argument: two numbers and a slice of pins. No program in sight but for the types' shapes.
-/
import Derived.Test.YtjklobhnidbinaaPairs
namespace Go.Proofs.Ytjklobhnidbinaa
open Go.ChangeShapes Go.WideShapes Go.ChangeAt Go.RowKit Go.Joins Go.Deep

section
variable {H : Type} {enc : TypeId × Value → H} {P : Program} {w : World} {base : Nat} {spare : Nat → Bool} {held : Bool} {r : Reach} {b0 : Nat}
/-- one slice of pairs, read as a value -/
theorem opn_pairsT {fuel : Nat} {t e i : TypeId} {f0 f1 : Field} {v : Value} {x : DataW H × List MemPlace} (ht : P.underlying t = some (.slice e)) (he : P.underlying e = some (.struct #[f0, f1])) (hi : P.underlying i = some (.int .i64))
    (h0 : f0.type = i) (h1 : f1.type = i) (o0 : f0.offset = 0) (o1 : f1.offset = 1) (ce : P.cellsOf e = 2) (ci : P.cellsOf i = 1) (h : DataW.trod enc P w base spare held fuel t [v] = some x) :
    ∃ (A : Option Addr) (n c : Nat) (xs : List (Int × Int)), v = .slice A n c ∧ Rd w w.heap.size 2 A n (pc xs) ∧ xs.length = n ∧ n ≤ c ∧ n ≤ 9223372036854775807 ∧ ∀ x ∈ xs, I64 x.1 ∧ I64 x.2 := by
  rcases open_slice_pairs ht he ce o0 o1 (by rw [h0]; exact ci) (by rw [h1]; exact ci) h with ⟨hcs, _⟩ | ⟨x, l, cp, m, k, V0, V1, D0, D1, P0, P1, hcs, _, hl, hm, hmm, _, hcell⟩
  · injection hcs with hcs
    subst hcs
    exact ⟨none, 0, 0, [], rfl, Rd.nil _ _ _ _, rfl, by omega, by omega, by simp⟩
  · injection hcs with hcs
    subst hcs
    unfold maxLen at hm
    have hnm : l ≤ m := by rw [hmm]; split <;> omega
    have hz : ∀ j, j < l → ∃ a b : Int, V0 j = .int .i64 a ∧ V1 j = .int .i64 b ∧ I64 a ∧ I64 b := fun j hin => by
      obtain ⟨_, _, k0, k1⟩ := hcell j (by omega)
      rw [h0] at k0
      rw [h1] at k1
      obtain ⟨a, e0, _, wa⟩ := DataW.trod_int hi k0
      obtain ⟨b, e1, _, wb⟩ := DataW.trod_int hi k1
      simp at e0 e1
      exact ⟨a, b, e0, e1, I64.of_wf wa, I64.of_wf wb⟩
    let num : Value → Int := fun v => match v with | .int _ q => q | _ => 0
    obtain ⟨xs, hxs⟩ : ∃ xs, xs = (List.range l).map fun i => (num (V0 i), num (V1 i)) := ⟨_, rfl⟩
    have hlen : xs.length = l := by rw [hxs]; simp
    have hget : ∀ i, i < l → xs[i]? = some (num (V0 i), num (V1 i)) := fun i hi => by rw [hxs]; simp [hi]
    refine ⟨_, _, _, xs, rfl, ⟨by rw [pc_length, hlen], fun hn => ?_⟩, hlen, hl, by omega, fun y hy => ?_⟩
    · obtain ⟨b, off, spot⟩ := x
      have h00 := (hcell 0 (by omega)).1
      have hspot : spot = none := by simpa [Addr.add] using World.cell?_spot h00
      subst hspot
      refine ⟨b, off, rfl, ?_, fun j u hu => ?_⟩
      · rcases Nat.lt_or_ge b w.heap.size with h | h
        · exact h
        · simp [World.cell?, Addr.add, Array.getElem?_eq_none h] at h00
      · have hj : j < l * 2 := by
          have := (List.getElem?_eq_some_iff.1 hu).1
          rw [pc_length, hlen] at this
          exact this
        have hadd : ∀ q : Nat, (⟨b, off, none⟩ : Addr).add q = ⟨b, off + q, none⟩ := fun q => by
          by_cases h0 : q = 0
          · subst h0; rfl
          · simp [Addr.add, h0]
        obtain ⟨k', hk'⟩ : ∃ k', j = k' * 2 ∨ j = k' * 2 + 1 := ⟨j / 2, by omega⟩
        have hkn : k' < l := by omega
        obtain ⟨g0, g1⟩ := pc_get xs k' _ (hget k' hkn)
        obtain ⟨a, b', e0, e1, _, _⟩ := hz k' hkn
        obtain ⟨c0, c1, _, _⟩ := hcell k' (by omega)
        rw [hadd] at c0 c1
        rw [e0] at g0 c0
        rw [e1] at g1 c1
        rcases hk' with rfl | rfl
        · rw [g0] at hu
          injection hu with hu
          subst hu
          exact c0
        · rw [g1] at hu
          injection hu with hu
          subst hu
          rw [← Nat.add_assoc] at c1 ⊢
          exact c1
    · rw [hxs] at hy
      simp only [List.mem_map, List.mem_range] at hy
      obtain ⟨i, hi, rfl⟩ := hy
      obtain ⟨a, b, e0, e1, wa, wb⟩ := hz i hi
      rw [e0, e1]
      exact ⟨wa, wb⟩

theorem opn_cyl {t s e i : TypeId} {f0 f1 f2 p0 p1 : Field} {v : Value} {d : DataW H} {p : List MemPlace} (ht : P.underlying t = some (.struct #[f0, f1, f2])) (hs : P.underlying s = some (.slice e)) (he : P.underlying e = some (.struct #[p0, p1])) (hi : P.underlying i = some (.int .i64))
    (h0 : f0.type = i) (h1 : f1.type = i) (h2 : f2.type = s) (q0 : p0.type = i) (q1 : p1.type = i) (o0 : p0.offset = 0) (o1 : p1.offset = 1) (hone : oneCellFields P #[f0, f1, f2] = true) (hC : P.cellsOf t = 3) (ce : P.cellsOf e = 2) (ci : P.cellsOf i = 1)
    (hv : Value.okWide P w r b0 t v) (h : DataW.Trod enc P w base spare held t v d p) :
    ∃ (a b : Int) (A : Option Addr) (n c : Nat) (xs : List (Int × Int)), v = .agg #[.int .i64 a, .int .i64 b, .slice A n c] ∧ Rd w w.heap.size 2 A n (pc xs) ∧ xs.length = n ∧ n ≤ c ∧ n ≤ 9223372036854775807 ∧ I64 a ∧ I64 b := by
  obtain ⟨c0, c1, c2, y0, y1, y2, m, rfl, rfl, rfl, k0, k1, k2⟩ := open_agg3 ht hone hC hv h
  rw [h0] at k0
  rw [h1] at k1
  rw [h2] at k2
  obtain ⟨a, e0, _, wa⟩ := DataW.trod_int hi k0
  obtain ⟨b, e1, _, wb⟩ := DataW.trod_int hi k1
  simp at e0 e1
  subst e0 e1
  obtain ⟨A, n, c, xs, rfl, r1, r2, r3, r4, _⟩ := opn_pairsT hs he hi q0 q1 o0 o1 ce ci k2
  exact ⟨a, b, A, n, c, xs, rfl, r1, r2, r3, r4, I64.of_wf wa, I64.of_wf wb⟩
end

end Go.Proofs.Ytjklobhnidbinaa
