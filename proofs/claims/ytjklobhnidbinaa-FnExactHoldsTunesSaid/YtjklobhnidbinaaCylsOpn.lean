/-
  A slice of cylinders that came in as an argument. No program in sight but for the types' shapes.
-/
import Derived.Test.YtjklobhnidbinaaCylOpn
import Derived.Test.YtjklobhnidbinaaCylS
namespace Go.Proofs.Ytjklobhnidbinaa
open Go.ChangeShapes Go.WideShapes Go.ChangeAt Go.RowKit Go.Joins Go.Deep

section
variable {H : Type} {enc : TypeId × Value → H} {P : Program} {w : World} {base : Nat} {spare : Nat → Bool} {held : Bool} {r : Reach} {b0 : Nat}
theorem opn_cyls {u t s e i : TypeId} {f0 f1 f2 p0 p1 : Field} {v : Value} {d : DataW H} {p : List MemPlace} (hu : P.underlying u = some (.slice t)) (ht : P.underlying t = some (.struct #[f0, f1, f2])) (hs : P.underlying s = some (.slice e)) (he : P.underlying e = some (.struct #[p0, p1])) (hi : P.underlying i = some (.int .i64))
    (h0 : f0.type = i) (h1 : f1.type = i) (h2 : f2.type = s) (j0 : f0.offset = 0) (j1 : f1.offset = 1) (j2 : f2.offset = 2) (q0 : p0.type = i) (q1 : p1.type = i) (o0 : p0.offset = 0) (o1 : p1.offset = 1) (hC : P.cellsOf t = 3) (cs : P.cellsOf s = 1) (ce : P.cellsOf e = 2) (ci : P.cellsOf i = 1)
    (hv : Value.okWide P w r b0 u v) (h : DataW.Trod enc P w base spare held u v d p) :
    ∃ (A : Option Addr) (n c : Nat) (hs : List (Option Addr × Nat)) (cs : List Cy), v = .slice A n c ∧ CylsIn w A n hs cs ∧ n ≤ c ∧ n ≤ 9223372036854775807 := by
  obtain ⟨A, n, c, rfl⟩ := okWide_slice hu hv
  obtain ⟨fuel, hf⟩ := h
  rcases open_slice hu hf with ⟨hcs, _⟩ | ⟨x, l, cp, m, k, D, Pl, hcs, _, hl, hm, hmm, _, hx⟩
  · simp [Value.cells] at hcs
    obtain ⟨rfl, rfl, rfl⟩ := hcs
    exact ⟨none, 0, 0, [], [], rfl, ⟨rfl, rfl, fun h => absurd h (by omega), fun k h t h1 => by simp at h1⟩, by omega, by omega⟩
  · simp [Value.cells] at hcs
    obtain ⟨rfl, rfl, rfl⟩ := hcs
    unfold maxLen at hm
    have hnm : n ≤ m := by rw [hmm]; split <;> omega
    have hadd : ∀ (z : Addr) (q q' : Nat), (z.add q).add q' = z.add (q + q') := fun z q q' => by
      obtain ⟨zb, zo, zs⟩ := z
      by_cases e : q = 0
      · subst e; simp [Addr.add]
      · by_cases e' : q' = 0
        · subst e'; simp [Addr.add]
        · simp [Addr.add, e, e', Nat.add_assoc]
    have each : ∀ j, j < n → ∃ q : (Option Addr × Nat) × Cy, w.cell? (x.add (j * 3)) = some (.int .i64 q.2.1) ∧ w.cell? (x.add (j * 3 + 1)) = some (.int .i64 q.2.2.1) ∧ w.cell? (x.add (j * 3 + 2)) = some (.slice q.1.1 q.2.2.2.length q.1.2) ∧ Rd w w.heap.size 2 q.1.1 q.2.2.2.length (pc q.2.2.2) ∧ q.2.2.2.length ≤ q.1.2 ∧ q.2.2.2.length ≤ 9223372036854775807 := fun j hj => by
      obtain ⟨cells, g1, g2⟩ := hx j (by omega)
      rw [hC] at g1
      obtain ⟨_, hlen, hcell⟩ := World.cells?_some g1
      obtain ⟨y0, y1, y2, fu, _, _, k0, k1, k2⟩ := trod_struct3 ht g2
      match cells, hlen with
      | [v0, v1, v2], _ =>
        rw [h0, j0, ci] at k0
        rw [h1, j1, ci] at k1
        rw [h2, j2, cs] at k2
        simp at k0 k1 k2
        obtain ⟨a, e0, _, _⟩ := DataW.trod_int hi k0
        obtain ⟨b, e1, _, _⟩ := DataW.trod_int hi k1
        simp at e0 e1
        subst e0 e1
        obtain ⟨a', n', c', xs, e1, e2, e3, e4, e5, _⟩ := opn_pairsT hs he hi q0 q1 o0 o1 ce ci k2
        subst e3 e1
        have d0 := hcell 0 (by omega)
        have d1 := hcell 1 (by omega)
        have d2 := hcell 2 (by omega)
        rw [hadd] at d0 d1 d2
        exact ⟨((a', c'), (a, b, xs)), by simpa using d0, by simpa using d1, by simpa using d2, e2, e4, e5⟩
    obtain ⟨q, hq⟩ := choose_lt each
    have gh : ∀ k h t, ((List.range n).map fun j => (q j).1)[k]? = some h → ((List.range n).map fun j => (q j).2)[k]? = some t → k < n ∧ h = (q k).1 ∧ t = (q k).2 := fun k h t h1 h2 => by
      have hk : k < n := by have := (List.getElem?_eq_some_iff.1 h1).1; simpa using this
      simp [hk] at h1 h2
      exact ⟨hk, h1.symm, h2.symm⟩
    refine ⟨_, _, _, (List.range n).map fun j => (q j).1, (List.range n).map fun j => (q j).2, rfl, ⟨by simp, by simp, fun hn => ?_, fun k h t h1 h2 => ?_⟩, hl, by omega⟩
    · obtain ⟨b, off, spot⟩ := x
      have h00 := (hq 0 (by omega)).1
      have hspot : spot = none := by simpa [Addr.add] using World.cell?_spot h00
      subst hspot
      have hpl : ∀ q : Nat, (⟨b, off, none⟩ : Addr).add q = ⟨b, off + q, none⟩ := fun q => by
        by_cases h0 : q = 0
        · subst h0; rfl
        · simp [Addr.add, h0]
      refine ⟨b, off, rfl, ?_, fun k h t h1 h2 => ?_⟩
      · rcases Nat.lt_or_ge b w.heap.size with h | h
        · exact h
        · simp [World.cell?, Addr.add, Array.getElem?_eq_none h] at h00
      · obtain ⟨hk, rfl, rfl⟩ := gh k h t h1 h2
        obtain ⟨d0, d1, d2, _⟩ := hq k hk
        rw [hpl] at d0 d1 d2
        exact ⟨d0, d1, d2⟩
    · obtain ⟨hk, rfl, rfl⟩ := gh k h t h1 h2
      exact (hq k hk).2.2.2
end

end Go.Proofs.Ytjklobhnidbinaa
