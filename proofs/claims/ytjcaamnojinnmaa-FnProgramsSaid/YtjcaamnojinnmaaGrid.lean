/-
  A slice of slices of notes: as a list of lists, read in a world. No program in sight but for the program's types.
-/
import Derived.Test.YtjcaamnojinnmaaPairs
import Derived.Test.YtjcaamnojinnmaaOwnAid
import Derived.Test.YtjcaamnojinnmaaProgMath
namespace Go.Proofs.Ytjcaamnojinnmaa
open Go.ChangeShapes Go.WideShapes Go.ChangeAt Go.RowKit Go.Joins Go.Deep

/-- the slice of one row -/
def rowV (h : Option Addr × Nat) (t : List (Int × Int)) : Value := .slice h.1 t.length h.2
/-- the slice '.slice A n c' of slices holds the lists ts; hs: where the rows lie, and their capacities; all below block B -/
def RdSS (w : World) (B : Nat) (A : Option Addr) (n : Nat) (hs : List (Option Addr × Nat)) (ts : List (List (Int × Int))) : Prop :=
  hs.length = n ∧ ts.length = n ∧ (0 < n → ∃ b o, A = some ⟨b, o, none⟩ ∧ b < B ∧ ∀ (k : Nat) (h : Option Addr × Nat) (t : List (Int × Int)), hs[k]? = some h → ts[k]? = some t → w.cell? ⟨b, o + k, none⟩ = some (rowV h t)) ∧
    ∀ (k : Nat) (h : Option Addr × Nat) (t : List (Int × Int)), hs[k]? = some h → ts[k]? = some t → Rd w B 2 h.1 t.length (pc t) ∧ t.length ≤ h.2 ∧ t.length ≤ 1048576
section
variable {w w' : World} {B B' n : Nat} {A : Option Addr} {hs : List (Option Addr × Nat)} {ts : List (List (Int × Int))}
theorem RdSS.keep (h : RdSS w B A n hs ts) (hk : ∀ p : Addr, p.block < B → w'.cell? p = w.cell? p) : RdSS w' B A n hs ts :=
  ⟨h.1, h.2.1, fun hn => by
    obtain ⟨b, o, e, hb, hc⟩ := h.2.2.1 hn
    exact ⟨b, o, e, hb, fun k x t h1 h2 => (hk _ hb).trans (hc k x t h1 h2)⟩, fun k x t h1 h2 => by
    obtain ⟨r1, r2, r3⟩ := h.2.2.2 k x t h1 h2
    exact ⟨r1.keep hk, r2, r3⟩⟩
theorem RdSS.more (h : RdSS w B A n hs ts) (hB : B ≤ B') : RdSS w B' A n hs ts :=
  ⟨h.1, h.2.1, fun hn => by
    obtain ⟨b, o, e, hb, hc⟩ := h.2.2.1 hn
    exact ⟨b, o, e, by omega, hc⟩, fun k x t h1 h2 => by
    obtain ⟨r1, r2, r3⟩ := h.2.2.2 k x t h1 h2
    exact ⟨r1.more hB, r2, r3⟩⟩
theorem RdSS.below (h : RdSS w B A n hs ts) (hb : Below B w w') : RdSS w' B A n hs ts := h.keep fun _ hp => hb.cell hp
/-- read on behind a call -/
theorem RdSS.step (h : RdSS w w.heap.size A n hs ts) (hb : Below w.heap.size w w') : RdSS w' w'.heap.size A n hs ts := (h.below hb).more hb.size
/-- one row -/
theorem RdSS.at (h : RdSS w B A n hs ts) {k : Nat} (hk : k < n) :
    ∃ b o a c t, A = some ⟨b, o, none⟩ ∧ b < B ∧ hs[k]? = some (a, c) ∧ ts[k]? = some t ∧ w.cell? ⟨b, o + k, none⟩ = some (.slice a t.length c) ∧ Rd w B 2 a t.length (pc t) ∧ t.length ≤ c ∧ t.length ≤ 1048576 := by
  obtain ⟨b, o, e, hb, hc⟩ := h.2.2.1 (by omega)
  obtain ⟨⟨a, c⟩, h1⟩ : ∃ p, hs[k]? = some p := ⟨_, List.getElem?_eq_getElem (by rw [h.1]; exact hk)⟩
  obtain ⟨t, h2⟩ : ∃ t, ts[k]? = some t := ⟨_, List.getElem?_eq_getElem (by rw [h.2.1]; exact hk)⟩
  obtain ⟨r1, r2, r3⟩ := h.2.2.2 k _ t h1 h2
  exact ⟨b, o, a, c, t, e, hb, h1, h2, hc k _ t h1 h2, r1, r2, r3⟩
end
theorem rows_take {α : Type} {l : List α} {k : Nat} {y : α} (h : l[k]? = some y) : l.take (k + 1) = l.take k ++ [y] := by
  obtain ⟨hk, rfl⟩ := List.getElem?_eq_some_iff.1 h
  rw [List.take_succ_eq_append_getElem hk]
theorem rows_step {α : Type} {l : List α} {k : Nat} {y : α} {f : α → Bool} (h : l[k]? = some y) (ha : (l.take k).all f = true) (hy : f y = true) : (l.take (k + 1)).all f = true := by
  rw [rows_take h, List.all_append, ha]; simp [hy]
theorem rows_stop {α : Type} {l : List α} {k : Nat} {y : α} {f : α → Bool} (h : l[k]? = some y) (hy : f y = false) : l.all f = false := by
  rw [Bool.eq_false_iff]; intro ha
  have := List.all_eq_true.1 ha y (List.mem_of_getElem? h)
  rw [hy] at this; cases this

section
variable {H : Type} {enc : TypeId × Value → H} {P : Program} {w : World} {base : Nat} {spare : Nat → Bool} {held : Bool} {r : Reach} {b0 : Nat}
/-- one slice of pairs, read as a value -/
theorem opn_pairsT {fuel : Nat} {t e i : TypeId} {f0 f1 : Field} {v : Value} {x : DataW H × List MemPlace} (ht : P.underlying t = some (.slice e)) (he : P.underlying e = some (.struct #[f0, f1])) (hi : P.underlying i = some (.int .i64))
    (h0 : f0.type = i) (h1 : f1.type = i) (o0 : f0.offset = 0) (o1 : f1.offset = 1) (ce : P.cellsOf e = 2) (ci : P.cellsOf i = 1) (h : DataW.trod enc P w base spare held fuel t [v] = some x) :
    ∃ (A : Option Addr) (n c : Nat) (xs : List (Int × Int)), v = .slice A n c ∧ Rd w w.heap.size 2 A n (pc xs) ∧ xs.length = n ∧ n ≤ c ∧ n ≤ 9223372036854775807 ∧ ∀ x ∈ xs, I64 x.1 ∧ I64 x.2 := by
  rcases open_slice_pairs ht he ce o0 o1 (by rw [h0]; exact ci) (by rw [h1]; exact ci) h with ⟨hcs, _⟩ | ⟨x, l, cp, m, k, V0, V1, D0, D1, P0, P1, hcs, _, hl, hm, hmm, _, hcell⟩
  · injection hcs with hcs
    subst hcs
    exact ⟨none, 0, 0, [], rfl, Rd.nil _ _ _ _, rfl, by omega, by omega, by simp⟩
  · injection hcs with hcs
    subst hcs
    unfold maxLen at hm
    have hnm : l ≤ m := by rw [hmm]; split <;> omega
    have hz : ∀ j, j < l → ∃ a b : Int, V0 j = .int .i64 a ∧ V1 j = .int .i64 b ∧ I64 a ∧ I64 b := fun j hin => by
      obtain ⟨_, _, k0, k1⟩ := hcell j (by omega)
      rw [h0] at k0
      rw [h1] at k1
      obtain ⟨a, e0, _, wa⟩ := DataW.trod_int hi k0
      obtain ⟨b, e1, _, wb⟩ := DataW.trod_int hi k1
      simp at e0 e1
      exact ⟨a, b, e0, e1, I64.of_wf wa, I64.of_wf wb⟩
    let num : Value → Int := fun v => match v with | .int _ q => q | _ => 0
    obtain ⟨xs, hxs⟩ : ∃ xs, xs = (List.range l).map fun i => (num (V0 i), num (V1 i)) := ⟨_, rfl⟩
    have hlen : xs.length = l := by rw [hxs]; simp
    have hget : ∀ i, i < l → xs[i]? = some (num (V0 i), num (V1 i)) := fun i hi => by rw [hxs]; simp [hi]
    refine ⟨_, _, _, xs, rfl, ⟨by rw [pc_length, hlen], fun hn => ?_⟩, hlen, hl, by omega, fun y hy => ?_⟩
    · obtain ⟨b, off, spot⟩ := x
      have h00 := (hcell 0 (by omega)).1
      have hspot : spot = none := by simpa [Addr.add] using World.cell?_spot h00
      subst hspot
      refine ⟨b, off, rfl, ?_, fun j u hu => ?_⟩
      · rcases Nat.lt_or_ge b w.heap.size with h | h
        · exact h
        · simp [World.cell?, Addr.add, Array.getElem?_eq_none h] at h00
      · have hj : j < l * 2 := by
          have := (List.getElem?_eq_some_iff.1 hu).1
          rw [pc_length, hlen] at this
          exact this
        have hadd : ∀ q : Nat, (⟨b, off, none⟩ : Addr).add q = ⟨b, off + q, none⟩ := fun q => by
          by_cases h0 : q = 0
          · subst h0; rfl
          · simp [Addr.add, h0]
        obtain ⟨k', hk'⟩ : ∃ k', j = k' * 2 ∨ j = k' * 2 + 1 := ⟨j / 2, by omega⟩
        have hkn : k' < l := by omega
        obtain ⟨g0, g1⟩ := pc_get xs k' _ (hget k' hkn)
        obtain ⟨a, b', e0, e1, _, _⟩ := hz k' hkn
        obtain ⟨c0, c1, _, _⟩ := hcell k' (by omega)
        rw [hadd] at c0 c1
        rw [e0] at g0 c0
        rw [e1] at g1 c1
        rcases hk' with rfl | rfl
        · rw [g0] at hu
          injection hu with hu
          subst hu
          exact c0
        · rw [g1] at hu
          injection hu with hu
          subst hu
          rw [← Nat.add_assoc] at c1 ⊢
          exact c1
    · rw [hxs] at hy
      simp only [List.mem_map, List.mem_range] at hy
      obtain ⟨i, hi, rfl⟩ := hy
      obtain ⟨a, b, e0, e1, wa, wb⟩ := hz i hi
      rw [e0, e1]
      exact ⟨wa, wb⟩

/-- A slice of slices of pairs that came in, whose rows are not too long. -/
def RowsIn (w : World) (A : Option Addr) (n : Nat) (hs : List (Option Addr × Nat)) (ts : List (List (Int × Int))) : Prop :=
  hs.length = n ∧ ts.length = n ∧ (0 < n → ∃ b o, A = some ⟨b, o, none⟩ ∧ b < w.heap.size ∧ ∀ (k : Nat) (h : Option Addr × Nat) (t : List (Int × Int)), hs[k]? = some h → ts[k]? = some t → w.cell? ⟨b, o + k, none⟩ = some (rowV h t)) ∧
    ∀ (k : Nat) (h : Option Addr × Nat) (t : List (Int × Int)), hs[k]? = some h → ts[k]? = some t → Rd w w.heap.size 2 h.1 t.length (pc t) ∧ t.length ≤ h.2 ∧ t.length ≤ 9223372036854775807
theorem opn_rows {t s e i : TypeId} {f0 f1 : Field} {v : Value} {d : DataW H} {p : List MemPlace} (ht : P.underlying t = some (.slice s)) (hs : P.underlying s = some (.slice e)) (he : P.underlying e = some (.struct #[f0, f1])) (hi : P.underlying i = some (.int .i64))
    (h0 : f0.type = i) (h1 : f1.type = i) (o0 : f0.offset = 0) (o1 : f1.offset = 1) (cs : P.cellsOf s = 1) (ce : P.cellsOf e = 2) (ci : P.cellsOf i = 1)
    (hv : Value.okWide P w r b0 t v) (h : DataW.Trod enc P w base spare held t v d p) :
    ∃ (A : Option Addr) (n c : Nat) (hs : List (Option Addr × Nat)) (ts : List (List (Int × Int))), v = .slice A n c ∧ RowsIn w A n hs ts ∧ n ≤ c ∧ n ≤ 9223372036854775807 := by
  obtain ⟨A, n, c, rfl⟩ := okWide_slice ht hv
  obtain ⟨fuel, hf⟩ := h
  rcases open_slice1 ht cs hf with ⟨hcs, _⟩ | ⟨x, l, cp, m, k, V, D, Pl, hcs, _, hl, hm, hmm, _, hcell⟩
  · simp [Value.cells] at hcs
    obtain ⟨rfl, rfl, rfl⟩ := hcs
    exact ⟨none, 0, 0, [], [], rfl, ⟨rfl, rfl, fun h => absurd h (by omega), fun k h t h1 => by simp at h1⟩, by omega, by omega⟩
  · simp [Value.cells] at hcs
    obtain ⟨rfl, rfl, rfl⟩ := hcs
    unfold maxLen at hm
    have hnm : n ≤ m := by rw [hmm]; split <;> omega
    have each : ∀ j, j < n → ∃ q : (Option Addr × Nat) × List (Int × Int), V j = rowV q.1 q.2 ∧ Rd w w.heap.size 2 q.1.1 q.2.length (pc q.2) ∧ q.2.length ≤ q.1.2 ∧ q.2.length ≤ 9223372036854775807 := fun j hj => by
      obtain ⟨a', n', c', xs, e1, e2, e3, e4, e5, _⟩ := opn_pairsT hs he hi h0 h1 o0 o1 ce ci (hcell j (by omega)).2
      subst e3
      exact ⟨((a', c'), xs), e1, e2, e4, e5⟩
    obtain ⟨q, hq⟩ := choose_lt each
    have gh : ∀ k h t, ((List.range n).map fun j => (q j).1)[k]? = some h → ((List.range n).map fun j => (q j).2)[k]? = some t → k < n ∧ h = (q k).1 ∧ t = (q k).2 := fun k h t h1 h2 => by
      have hk : k < n := by have := (List.getElem?_eq_some_iff.1 h1).1; simpa using this
      simp [hk] at h1 h2
      exact ⟨hk, h1.symm, h2.symm⟩
    refine ⟨_, _, _, (List.range n).map fun j => (q j).1, (List.range n).map fun j => (q j).2, rfl, ⟨by simp, by simp, fun hn => ?_, fun k h t h1 h2 => ?_⟩, hl, by omega⟩
    · obtain ⟨b, off, spot⟩ := x
      have h00 := (hcell 0 (by omega)).1
      have hspot : spot = none := by simpa [Addr.add] using World.cell?_spot h00
      subst hspot
      refine ⟨b, off, rfl, ?_, fun k h t h1 h2 => ?_⟩
      · rcases Nat.lt_or_ge b w.heap.size with h | h
        · exact h
        · simp [World.cell?, Addr.add, Array.getElem?_eq_none h] at h00
      · obtain ⟨hk, rfl, rfl⟩ := gh k h t h1 h2
        have hc := (hcell k (by omega)).1
        rw [show (⟨b, off, none⟩ : Addr).add k = ⟨b, off + k, none⟩ by
          by_cases h0 : k = 0
          · subst h0; rfl
          · simp [Addr.add, h0]] at hc
        rw [hc, (hq k hk).1]
    · obtain ⟨hk, rfl, rfl⟩ := gh k h t h1 h2
      exact (hq k hk).2
end
theorem RowsIn.rd {w : World} {A : Option Addr} {n : Nat} {hs : List (Option Addr × Nat)} {ts : List (List (Int × Int))} (h : RowsIn w A n hs ts) (hm : ∀ t ∈ ts, t.length ≤ 1048576) : RdSS w w.heap.size A n hs ts :=
  ⟨h.1, h.2.1, h.2.2.1, fun k x t h1 h2 => by
    obtain ⟨r1, r2, _⟩ := h.2.2.2 k x t h1 h2
    exact ⟨r1, r2, hm t (List.mem_of_getElem? h2)⟩⟩

end Go.Proofs.Ytjcaamnojinnmaa
