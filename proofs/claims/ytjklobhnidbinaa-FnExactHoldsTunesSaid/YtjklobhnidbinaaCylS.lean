/-
  The laws' own helpers on slices of cylinders: the bound on the lengths, a copy, a comparison of two that hold the same, the marking.
-/
import Derived.Test.YtjklobhnidbinaaCyl
import Derived.Test.YtjklobhnidbinaaHolds
import Derived.Deep.RegionHeld3
namespace Go.Proofs.Ytjklobhnidbinaa
open Go.RowKit

theorem infoCyl : (Try.prog.info? 28).map (fun i => (i.zero, i.size, i.bytes)) = some (some (.agg #[.int .i64 0, .int .i64 0, .slice none 0 0]), 3, 40) := by kernel_rfl
theorem rows_take {α : Type} {l : List α} {k : Nat} {y : α} (h : l[k]? = some y) : l.take (k + 1) = l.take k ++ [y] := by
  obtain ⟨hk, rfl⟩ := List.getElem?_eq_some_iff.1 h
  rw [List.take_succ_eq_append_getElem hk]
/-- only blocks from lo on and below hi (and new ones) have turned -/
def Between (lo hi : Nat) (w w' : World) : Prop := w'.os = w.os ∧ w'.tape = w.tape ∧ w'.output = w.output ∧ w.heap.size ≤ w'.heap.size ∧ ∀ b, b < w.heap.size → (b < lo ∨ hi ≤ b) → w'.heap[b]? = w.heap[b]?
theorem Between.refl (lo hi : Nat) (w : World) : Between lo hi w w := ⟨rfl, rfl, rfl, Nat.le_refl _, fun _ _ _ => rfl⟩
theorem Between.below {lo hi B : Nat} {w w' : World} (h : Between lo hi w w') (hB : B ≤ lo) (hs : B ≤ w.heap.size) : Below B w w' :=
  ⟨h.1, h.2.1, h.2.2.1, h.2.2.2.1, fun b hb => h.2.2.2.2 b (by omega) (Or.inl (by omega))⟩
theorem Between.grown {lo hi : Nat} {w w1 w2 : World} {r : Option Nat} (h : Between lo hi w w1) (hg : w1.grownBy w2 r) (hr : ∀ b, r = some b → lo ≤ b ∧ b < hi) : Between lo hi w w2 :=
  ⟨hg.os.trans h.1, hg.tape.trans h.2.1, hg.output.trans h.2.2.1, Nat.le_trans h.2.2.2.1 hg.size, fun b hb ho => (hg.block b (Nat.lt_of_lt_of_le hb h.2.2.2.1) (fun e => by have := hr b e.symm; omega)).trans (h.2.2.2.2 b hb ho)⟩
theorem own_between {w w' : World} {lo hi base size n : Nat} {v : Value} {xs : List Value} {e : TypeId} (h : w.ownsRow base e size v n xs) (hb : Between lo hi w w') (hv : ∀ b, v.ownBlock = some b → b < lo ∨ hi ≤ b) : w'.ownsRow base e size v n xs := by
  obtain ⟨h1, h2⟩ := h
  refine ⟨h1, ?_⟩
  rcases h2 with h2 | ⟨g, cap, cur, hv', hg, hh, r⟩
  · exact Or.inl h2
  · refine Or.inr ⟨g, cap, cur, hv', hg, ?_, r⟩
    have hlt : g < w.heap.size := by
      rcases Nat.lt_or_ge g w.heap.size with h | h
      · exact h
      · rw [Array.getElem?_eq_none h] at hh
        cases hh
    rw [hb.2.2.2.2 g hlt (hv g (by rw [hv']; rfl))]
    exact hh

theorem get_snoc {α : Type} {l : List α} {x y : α} {k : Nat} (h : (l ++ [x])[k]? = some y) : (k < l.length ∧ l[k]? = some y) ∨ (k = l.length ∧ y = x) := by
  by_cases hk : k < l.length
  · rw [List.getElem?_append_left hk] at h
    exact Or.inl ⟨hk, h⟩
  · rw [List.getElem?_append_right (by omega)] at h
    have h0 : k - l.length = 0 := by
      have := (List.getElem?_eq_some_iff.1 h).1
      simp at this
      omega
    rw [h0] at h
    injection h with h
    exact Or.inr ⟨by omega, h.symm⟩
def sumC (cs : List Cy) : Nat := (cs.map fun c => c.2.2.length).sum
theorem sumC_snoc (cs : List Cy) (c : Cy) : sumC (cs ++ [c]) = sumC cs + c.2.2.length := by simp [sumC]
theorem sumC_mem {cs : List Cy} {c : Cy} (h : c ∈ cs) : c.2.2.length ≤ sumC cs := by
  obtain ⟨a, b, rfl⟩ := List.append_of_mem h
  simp [sumC]
  omega
theorem sumC_take (cs : List Cy) (k : Nat) : sumC (cs.take k) ≤ sumC cs := by
  have h : sumC cs = sumC (cs.take k) + sumC (cs.drop k) := by
    unfold sumC
    rw [← List.sum_append, ← List.map_append, List.take_append_drop]
  omega
/-- a slice of cylinders that came in -/
def CylsIn (w : World) (A : Option Addr) (n : Nat) (hs : List (Option Addr × Nat)) (cs : List Cy) : Prop :=
  hs.length = n ∧ cs.length = n ∧ (0 < n → ∃ b o, A = some ⟨b, o, none⟩ ∧ b < w.heap.size ∧ ∀ (k : Nat) (h : Option Addr × Nat) (c : Cy), hs[k]? = some h → cs[k]? = some c → w.cell? ⟨b, o + k * 3, none⟩ = some (.int .i64 c.1) ∧ w.cell? ⟨b, o + k * 3 + 1, none⟩ = some (.int .i64 c.2.1) ∧ w.cell? ⟨b, o + k * 3 + 2, none⟩ = some (.slice h.1 c.2.2.length h.2)) ∧
    ∀ (k : Nat) (h : Option Addr × Nat) (c : Cy), hs[k]? = some h → cs[k]? = some c → Rd w w.heap.size 2 h.1 c.2.2.length (pc c.2.2) ∧ c.2.2.length ≤ h.2 ∧ c.2.2.length ≤ 9223372036854775807
theorem CylsIn.rd {w : World} {A : Option Addr} {n : Nat} {hs : List (Option Addr × Nat)} {cs : List Cy} (h : CylsIn w A n hs cs) (hm : ∀ c ∈ cs, c.2.2.length ≤ 1048576) : RdCS w w.heap.size A n hs cs :=
  ⟨h.1, h.2.1, h.2.2.1, fun k x t h1 h2 => by
    obtain ⟨r1, r2, _⟩ := h.2.2.2 k x t h1 h2
    exact ⟨r1, r2, hm t (List.mem_of_getElem? h2)⟩⟩

/-- the lengths taken off; -1 where they are too great -/
theorem szCyls (A : Option Addr) (n c : Nat) (hs : List (Option Addr × Nat)) (cs : List Cy) (w : World) (h : CylsIn w A n hs cs) (hn : n ≤ 9223372036854775807) :
    Calls Try.prog 19 #[.slice A n c, .int .i64 1048576] w fun e w' => ∃ z : Int, e = .returned (.int .i64 z) ∧ (z < 0 ∨ (0 ≤ z ∧ z ≤ 1048576 ∧ n ≤ 1048576 ∧ sumC cs ≤ 1048576)) ∧ Below w.heap.size w w' := by
  have H := Lib.hid h
  clear h
  have hni : (n : Int) ≤ 9223372036854775807 := by omega
  by_cases hn2 : (n : Int) ≤ 1048576
  case neg =>
    go_enter Try.func19, Try.ntmps19
    go_wp2
    go_ret
    exact ⟨-1, rfl, Or.inl (by omega), Below.refl _ _⟩
  have hn3 : ¬ (1048576 - (n : Int) < 0) := by omega
  go_enter Try.func19, Try.ntmps19
  go_wp2
  go_loopw [1, 5] (fun s i wr => ∃ k m : Nat, k ≤ n ∧ i = .int .i64 k ∧ s = .int .i64 m ∧ m ≤ 1048576 ∧ Hid (sumC (cs.take k) + m + n = 1048576) ∧ Below w.heap.size w wr) (fun _ i _ => n - (intOf i).toNat)
  case atStart => exact ⟨0, 1048576 - n, Nat.zero_le _, rfl, by first | rfl | (congr 1; omega), by omega, Lib.hid (by simp [sumC]; omega), Below.refl _ _⟩
  case round =>
    obtain ⟨k, m, hk, rfl, rfl, hm, hall, hbl⟩ := hrel
    by_cases hlt : (k : Int) < n
    · obtain ⟨b, o, rfl, hbB, hc⟩ := H.out.2.2.1 (by omega)
      obtain ⟨⟨a, cc⟩, h1⟩ : ∃ p, hs[k]? = some p := ⟨_, List.getElem?_eq_getElem (by rw [H.out.1]; omega)⟩
      obtain ⟨⟨s, t, l⟩, h2⟩ : ∃ t, cs[k]? = some t := ⟨_, List.getElem?_eq_getElem (by rw [H.out.2.1]; omega)⟩
      obtain ⟨g0, g1, g2⟩ := hc k _ _ h1 h2
      have c0 : wr.cell? ⟨b, o + k * 3, none⟩ = some (.int .i64 s) := (hbl.cell (p := ⟨b, o + k * 3, none⟩) hbB).trans g0
      have c1 : wr.cell? ⟨b, o + k * 3 + 1, none⟩ = some (.int .i64 t) := (hbl.cell (p := ⟨b, o + k * 3 + 1, none⟩) hbB).trans g1
      have c2 : wr.cell? ⟨b, o + k * 3 + 2, none⟩ = some (.slice a l.length cc) := (hbl.cell (p := ⟨b, o + k * 3 + 2, none⟩) hbB).trans g2
      obtain ⟨_, _, hl⟩ := H.out.2.2.2 k _ _ h1 h2
      have h2t := rows_take h2
      obtain ⟨L, hll⟩ : ∃ L, L = l.length := ⟨_, rfl⟩
      simp only at hl
      rw [← hll] at c2 hl
      have SZ := Lib.hid (fun w => szCyl_any s t a L cc m w (by omega) hm)
      have HLL := Lib.hid hll
      have H2 := Lib.hid h2t
      clear h1 h2 hc hll h2t g0 g1 g2
      by_cases hlm : L ≤ m
      · rw [if_pos hlm] at SZ
        have hz : ¬ ((m : Int) - L < 0) := by omega
        go_wp2_with (go_at_call 8; refine (SZ.out _).mono ?_; rintro e w1 ⟨rfl, hb1⟩)
        go_roundw
        case rel =>
          refine ⟨k + 1, m - L, by omega, by go_num, by first | rfl | (congr 1; omega), by omega, Lib.hid ?_, hbl.trans (hb1.mono hbl.size)⟩
          rw [H2.out, sumC_snoc]
          simp only
          rw [← HLL.out]
          have := hall.out
          omega
        case measure => simp [intOf] <;> omega
      · rw [if_neg hlm] at SZ
        go_wp2_with (go_at_call 8; refine (SZ.out _).mono ?_; rintro e w1 ⟨rfl, hb1⟩)
        go_ret
        exact ⟨-1, rfl, Or.inl (by omega), hbl.trans (hb1.mono hbl.size)⟩
    · obtain rfl : k = n := by omega
      have hall2 := hall.out
      rw [List.take_of_length_le (by rw [H.out.2.1]; omega)] at hall2
      have HA := Lib.hid hall2
      clear hall2
      go_wp2
      go_ret
      exact ⟨m, rfl, Or.inr ⟨by omega, by omega, by omega, by have := HA.out; omega⟩, hbl⟩

/-! ### A copy -/
def cyV (h : Option Addr × Nat) (c : Cy) : Value := .slice h.1 c.2.2.length h.2
/-- cylinders made one behind the other, hung into block g -/
def CPart (W w : World) (g : Nat) (hs : List (Option Addr × Nat)) (cs : List Cy) (cells : Array Value) : Prop :=
  hs.length = cs.length ∧ Blk w g 28 cells ∧
    (∀ (k : Nat) (h : Option Addr × Nat) (c : Cy), hs[k]? = some h → cs[k]? = some c → cells[k * 3]? = some (.int .i64 c.1) ∧ cells[k * 3 + 1]? = some (.int .i64 c.2.1) ∧ cells[k * 3 + 2]? = some (cyV h c) ∧ w.ownsRow W.heap.size 50 2 (cyV h c) c.2.2.length (pc c.2.2) ∧ (cyV h c).ownBlock ≠ some g ∧ c.2.2.length ≤ 1048576) ∧
    ∀ (i j : Nat) (h : Option Addr × Nat) (c : Cy) (h' : Option Addr × Nat) (c' : Cy), i < j → hs[i]? = some h → cs[i]? = some c → hs[j]? = some h' → cs[j]? = some c' → (cyV h c).ownBlock = none ∨ (cyV h c).ownBlock ≠ (cyV h' c').ownBlock
theorem own_set3S {w : World} {base size n g i : Nat} {v x y u : Value} {xs : List Value} {e : TypeId} (h : w.ownsRow base e size v n xs) (hne : v.ownBlock ≠ some g) : (((w.setCell ⟨g, i, none⟩ x).setCell ⟨g, i + 1, none⟩ y).setCell ⟨g, i + 2, none⟩ u).ownsRow base e size v n xs := by
  refine h.kept (row := some g) (grown_trans (grown_trans (grown_set1 _) (grown_set1 _)) (grown_set1 _)) ?_
  cases e : v.ownBlock with
  | none => exact Or.inl rfl
  | some b => right; intro e2; exact hne (by rw [e, e2])
theorem CPart.step {W w w1 : World} {g : Nat} {hs : List (Option Addr × Nat)} {cs : List Cy} {cells : Array Value} {A : Option Addr} {cp : Nat} {c : Cy} (h : CPart W w g hs cs cells) (hW : W.heap.size ≤ w.heap.size)
    (ho : w1.ownsRow w.heap.size 50 2 (.slice A c.2.2.length cp) c.2.2.length (pc c.2.2)) (hb : Below w.heap.size w w1) (hk : cs.length * 3 + 2 < cells.size) (hl : c.2.2.length ≤ 1048576) :
    CPart W (((w1.setCell ⟨g, cs.length * 3, none⟩ (.int .i64 c.1)).setCell ⟨g, cs.length * 3 + 1, none⟩ (.int .i64 c.2.1)).setCell ⟨g, cs.length * 3 + 2, none⟩ (.slice A c.2.2.length cp)) g (hs ++ [(A, cp)]) (cs ++ [c]) (((cells.setIfInBounds (cs.length * 3) (.int .i64 c.1)).setIfInBounds (cs.length * 3 + 1) (.int .i64 c.2.1)).setIfInBounds (cs.length * 3 + 2) (.slice A c.2.2.length cp)) := by
  obtain ⟨h1, h2, h3, h4⟩ := h
  have hgw := h2.lt
  have hown := fun b => ho.lt b
  refine ⟨by simp [h1], (((h2.below hb hgw).set_ _ _).set_ _ _).set_ _ _, fun k h c' hk1 hk2 => ?_, fun i j h c' h' c'' hij q1 q2 q3 q4 => ?_⟩
  · rcases get_snoc hk1 with ⟨i1, i2⟩ | ⟨i1, i2⟩
    · rcases get_snoc hk2 with ⟨j1, j2⟩ | ⟨j1, j2⟩
      · obtain ⟨r1, r2, r3, r4, r5, r6⟩ := h3 k h c' i2 j2
        refine ⟨?_, ?_, ?_, own_set3S (own_below r4 hb) r5, r5, r6⟩
        · rw [Array.getElem?_setIfInBounds_ne (by omega), Array.getElem?_setIfInBounds_ne (by omega), Array.getElem?_setIfInBounds_ne (by omega)]; exact r1
        · rw [Array.getElem?_setIfInBounds_ne (by omega), Array.getElem?_setIfInBounds_ne (by omega), Array.getElem?_setIfInBounds_ne (by omega)]; exact r2
        · rw [Array.getElem?_setIfInBounds_ne (by omega), Array.getElem?_setIfInBounds_ne (by omega), Array.getElem?_setIfInBounds_ne (by omega)]; exact r3
      · omega
    · rcases get_snoc hk2 with ⟨j1, j2⟩ | ⟨j1, j2⟩
      · omega
      · subst i2 j2
        have hne : (cyV (A, cp) c').ownBlock ≠ some g := fun e => by have := (hown g e).1; omega
        refine ⟨?_, ?_, ?_, own_set3S (own_base ho hW) hne, hne, hl⟩
        · rw [j1, Array.getElem?_setIfInBounds_ne (by omega), Array.getElem?_setIfInBounds_ne (by omega), Array.getElem?_setIfInBounds_self_of_lt (by omega)]
        · rw [j1, Array.getElem?_setIfInBounds_ne (by omega), Array.getElem?_setIfInBounds_self_of_lt (by simp; omega)]
        · rw [j1, Array.getElem?_setIfInBounds_self_of_lt (by simp; omega)]
          rfl
  · rcases get_snoc q1 with ⟨i1, i2⟩ | ⟨i1, i2⟩
    · rcases get_snoc q2 with ⟨j1, j2⟩ | ⟨j1, j2⟩
      · rcases get_snoc q3 with ⟨k1, k2⟩ | ⟨k1, k2⟩
        · rcases get_snoc q4 with ⟨l1, l2⟩ | ⟨l1, l2⟩
          · exact h4 i j h c' h' c'' hij i2 j2 k2 l2
          · omega
        · rcases get_snoc q4 with ⟨l1, l2⟩ | ⟨l1, l2⟩
          · omega
          · subst k2 l2
            exact own_apart (h3 i h c' i2 j2).2.2.2.1 ho
      · omega
    · have := (List.getElem?_eq_some_iff.1 q3).1
      simp at this
      omega
/-- a slice of cylinders of a call's own: all its blocks from 'base' on and below 'hi', no two rows in one block -/
def OwnCS (w : World) (base hi : Nat) (A : Option Addr) (n c : Nat) (hs : List (Option Addr × Nat)) (cs : List Cy) : Prop :=
  cs.length = n ∧ ∃ g cells, A = some ⟨g, 0, none⟩ ∧ base ≤ g ∧ g < hi ∧ n ≤ c ∧ cells.size = n * 3 ∧ (∃ W : World, W.heap.size = base ∧ CPart W w g hs cs cells) ∧ ∀ (k : Nat) (h : Option Addr × Nat) (t : Cy) (b : Nat), hs[k]? = some h → cs[k]? = some t → (cyV h t).ownBlock = some b → b < hi
theorem CPart.below {W w w' : World} {g : Nat} {hs : List (Option Addr × Nat)} {cs : List Cy} {cells : Array Value} (h : CPart W w g hs cs cells) (hb : Below w.heap.size w w') : CPart W w' g hs cs cells :=
  ⟨h.1, h.2.1.below hb h.2.1.lt, fun k x t h1 h2 => by
    obtain ⟨r1, r2, r3, r4, r5, r6⟩ := h.2.2.1 k x t h1 h2
    exact ⟨r1, r2, r3, own_below r4 hb, r5, r6⟩, h.2.2.2⟩
theorem OwnCS.below {w w' : World} {base hi n c : Nat} {A : Option Addr} {hs : List (Option Addr × Nat)} {cs : List Cy} (h : OwnCS w base hi A n c hs cs) (hb : Below w.heap.size w w') : OwnCS w' base hi A n c hs cs := by
  obtain ⟨h0, g, cells, h1, h2, h3, h4, h5, ⟨W, hW, hP⟩, h6⟩ := h
  exact ⟨h0, g, cells, h1, h2, h3, h4, h5, ⟨W, hW, hP.below hb⟩, h6⟩
theorem OwnCS.rd {w : World} {base hi n c : Nat} {A : Option Addr} {hs : List (Option Addr × Nat)} {cs : List Cy} (h : OwnCS w base hi A n c hs cs) : RdCS w w.heap.size A n hs cs := by
  obtain ⟨h0, g, cells, h1, _, _, _, _, ⟨W, _, hP⟩, _⟩ := h
  refine ⟨hP.1.trans h0, h0, fun _ => ⟨g, 0, h1, hP.2.1.lt, fun k x t q1 q2 => ?_⟩, fun k x t q1 q2 => ?_⟩
  · obtain ⟨r1, r2, r3, _⟩ := hP.2.2.1 k x t q1 q2
    rw [Nat.zero_add, hP.2.1.cell, hP.2.1.cell, hP.2.1.cell]
    exact ⟨r1, r2, r3⟩
  · obtain ⟨_, _, _, r2, _, r4⟩ := hP.2.2.1 k x t q1 q2
    exact ⟨Rd.of_own r2, own_capS r2, r4⟩
def MadeCS (w : World) (n : Nat) (cs : List Cy) (e : Ending) (w' : World) : Prop := ∃ A' c' hs', e = .returned (.slice A' n c') ∧ OwnCS w' w.heap.size w'.heap.size A' n c' hs' cs ∧ Below w.heap.size w w'
theorem make_Cyl (n : Nat) (hn : n ≤ 1048576) (w : World) :
    (Instr.makeSlice 40 (.int .i64 (n : Int)) (.int .i64 (n : Int))).run Try.prog w = .ok (.slice (some ⟨w.heap.size, 0, none⟩) n n) (w.alloc (.cells (madeCells #[.int .i64 0, .int .i64 0, .slice none 0 0] (n * 3)) 28)) := by
  obtain ⟨i0, hi, hz0, hz1, hz2⟩ := info_parts infoCyl
  have hr := run_make (P := Try.prog) w 40 28 i0 _ Try.underlying40 hi hz0 .i64 .i64 n n (by omega) (by omega) (by rw [hz2]; omega) (by omega)
  simp only [Int.toNat_natCast] at hr
  rw [hr, hz1]
  rfl

set_option maxHeartbeats 1000000 in
theorem toCyls (A : Option Addr) (n c : Nat) (hs : List (Option Addr × Nat)) (cs : List Cy) (w : World) (h : RdCS w w.heap.size A n hs cs) (hn : n ≤ 1048576) :
    Calls Try.prog 21 #[.slice A n c] w (MadeCS w n cs) := by
  have hmk := make_Cyl n hn
  have H := Lib.hid h
  have hni : (n : Int) ≤ 1048576 := by omega
  clear h
  go_enter Try.func21, Try.ntmps21
  go_wp2
  clear hmk
  go_loopw [4] (fun i wr => ∃ (k : Nat) (hs' : List (Option Addr × Nat)) (cells : Array Value), k ≤ n ∧ i = .int .i64 k ∧ cells.size = n * 3 ∧ CPart w wr w.heap.size hs' (cs.take k) cells ∧ Below w.heap.size w wr) (fun i _ => n - (intOf i).toNat)
  case atStart => exact ⟨0, [], _, Nat.zero_le _, rfl, by simp [madeCells], ⟨rfl, Blk.new _ _ _, fun k x t h => by simp at h, fun i j x t x' t' _ h => by simp at h⟩, (Below.refl _ _).alloc (Nat.le_refl _) _⟩
  case round =>
    obtain ⟨k, hs', cells, hk, rfl, hsz, hP, hbl⟩ := hrel
    by_cases hlt : (k : Int) < n
    · obtain ⟨b, o, a, cc, s, t, l, rfl, hbB, _, htt, g0, g1, g2, hrr, hcc, hl⟩ := H.out.at (k := k) (by omega)
      have c0 : wr.cell? ⟨b, o + k * 3, none⟩ = some (.int .i64 s) := (hbl.cell (p := ⟨b, o + k * 3, none⟩) hbB).trans g0
      have c1 : wr.cell? ⟨b, o + k * 3 + 1, none⟩ = some (.int .i64 t) := (hbl.cell (p := ⟨b, o + k * 3 + 1, none⟩) hbB).trans g1
      have c2 : wr.cell? ⟨b, o + k * 3 + 2, none⟩ = some (.slice a l.length cc) := (hbl.cell (p := ⟨b, o + k * 3 + 2, none⟩) hbB).trans g2
      have HR := Lib.hid ((hrr.below hbl).more hbl.size)
      have hkl : (cs.take k).length = k := by rw [List.length_take, H.out.2.1]; omega
      have h2t := rows_take htt
      have TN := Lib.hid (fun w h => toCyl_any s t a l.length cc l w h hl)
      obtain ⟨L, hll⟩ : ∃ L, L = l.length := ⟨_, rfl⟩
      rw [← hll] at c2 TN HR hl
      have HLL := Lib.hid hll
      have H2 := Lib.hid h2t
      have HKL := Lib.hid hkl
      have HS := Lib.hid hsz
      have HP := Lib.hid hP
      have zb := hbl.size
      clear htt g0 g1 g2 hrr hcc hll h2t hkl hsz hP
      go_wp2_with fail
      refine (TN.out _ HR.out).mono ?_
      rintro e w1 ⟨A1, c1', rfl, ho1, hb1⟩
      have ho := ho1
      rw [HLL.out] at ho
      have hst := HP.out.step (c := (s, t, l)) (A := A1) (cp := c1') zb ho hb1 (by rw [HKL.out, HS.out]; omega) (by simp only; rw [← HLL.out]; exact hl)
      simp only at hst
      rw [← HLL.out, HKL.out] at hst
      have kb := HP.out.2.1.below hb1 HP.out.2.1.lt
      have d0 : ∃ u, w1.cell? ⟨w.heap.size, k * 3, none⟩ = some u := ⟨cells[k * 3]'(by rw [HS.out]; omega), by rw [kb.cell (k * 3)]; simp⟩
      have d1 : ∃ u, w1.cell? ⟨w.heap.size, k * 3 + 1, none⟩ = some u := ⟨cells[k * 3 + 1]'(by rw [HS.out]; omega), by rw [kb.cell (k * 3 + 1)]; simp⟩
      have d2 : ∃ u, w1.cell? ⟨w.heap.size, k * 3 + 2, none⟩ = some u := ⟨cells[k * 3 + 2]'(by rw [HS.out]; omega), by rw [kb.cell (k * 3 + 2)]; simp⟩
      obtain ⟨u0, d0⟩ := d0
      obtain ⟨u1, d1⟩ := d1
      obtain ⟨u2, d2⟩ := d2
      have f0 := kb.frozen (k * 3)
      have f1 := kb.frozen (k * 3 + 1)
      have f2 := kb.frozen (k * 3 + 2)
      have HST := Lib.hid hst
      have bb := hbl.trans (hb1.mono zb)
      clear hst ho ho1 kb
      go_wp2
      go_roundw
      case rel =>
        refine ⟨k + 1, _, _, by omega, by go_num, ?_, by rw [H2.out]; exact HST.out, ((bb.setCell (Nat.le_refl _) _).setCell (Nat.le_refl _) _).setCell (Nat.le_refl _) _⟩
        simp [HS.out]
      case measure => simp [intOf]; omega
    · obtain rfl : k = n := by omega
      rw [List.take_of_length_le (by rw [H.out.2.1]; omega)] at hP
      have HP := Lib.hid hP
      clear hP
      go_wp2
      go_ret
      exact ⟨_, _, hs', rfl, ⟨H.out.2.1, w.heap.size, cells, rfl, Nat.le_refl _, HP.out.2.1.lt, Nat.le_refl _, hsz, ⟨w, rfl, HP.out⟩, fun j x t b q1 q2 q3 => ((HP.out.2.2.1 j x t q1 q2).2.2.2.1.lt b q3).2⟩, hbl⟩

set_option maxHeartbeats 1000000 in
theorem eqCyls (A A' : Option Addr) (n c c' : Nat) (hs hs' : List (Option Addr × Nat)) (cs : List Cy) (w : World) (h : RdCS w w.heap.size A n hs cs) (h' : RdCS w w.heap.size A' n hs' cs) (hn : n ≤ 1048576) :
    Calls Try.prog 23 #[.slice A n c, .slice A' n c'] w fun e w' => e = .returned (.bool true) ∧ Below w.heap.size w w' := by
  have H := Lib.hid h
  have H' := Lib.hid h'
  have hni : (n : Int) ≤ 1048576 := by omega
  clear h h'
  go_enter Try.func23, Try.ntmps23
  go_wp2
  go_loopw [5] (fun i wr => ∃ k : Nat, k ≤ n ∧ i = .int .i64 k ∧ Below w.heap.size w wr) (fun i _ => n - (intOf i).toNat)
  case atStart => exact ⟨0, Nat.zero_le _, rfl, Below.refl _ _⟩
  case round =>
    obtain ⟨k, hk, rfl, hbl⟩ := hrel
    by_cases hlt : (k : Int) < n
    · obtain ⟨b, o, a, cc, s, t, l, rfl, hbB, _, htt, g0, g1, g2, hrr, hcc, hl⟩ := H.out.at (k := k) (by omega)
      obtain ⟨b', o', a', cc', s', t', l', rfl, hbB', _, htt', g0', g1', g2', hrr', hcc', _⟩ := H'.out.at (k := k) (by omega)
      obtain ⟨rfl, rfl, rfl⟩ : s = s' ∧ t = t' ∧ l = l' := by rw [htt] at htt'; injection htt' with htt'; injection htt' with e1 e2; injection e2 with e2 e3; exact ⟨e1, e2, e3⟩
      have c0 : wr.cell? ⟨b, o + k * 3, none⟩ = some (.int .i64 s) := (hbl.cell (p := ⟨b, o + k * 3, none⟩) hbB).trans g0
      have c1 : wr.cell? ⟨b, o + k * 3 + 1, none⟩ = some (.int .i64 t) := (hbl.cell (p := ⟨b, o + k * 3 + 1, none⟩) hbB).trans g1
      have c2 : wr.cell? ⟨b, o + k * 3 + 2, none⟩ = some (.slice a l.length cc) := (hbl.cell (p := ⟨b, o + k * 3 + 2, none⟩) hbB).trans g2
      have c3 : wr.cell? ⟨b', o' + k * 3, none⟩ = some (.int .i64 s) := (hbl.cell (p := ⟨b', o' + k * 3, none⟩) hbB').trans g0'
      have c4 : wr.cell? ⟨b', o' + k * 3 + 1, none⟩ = some (.int .i64 t) := (hbl.cell (p := ⟨b', o' + k * 3 + 1, none⟩) hbB').trans g1'
      have c5 : wr.cell? ⟨b', o' + k * 3 + 2, none⟩ = some (.slice a' l.length cc') := (hbl.cell (p := ⟨b', o' + k * 3 + 2, none⟩) hbB').trans g2'
      have HR := Lib.hid ((hrr.below hbl).more hbl.size)
      have HR' := Lib.hid ((hrr'.below hbl).more hbl.size)
      obtain ⟨L, hll⟩ : ∃ L, L = l.length := ⟨_, rfl⟩
      rw [← hll] at c2 c5 HR HR' hl
      have zb := hbl.size
      have hk0 : (0 : Int) ≤ k := by omega
      clear htt g0 g1 g2 hrr hcc htt' g0' g1' g2' hrr' hcc' hll
      go_wp2
      go_region_held3 (fun w' => w'.cell? ⟨b, o + k * 3, none⟩ = some (.int .i64 s) ∧ w'.cell? ⟨b, o + k * 3 + 1, none⟩ = some (.int .i64 t) ∧ w'.cell? ⟨b, o + k * 3 + 2, none⟩ = some (.slice a L cc) ∧ w'.cell? ⟨b', o' + k * 3, none⟩ = some (.int .i64 s) ∧ w'.cell? ⟨b', o' + k * 3 + 1, none⟩ = some (.int .i64 t) ∧ w'.cell? ⟨b', o' + k * 3 + 2, none⟩ = some (.slice a' L cc')) (first | exact ⟨c0, c1, c2, c3, c4, c5⟩ | exact ⟨k0, k1, k2, k3, k4, k5⟩) ((go_at_call 12; refine (eqCyl_same s t a a' L cc cc' l _ HR.out.drew HR'.out.drew (by omega)).mono ?_; rintro e w1 ⟨rfl, hb1⟩; have k0 := (hb1.cell (p := ⟨b, o + k * 3, none⟩) (Nat.lt_of_lt_of_le hbB zb)).trans c0; have k1 := (hb1.cell (p := ⟨b, o + k * 3 + 1, none⟩) (Nat.lt_of_lt_of_le hbB zb)).trans c1; have k2 := (hb1.cell (p := ⟨b, o + k * 3 + 2, none⟩) (Nat.lt_of_lt_of_le hbB zb)).trans c2; have k3 := (hb1.cell (p := ⟨b', o' + k * 3, none⟩) (Nat.lt_of_lt_of_le hbB' zb)).trans c3; have k4 := (hb1.cell (p := ⟨b', o' + k * 3 + 1, none⟩) (Nat.lt_of_lt_of_le hbB' zb)).trans c4; have k5 := (hb1.cell (p := ⟨b', o' + k * 3 + 2, none⟩) (Nat.lt_of_lt_of_le hbB' zb)).trans c5))
      go_wp2
      go_roundw
      case rel => exact ⟨k + 1, by omega, by go_num, hbl.drew.trans (hb1.mono zb)⟩
      case measure => simp [intOf]; omega
    · obtain rfl : k = n := by omega
      go_wp2
      go_ret
      exact ⟨rfl, hbl⟩

end Go.Proofs.Ytjklobhnidbinaa
