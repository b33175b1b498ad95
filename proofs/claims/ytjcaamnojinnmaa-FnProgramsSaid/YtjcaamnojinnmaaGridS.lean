/-
  The laws' own helpers on slices of slices of notes: the bound on the lengths, a copy, a comparison of two that hold the same.
-/
import Derived.Test.YtjcaamnojinnmaaGrid
import Derived.Test.YtjcaamnojinnmaaNoteS
import Derived.Deep.RegionHeld3
namespace Go.Proofs.Ytjcaamnojinnmaa
open Go.RowKit

theorem infoRow : (Try.prog.info? 46).map (fun i => (i.zero, i.size, i.bytes)) = some (some (.slice none 0 0), 1, 24) := by kernel_rfl

/-- the lengths taken off; -1 where they are too great -/
theorem szGrid (A : Option Addr) (n c : Nat) (hs : List (Option Addr × Nat)) (ts : List (List (Int × Int))) (w : World) (h : RowsIn w A n hs ts) (hn : n ≤ 9223372036854775807) :
    Calls Try.prog 8 #[.slice A n c, .int .i64 1048576] w fun e w' => ∃ z : Int, e = .returned (.int .i64 z) ∧ (z < 0 ∨ (0 ≤ z ∧ z ≤ 1048576 ∧ n ≤ 1048576 ∧ ∀ t ∈ ts, t.length ≤ 1048576)) ∧ w = w' := by
  have H := Lib.hid h
  clear h
  have hni : (n : Int) ≤ 9223372036854775807 := by omega
  by_cases hn2 : (n : Int) ≤ 1048576
  case neg =>
    go_enter Try.func8, Try.ntmps8
    go_wp2
    go_ret
    exact ⟨-1, rfl, Or.inl (by omega), rfl⟩
  have hn3 : ¬ (1048576 - (n : Int) < 0) := by omega
  go_enter Try.func8, Try.ntmps8
  go_wp2
  go_loop [1, 5] (fun s i => ∃ k m : Nat, k ≤ n ∧ i = .int .i64 k ∧ s = .int .i64 m ∧ m ≤ 1048576 ∧ Hid (∀ t ∈ ts.take k, t.length ≤ 1048576)) (fun _ i => n - (intOf i).toNat)
  case atStart => exact ⟨0, 1048576 - n, Nat.zero_le _, rfl, by first | rfl | (congr 1; omega), by omega, Lib.hid (by simp)⟩
  case round =>
    obtain ⟨k, m, hk, rfl, rfl, hm, hall⟩ := hrel
    by_cases hlt : (k : Int) < n
    · obtain ⟨b, o, rfl, hbB, hc⟩ := H.out.2.2.1 (by omega)
      obtain ⟨⟨a, cc⟩, h1⟩ : ∃ p, hs[k]? = some p := ⟨_, List.getElem?_eq_getElem (by rw [H.out.1]; omega)⟩
      obtain ⟨t, h2⟩ : ∃ t, ts[k]? = some t := ⟨_, List.getElem?_eq_getElem (by rw [H.out.2.1]; omega)⟩
      have c0 : w.cell? ⟨b, o + k, none⟩ = some (.slice a t.length cc) := hc k _ t h1 h2
      obtain ⟨_, _, hl⟩ := H.out.2.2.2 k _ t h1 h2
      have h2t := rows_take h2
      obtain ⟨l, hll⟩ : ∃ l, l = t.length := ⟨_, rfl⟩
      have SZ := Lib.hid (fun w => szNoteS_any a l cc m w (by omega) hm)
      rw [← hll] at c0 hl
      have HLL := Lib.hid hll
      have H2 := Lib.hid h2t
      clear h1 h2 hc hll h2t
      by_cases hlm : l ≤ m
      · rw [if_pos hlm] at SZ
        have hz : ¬ ((m : Int) - l < 0) := by omega
        go_wp2_with (go_at_call 29; refine (SZ.out _).mono ?_; rintro e w' ⟨rfl, rfl⟩)
        go_round
        case rel =>
          refine ⟨k + 1, m - l, by omega, by go_num, by first | rfl | (congr 1; omega), by omega, Lib.hid ?_⟩
          rw [H2.out]
          intro t' ht'
          rcases List.mem_append.1 ht' with h | h
          · exact hall.out t' h
          · rw [List.mem_singleton.1 h, ← HLL.out]
            omega
        case measure => simp [intOf]; omega
      · rw [if_neg hlm] at SZ
        go_wp2_with (go_at_call 29; refine (SZ.out _).mono ?_; rintro e w' ⟨rfl, rfl⟩)
        go_ret
        exact ⟨-1, rfl, Or.inl (by omega), rfl⟩
    · obtain rfl : k = n := by omega
      have hall2 := hall.out
      rw [List.take_of_length_le (by rw [H.out.2.1]; omega)] at hall2
      have HA := Lib.hid hall2
      clear hall2
      go_wp2
      go_ret
      exact ⟨m, rfl, Or.inr ⟨by omega, by omega, by omega, HA.out⟩, rfl⟩

/-! ### A copy -/

/-- rows made one behind the other, hung into block g -/
def Part (W w : World) (g : Nat) (hs : List (Option Addr × Nat)) (ts : List (List (Int × Int))) (cs : Array Value) : Prop :=
  hs.length = ts.length ∧ Blk w g 46 cs ∧
    (∀ (k : Nat) (h : Option Addr × Nat) (t : List (Int × Int)), hs[k]? = some h → ts[k]? = some t → cs[k]? = some (rowV h t) ∧ w.ownsRow W.heap.size 67 2 (rowV h t) t.length (pc t) ∧ (rowV h t).ownBlock ≠ some g ∧ t.length ≤ 1048576) ∧
    ∀ (i j : Nat) (h : Option Addr × Nat) (t : List (Int × Int)) (h' : Option Addr × Nat) (t' : List (Int × Int)), i < j → hs[i]? = some h → ts[i]? = some t → hs[j]? = some h' → ts[j]? = some t' → (rowV h t).ownBlock = none ∨ (rowV h t).ownBlock ≠ (rowV h' t').ownBlock
theorem get_snoc {α : Type} {l : List α} {x y : α} {k : Nat} (h : (l ++ [x])[k]? = some y) : (k < l.length ∧ l[k]? = some y) ∨ (k = l.length ∧ y = x) := by
  by_cases hk : k < l.length
  · rw [List.getElem?_append_left hk] at h
    exact Or.inl ⟨hk, h⟩
  · rw [List.getElem?_append_right (by omega)] at h
    have h0 : k - l.length = 0 := by
      have := (List.getElem?_eq_some_iff.1 h).1
      simp at this
      omega
    rw [h0] at h
    injection h with h
    exact Or.inr ⟨by omega, h.symm⟩
theorem Part.step {W w w1 : World} {g : Nat} {hs : List (Option Addr × Nat)} {ts : List (List (Int × Int))} {cs : Array Value} {A : Option Addr} {c : Nat} {t : List (Int × Int)} (h : Part W w g hs ts cs) (hW : W.heap.size ≤ w.heap.size)
    (ho : w1.ownsRow w.heap.size 67 2 (.slice A t.length c) t.length (pc t)) (hb : Below w.heap.size w w1) (hk : ts.length < cs.size) (hl : t.length ≤ 1048576) :
    Part W (w1.setCell ⟨g, ts.length, none⟩ (.slice A t.length c)) g (hs ++ [(A, c)]) (ts ++ [t]) (cs.setIfInBounds ts.length (.slice A t.length c)) := by
  obtain ⟨h1, h2, h3, h4⟩ := h
  have hgw := h2.lt
  have hset : ∀ {base n : Nat} {v : Value} {xs : List Value}, w1.ownsRow base 67 2 v n xs → v.ownBlock ≠ some g → (w1.setCell ⟨g, ts.length, none⟩ (.slice A t.length c)).ownsRow base 67 2 v n xs := fun {_ _ v _} ho' hne =>
    ho'.kept (grown_set1 _) (by cases e : v.ownBlock with
      | none => exact Or.inl rfl
      | some b => right; intro e2; exact hne (by rw [e, e2]))
  have hown := fun b => ho.lt b
  refine ⟨by simp [h1], (h2.below hb hgw).set_ _ _, fun k h t' hk1 hk2 => ?_, fun i j h t' h' t'' hij q1 q2 q3 q4 => ?_⟩
  · rcases get_snoc hk1 with ⟨i1, i2⟩ | ⟨i1, i2⟩
    · rcases get_snoc hk2 with ⟨j1, j2⟩ | ⟨j1, j2⟩
      · obtain ⟨r1, r2, r3, r4⟩ := h3 k h t' i2 j2
        exact ⟨by rw [Array.getElem?_setIfInBounds_ne (by omega)]; exact r1, hset (own_below r2 hb) r3, r3, r4⟩
      · omega
    · rcases get_snoc hk2 with ⟨j1, j2⟩ | ⟨j1, j2⟩
      · omega
      · subst i2 j2
        have hne : (rowV (A, c) t').ownBlock ≠ some g := fun e => by have := (hown g e).1; omega
        refine ⟨by rw [j1, Array.getElem?_setIfInBounds_self_of_lt hk]; rfl, hset (own_base ho hW) hne, hne, hl⟩
  · rcases get_snoc q1 with ⟨i1, i2⟩ | ⟨i1, i2⟩
    · rcases get_snoc q2 with ⟨j1, j2⟩ | ⟨j1, j2⟩
      · rcases get_snoc q3 with ⟨k1, k2⟩ | ⟨k1, k2⟩
        · rcases get_snoc q4 with ⟨l1, l2⟩ | ⟨l1, l2⟩
          · exact h4 i j h t' h' t'' hij i2 j2 k2 l2
          · omega
        · rcases get_snoc q4 with ⟨l1, l2⟩ | ⟨l1, l2⟩
          · omega
          · subst k2 l2
            exact own_apart (h3 i h t' i2 j2).2.1 ho
      · omega
    · have := (List.getElem?_eq_some_iff.1 q3).1
      simp at this
      omega

/-- a slice of slices of a call's own: all its blocks from 'base' on and below 'hi', no two rows in one block -/
def OwnSS (w : World) (base hi : Nat) (A : Option Addr) (n c : Nat) (hs : List (Option Addr × Nat)) (ts : List (List (Int × Int))) : Prop :=
  ts.length = n ∧ ∃ g cs, A = some ⟨g, 0, none⟩ ∧ base ≤ g ∧ g < hi ∧ n ≤ c ∧ (∃ W : World, W.heap.size = base ∧ Part W w g hs ts cs) ∧ ∀ (k : Nat) (h : Option Addr × Nat) (t : List (Int × Int)) (b : Nat), hs[k]? = some h → ts[k]? = some t → (rowV h t).ownBlock = some b → b < hi
theorem Part.below {W w w' : World} {g : Nat} {hs : List (Option Addr × Nat)} {ts : List (List (Int × Int))} {cs : Array Value} (h : Part W w g hs ts cs) (hb : Below w.heap.size w w') : Part W w' g hs ts cs :=
  ⟨h.1, h.2.1.below hb h.2.1.lt, fun k x t h1 h2 => by
    obtain ⟨r1, r2, r3, r4⟩ := h.2.2.1 k x t h1 h2
    exact ⟨r1, own_below r2 hb, r3, r4⟩, h.2.2.2⟩
theorem OwnSS.below {w w' : World} {base hi n c : Nat} {A : Option Addr} {hs : List (Option Addr × Nat)} {ts : List (List (Int × Int))} (h : OwnSS w base hi A n c hs ts) (hb : Below w.heap.size w w') : OwnSS w' base hi A n c hs ts := by
  obtain ⟨h0, g, cs, h1, h2, h3, h4, ⟨W, hW, hP⟩, h5⟩ := h
  exact ⟨h0, g, cs, h1, h2, h3, h4, ⟨W, hW, hP.below hb⟩, h5⟩
theorem OwnSS.rd {w : World} {base hi n c : Nat} {A : Option Addr} {hs : List (Option Addr × Nat)} {ts : List (List (Int × Int))} (h : OwnSS w base hi A n c hs ts) : RdSS w w.heap.size A n hs ts := by
  obtain ⟨h0, g, cs, h1, _, _, _, ⟨W, _, hP⟩, _⟩ := h
  refine ⟨hP.1.trans h0, h0, fun _ => ⟨g, 0, h1, hP.2.1.lt, fun k x t q1 q2 => ?_⟩, fun k x t q1 q2 => ?_⟩
  · rw [Nat.zero_add, hP.2.1.cell k]
    exact (hP.2.2.1 k x t q1 q2).1
  · obtain ⟨_, r2, _, r4⟩ := hP.2.2.1 k x t q1 q2
    exact ⟨Rd.of_own r2, own_capS r2, r4⟩

def MadeSS (w : World) (n : Nat) (ts : List (List (Int × Int))) (e : Ending) (w' : World) : Prop := ∃ A' c' hs', e = .returned (.slice A' n c') ∧ OwnSS w' w.heap.size w'.heap.size A' n c' hs' ts ∧ Below w.heap.size w w'

set_option maxHeartbeats 1000000 in
theorem toGrid (A : Option Addr) (n c : Nat) (hs : List (Option Addr × Nat)) (ts : List (List (Int × Int))) (w : World) (h : RdSS w w.heap.size A n hs ts) (hn : n ≤ 1048576) :
    Calls Try.prog 10 #[.slice A n c] w (MadeSS w n ts) := by
  have hmk := run_make_row' (P := Try.prog) 26 46 (.slice none 0 0) 24 Try.underlying26 infoRow rfl .i64 .i64 n (by omega) (by omega)
  have H := Lib.hid h
  have hni : (n : Int) ≤ 1048576 := by omega
  clear h
  go_enter Try.func10, Try.ntmps10
  go_wp2
  clear hmk
  go_loopw [4] (fun i wr => ∃ (k : Nat) (hs' : List (Option Addr × Nat)) (cs : Array Value), k ≤ n ∧ i = .int .i64 k ∧ cs.size = n ∧ Part w wr w.heap.size hs' (ts.take k) cs ∧ Below w.heap.size w wr) (fun i _ => n - (intOf i).toNat)
  case atStart => exact ⟨0, [], _, Nat.zero_le _, rfl, by simp [madeCells], ⟨rfl, Blk.new _ _ _, fun k x t h => by simp at h, fun i j x t x' t' _ h => by simp at h⟩, (Below.refl _ _).alloc (Nat.le_refl _) _⟩
  case round =>
    obtain ⟨k, hs', cs, hk, rfl, hs, hP, hbl⟩ := hrel
    by_cases hlt : (k : Int) < n
    · obtain ⟨b, o, a, cc, t, rfl, hbB, _, htt, hc, hrr, hcc, hl⟩ := H.out.at (k := k) (by omega)
      have c0 : wr.cell? ⟨b, o + k, none⟩ = some (.slice a t.length cc) := (hbl.cell (p := ⟨b, o + k, none⟩) hbB).trans hc
      have HR := Lib.hid ((hrr.below hbl).more hbl.size)
      have hkl : (ts.take k).length = k := by rw [List.length_take, H.out.2.1]; omega
      have h2t := rows_take htt
      have TN := Lib.hid (fun w h => toNoteS_any a t.length cc t w h hl)
      obtain ⟨l, hll⟩ : ∃ l, l = t.length := ⟨_, rfl⟩
      rw [← hll] at c0 TN HR hl
      have HLL := Lib.hid hll
      have H2 := Lib.hid h2t
      have HKL := Lib.hid hkl
      have HS := Lib.hid hs
      have HP := Lib.hid hP
      have zb := hbl.size
      clear htt hc hrr hcc hll h2t hkl hs hP
      go_wp2_with fail
      refine (TN.out _ HR.out).mono ?_
      rintro e w1 ⟨A1, c1, rfl, ho1, hb1⟩
      have ho := ho1
      rw [HLL.out] at ho
      have hst := HP.out.step (t := t) (A := A1) (c := c1) zb ho hb1 (by rw [HKL.out, HS.out]; omega) (by rw [← HLL.out]; exact hl)
      rw [← HLL.out, HKL.out] at hst
      have kb := HP.out.2.1.below hb1 HP.out.2.1.lt
      have d0 : ∃ u, w1.cell? ⟨w.heap.size, k, none⟩ = some u := ⟨cs[k]'(by rw [HS.out]; omega), by rw [kb.cell k]; simp⟩
      obtain ⟨u0, d0⟩ := d0
      have f0 := kb.frozen k
      have HST := Lib.hid hst
      have bb := hbl.trans (hb1.mono zb)
      clear hst ho ho1 kb
      go_wp2
      go_roundw
      case rel =>
        refine ⟨k + 1, _, _, by omega, by go_num, ?_, by rw [H2.out]; exact HST.out, bb.setCell (Nat.le_refl _) _⟩
        simp [HS.out]
      case measure => simp [intOf]; omega
    · obtain rfl : k = n := by omega
      rw [List.take_of_length_le (by rw [H.out.2.1]; omega)] at hP
      have HP := Lib.hid hP
      clear hP
      go_wp2
      go_ret
      exact ⟨_, _, hs', rfl, ⟨H.out.2.1, w.heap.size, cs, rfl, Nat.le_refl _, HP.out.2.1.lt, Nat.le_refl _, ⟨w, rfl, HP.out⟩, fun j x t b q1 q2 q3 => ((HP.out.2.2.1 j x t q1 q2).2.1.lt b q3).2⟩, hbl⟩

set_option maxHeartbeats 1000000 in
theorem eqGrid (A A' : Option Addr) (n c c' : Nat) (hs hs' : List (Option Addr × Nat)) (ts : List (List (Int × Int))) (w : World) (h : RdSS w w.heap.size A n hs ts) (h' : RdSS w w.heap.size A' n hs' ts) (hn : n ≤ 1048576) :
    Calls Try.prog 13 #[.slice A n c, .slice A' n c'] w fun e w' => e = .returned (.bool true) ∧ Below w.heap.size w w' := by
  have H := Lib.hid h
  have H' := Lib.hid h'
  have hni : (n : Int) ≤ 1048576 := by omega
  clear h h'
  go_enter Try.func13, Try.ntmps13
  go_wp2
  go_loopw [5] (fun i wr => ∃ k : Nat, k ≤ n ∧ i = .int .i64 k ∧ Below w.heap.size w wr) (fun i _ => n - (intOf i).toNat)
  case atStart => exact ⟨0, Nat.zero_le _, rfl, Below.refl _ _⟩
  case round =>
    obtain ⟨k, hk, rfl, hbl⟩ := hrel
    by_cases hlt : (k : Int) < n
    · obtain ⟨b, o, a, cc, t, rfl, hbB, _, htt, hc, hrr, hcc, hl⟩ := H.out.at (k := k) (by omega)
      obtain ⟨b', o', a', cc', t', rfl, hbB', _, htt', hc', hrr', hcc', _⟩ := H'.out.at (k := k) (by omega)
      obtain rfl : t = t' := by rw [htt] at htt'; injection htt'
      have c0 : wr.cell? ⟨b, o + k, none⟩ = some (.slice a t.length cc) := (hbl.cell (p := ⟨b, o + k, none⟩) hbB).trans hc
      have c1 : wr.cell? ⟨b', o' + k, none⟩ = some (.slice a' t.length cc') := (hbl.cell (p := ⟨b', o' + k, none⟩) hbB').trans hc'
      have HR := Lib.hid ((hrr.below hbl).more hbl.size)
      have HR' := Lib.hid ((hrr'.below hbl).more hbl.size)
      obtain ⟨l, hll⟩ : ∃ l, l = t.length := ⟨_, rfl⟩
      rw [← hll] at c0 c1 HR HR' hl
      have zb := hbl.size
      clear htt hc hrr hcc htt' hc' hrr' hcc' hll
      go_wp2
      go_region_held3 (fun w' => w'.cell? ⟨b, o + k, none⟩ = some (.slice a l cc) ∧ w'.cell? ⟨b', o' + k, none⟩ = some (.slice a' l cc')) (first | go_keep | exact ⟨k0, k1⟩) ((go_at_call 39; refine (eqNoteS_same a a' l cc cc' t _ HR.out.drew HR'.out.drew (by omega)).mono ?_; rintro e w1 ⟨rfl, hb1⟩; have k0 := (hb1.cell (p := ⟨b, o + k, none⟩) (Nat.lt_of_lt_of_le hbB zb)).trans c0; have k1 := (hb1.cell (p := ⟨b', o' + k, none⟩) (Nat.lt_of_lt_of_le hbB' zb)).trans c1))
      go_wp2
      go_roundw
      case rel => exact ⟨k + 1, by omega, by go_num, hbl.drew.trans (hb1.mono zb)⟩
      case measure => simp [intOf]; omega
    · obtain rfl : k = n := by omega
      go_wp2
      go_ret
      exact ⟨rfl, hbl⟩

end Go.Proofs.Ytjcaamnojinnmaa
