/-
  The laws' own helper markNoteSS on a slice of slices of a call's own: it writes into its rows alone. And the bound on all lengths together.
-/
import Derived.Test.YtjcaamnojinnmaaGridS
import Derived.Test.YtjcaamnojinnmaaMkNote
namespace Go.Proofs.Ytjcaamnojinnmaa
open Go.RowKit

/-- only blocks from lo on and below hi (and new ones) have turned -/
def Between (lo hi : Nat) (w w' : World) : Prop := w'.os = w.os ∧ w'.tape = w.tape ∧ w'.output = w.output ∧ w.heap.size ≤ w'.heap.size ∧ ∀ b, b < w.heap.size → (b < lo ∨ hi ≤ b) → w'.heap[b]? = w.heap[b]?
theorem Between.refl (lo hi : Nat) (w : World) : Between lo hi w w := ⟨rfl, rfl, rfl, Nat.le_refl _, fun _ _ _ => rfl⟩
theorem Between.below {lo hi B : Nat} {w w' : World} (h : Between lo hi w w') (hB : B ≤ lo) (hs : B ≤ w.heap.size) : Below B w w' :=
  ⟨h.1, h.2.1, h.2.2.1, h.2.2.2.1, fun b hb => h.2.2.2.2 b (by omega) (Or.inl (by omega))⟩
theorem Between.grown {lo hi : Nat} {w w1 w2 : World} {r : Option Nat} (h : Between lo hi w w1) (hg : w1.grownBy w2 r) (hr : ∀ b, r = some b → lo ≤ b ∧ b < hi) : Between lo hi w w2 :=
  ⟨hg.os.trans h.1, hg.tape.trans h.2.1, hg.output.trans h.2.2.1, Nat.le_trans h.2.2.2.1 hg.size, fun b hb ho => (hg.block b (Nat.lt_of_lt_of_le hb h.2.2.2.1) (fun e => by have := hr b e.symm; omega)).trans (h.2.2.2.2 b hb ho)⟩
theorem own_between {w w' : World} {lo hi base size n : Nat} {v : Value} {xs : List Value} {e : TypeId} (h : w.ownsRow base e size v n xs) (hb : Between lo hi w w') (hv : ∀ b, v.ownBlock = some b → b < lo ∨ hi ≤ b) : w'.ownsRow base e size v n xs := by
  obtain ⟨h1, h2⟩ := h
  refine ⟨h1, ?_⟩
  rcases h2 with h2 | ⟨g, cap, cur, hv', hg, hh, r⟩
  · exact Or.inl h2
  · refine Or.inr ⟨g, cap, cur, hv', hg, ?_, r⟩
    have hlt : g < w.heap.size := by
      rcases Nat.lt_or_ge g w.heap.size with h | h
      · exact h
      · rw [Array.getElem?_eq_none h] at hh
        cases hh
    rw [hb.2.2.2.2 g hlt (hv g (by rw [hv']; rfl))]
    exact hh

/-- all lengths together -/
def sumL (ts : List (List (Int × Int))) : Nat := (ts.map List.length).sum
theorem sumL_snoc (ts : List (List (Int × Int))) (t : List (Int × Int)) : sumL (ts ++ [t]) = sumL ts + t.length := by simp [sumL]
theorem sumL_mem {ts : List (List (Int × Int))} {t : List (Int × Int)} (h : t ∈ ts) : t.length ≤ sumL ts := by
  obtain ⟨a, b, rfl⟩ := List.append_of_mem h
  simp [sumL]
  omega
theorem sumL_take (ts : List (List (Int × Int))) (k : Nat) : sumL (ts.take k) ≤ sumL ts := by
  have h : sumL ts = sumL (ts.take k) + sumL (ts.drop k) := by
    unfold sumL
    rw [← List.sum_append, ← List.map_append, List.take_append_drop]
  omega

/-- the lengths taken off; -1 where they are too great -/
theorem szGrid2 (A : Option Addr) (n c : Nat) (hs : List (Option Addr × Nat)) (ts : List (List (Int × Int))) (w : World) (h : RowsIn w A n hs ts) (hn : n ≤ 9223372036854775807) :
    Calls Try.prog 8 #[.slice A n c, .int .i64 1048576] w fun e w' => ∃ z : Int, e = .returned (.int .i64 z) ∧ (z < 0 ∨ (0 ≤ z ∧ z ≤ 1048576 ∧ n ≤ 1048576 ∧ sumL ts ≤ 1048576)) ∧ w = w' := by
  have H := Lib.hid h
  clear h
  have hni : (n : Int) ≤ 9223372036854775807 := by omega
  by_cases hn2 : (n : Int) ≤ 1048576
  case neg =>
    go_enter Try.func8, Try.ntmps8
    go_wp2
    go_ret
    exact ⟨-1, rfl, Or.inl (by omega), rfl⟩
  have hn3 : ¬ (1048576 - (n : Int) < 0) := by omega
  go_enter Try.func8, Try.ntmps8
  go_wp2
  go_loop [1, 5] (fun s i => ∃ k m : Nat, k ≤ n ∧ i = .int .i64 k ∧ s = .int .i64 m ∧ m ≤ 1048576 ∧ Hid (sumL (ts.take k) + m + n = 1048576)) (fun _ i => n - (intOf i).toNat)
  case atStart => exact ⟨0, 1048576 - n, Nat.zero_le _, rfl, by first | rfl | (congr 1; omega), by omega, Lib.hid (by simp [sumL]; omega)⟩
  case round =>
    obtain ⟨k, m, hk, rfl, rfl, hm, hall⟩ := hrel
    by_cases hlt : (k : Int) < n
    · obtain ⟨b, o, rfl, hbB, hc⟩ := H.out.2.2.1 (by omega)
      obtain ⟨⟨a, cc⟩, h1⟩ : ∃ p, hs[k]? = some p := ⟨_, List.getElem?_eq_getElem (by rw [H.out.1]; omega)⟩
      obtain ⟨t, h2⟩ : ∃ t, ts[k]? = some t := ⟨_, List.getElem?_eq_getElem (by rw [H.out.2.1]; omega)⟩
      have c0 : w.cell? ⟨b, o + k, none⟩ = some (.slice a t.length cc) := hc k _ t h1 h2
      obtain ⟨_, _, hl⟩ := H.out.2.2.2 k _ t h1 h2
      have h2t := rows_take h2
      obtain ⟨l, hll⟩ : ∃ l, l = t.length := ⟨_, rfl⟩
      have SZ := Lib.hid (fun w => szNoteS_any a l cc m w (by omega) hm)
      rw [← hll] at c0 hl
      have HLL := Lib.hid hll
      have H2 := Lib.hid h2t
      clear h1 h2 hc hll h2t
      by_cases hlm : l ≤ m
      · rw [if_pos hlm] at SZ
        have hz : ¬ ((m : Int) - l < 0) := by omega
        go_wp2_with (go_at_call 29; refine (SZ.out _).mono ?_; rintro e w' ⟨rfl, rfl⟩)
        go_round
        case rel =>
          refine ⟨k + 1, m - l, by omega, by go_num, by first | rfl | (congr 1; omega), by omega, Lib.hid ?_⟩
          rw [H2.out, sumL_snoc, ← HLL.out]
          have := hall.out
          omega
        case measure => simp [intOf]; omega
      · rw [if_neg hlm] at SZ
        go_wp2_with (go_at_call 29; refine (SZ.out _).mono ?_; rintro e w' ⟨rfl, rfl⟩)
        go_ret
        exact ⟨-1, rfl, Or.inl (by omega), rfl⟩
    · obtain rfl : k = n := by omega
      have hall2 := hall.out
      rw [List.take_of_length_le (by rw [H.out.2.1]; omega)] at hall2
      have HA := Lib.hid hall2
      clear hall2
      go_wp2
      go_ret
      exact ⟨m, rfl, Or.inr ⟨by omega, by omega, by omega, by have := HA.out; omega⟩, rfl⟩

set_option maxHeartbeats 1000000 in
theorem markGrid (A : Option Addr) (n c base hi : Nat) (hs : List (Option Addr × Nat)) (ts : List (List (Int × Int))) (w : World) (h : OwnSS w base hi A n c hs ts) (hn : n ≤ 1048576) (hsum : sumL ts ≤ 1048576) :
    Calls Try.prog 17 #[.slice A n c, .int .i64 1] w fun e w' => e = .returned (.int .i64 (1 + 2 * (sumL ts : Nat))) ∧ Between base hi w w' := by
  obtain ⟨h0, g, cs, rfl, hg1, hg2, hnc, ⟨W, hW, hP1, hP2, hP3, hP4⟩, hhi⟩ := h
  subst hW
  have HP2 := Lib.hid hP2
  have HP3 := Lib.hid hP3
  have HP4 := Lib.hid hP4
  have HHI := Lib.hid hhi
  have HT := Lib.hid h0
  have HH := Lib.hid (hP1.trans h0)
  have HSM := Lib.hid (fun k => Nat.le_trans (sumL_take ts k) hsum)
  have hni : (n : Int) ≤ 1048576 := by omega
  have hnci : (n : Int) ≤ c := by omega
  clear hP1 hP2 hP3 hP4 hhi h0 hsum
  go_enter Try.func17, Try.ntmps17
  go_wp2
  go_loopw [1, 5] (fun s i wr => ∃ k : Nat, k ≤ n ∧ i = .int .i64 k ∧ s = .int .i64 (1 + 2 * (sumL (ts.take k) : Nat)) ∧ Blk wr g 46 cs ∧
      Hid (∀ (j : Nat) (h : Option Addr × Nat) (t : List (Int × Int)), k ≤ j → hs[j]? = some h → ts[j]? = some t → wr.ownsRow W.heap.size 67 2 (rowV h t) t.length (pc t)) ∧ Between W.heap.size hi w wr) (fun _ i _ => n - (intOf i).toNat)
  case atStart => exact ⟨0, Nat.zero_le _, rfl, by simp [sumL], HP2.out, Lib.hid (fun j h t _ q1 q2 => (HP3.out j h t q1 q2).2.1), Between.refl _ _ _⟩
  case round =>
    obtain ⟨k, hk, rfl, rfl, hB, hrows, hbt⟩ := hrel
    by_cases hlt : (k : Int) < n
    · obtain ⟨⟨a, cc⟩, h1⟩ : ∃ p, hs[k]? = some p := ⟨_, List.getElem?_eq_getElem (by rw [HH.out]; omega)⟩
      obtain ⟨t, h2⟩ : ∃ t, ts[k]? = some t := ⟨_, List.getElem?_eq_getElem (by rw [HT.out]; omega)⟩
      obtain ⟨r1, _, r3, r4⟩ := HP3.out k _ t h1 h2
      have c0 : wr.cell? ⟨g, k, none⟩ = some (.slice a t.length cc) := (hB.cell k).trans r1
      have ho := hrows.out k _ t (Nat.le_refl _) h1 h2
      unfold rowV at ho r3
      have hs1 := rows_take h2
      have hs2 : sumL (ts.take (k + 1)) = sumL (ts.take k) + t.length := by rw [hs1, sumL_snoc]
      have hb2 := HSM.out (k + 1)
      rw [hs2] at hb2
      obtain ⟨l, hll⟩ : ∃ l, l = t.length := ⟨_, rfl⟩
      rw [← hll] at c0 ho r3 r4 hs2 hb2
      obtain ⟨z, hz⟩ : ∃ z, z = sumL (ts.take k) := ⟨_, rfl⟩
      rw [← hz] at hs2 hb2 ⊢
      have MK := Lib.hid (fun w h => markNoteS_any a l cc W.heap.size (1 + 2 * (z : Int)) t w h r4 (by omega))
      have HS2 := Lib.hid hs2
      have HO := Lib.hid ho
      have HB := Lib.hid hB
      have H1 := Lib.hid h1
      have H2 := Lib.hid h2
      have HLL := Lib.hid hll
      have HBT := Lib.hid hbt
      clear h1 h2 r1 r4 ho hs1 hs2 hll hz hB hbt
      go_wp2_with fail
      refine (MK.out _ HO.out).mono ?_
      rintro e w1 ⟨rfl, _, hg⟩
      have kb := HB.out.grown hg (fun e => r3 e.symm)
      have hrow : ∀ (j : Nat) (h : Option Addr × Nat) (t' : List (Int × Int)), k + 1 ≤ j → hs[j]? = some h → ts[j]? = some t' → w1.ownsRow W.heap.size 67 2 (rowV h t') t'.length (pc t') := fun j h t' hj q1 q2 => by
        refine (hrows.out j h t' (by omega) q1 q2).kept hg ?_
        rcases HP4.out k j _ t h t' (by omega) H1.out H2.out q1 q2 with e | e
        · unfold rowV at e
          rw [← HLL.out] at e
          rw [e]
          cases (rowV h t').ownBlock
          · exact Or.inl rfl
          · right; simp
        · unfold rowV at e ⊢
          rw [← HLL.out] at e
          exact Or.inr fun e2 => e e2.symm
      have bt := HBT.out.grown hg (fun b hb => ⟨(HO.out.lt b hb).1, by
        refine HHI.out k _ t b H1.out H2.out ?_
        unfold rowV
        rw [← HLL.out]
        exact hb⟩)
      have KB := Lib.hid kb
      have HR := Lib.hid hrow
      have BT := Lib.hid bt
      clear kb hrow bt hg
      go_wp2_with fail
      go_roundw
      case rel => exact ⟨k + 1, by omega, by go_num, by rw [HS2.out]; go_num, KB.out, HR, BT.out⟩
      case measure => simp [intOf] <;> omega
    · obtain rfl : k = n := by omega
      rw [List.take_of_length_le (by rw [HT.out]; omega)]
      go_wp2
      go_ret
      exact ⟨rfl, hbt⟩

end Go.Proofs.Ytjcaamnojinnmaa
