/-
  The laws' own helper markCylinderS on a slice of cylinders of a call's own: it writes into its blocks alone.
-/
import Derived.Test.YtjklobhnidbinaaCylS
namespace Go.Proofs.Ytjklobhnidbinaa
open Go.RowKit

theorem marked_set {cells : Array Value} {j : Nat} {a b : Value} {i : Nat} (h : i < j * 3 ∨ j * 3 + 2 ≤ i) : ((cells.setIfInBounds (j * 3) a).setIfInBounds (j * 3 + 1) b)[i]? = cells[i]? := by
  rw [Array.getElem?_setIfInBounds_ne (by omega), Array.getElem?_setIfInBounds_ne (by omega)]

set_option maxHeartbeats 1000000 in
theorem markCyls (A : Option Addr) (n c base hi : Nat) (hs : List (Option Addr × Nat)) (cs : List Cy) (w : World) (h : OwnCS w base hi A n c hs cs) (hn : n ≤ 1048576) (hsum : sumC cs ≤ 1048576) :
    Calls Try.prog 24 #[.slice A n c, .int .i64 1] w fun e w' => e = .returned (.int .i64 (1 + 2 * (n : Nat) + 2 * (sumC cs : Nat))) ∧ Between base hi w w' := by
  obtain ⟨h0, g, cells, rfl, hg1, hg2, hnc, hcs, ⟨W, hW, hP1, hP2, hP3, hP4⟩, hhi⟩ := h
  subst hW
  have HP2 := Lib.hid hP2
  have HP3 := Lib.hid hP3
  have HP4 := Lib.hid hP4
  have HHI := Lib.hid hhi
  have HT := Lib.hid h0
  have HH := Lib.hid (hP1.trans h0)
  have HCS := Lib.hid hcs
  have HSM := Lib.hid (fun k => Nat.le_trans (sumC_take cs k) hsum)
  have hni : (n : Int) ≤ 1048576 := by omega
  have hnci : (n : Int) ≤ c := by omega
  clear hP1 hP2 hP3 hP4 hhi h0 hsum hcs
  go_enter Try.func24, Try.ntmps24
  go_wp2
  go_loopw [1, 5] (fun s i wr => ∃ (k : Nat) (ce : Array Value), k ≤ n ∧ i = .int .i64 k ∧ s = .int .i64 (1 + 2 * (k : Nat) + 2 * (sumC (cs.take k) : Nat)) ∧ Blk wr g 28 ce ∧ ce.size = n * 3 ∧ Hid (∀ i, k * 3 ≤ i → ce[i]? = cells[i]?) ∧
      Hid (∀ (j : Nat) (h : Option Addr × Nat) (t : Cy), k ≤ j → hs[j]? = some h → cs[j]? = some t → wr.ownsRow W.heap.size 50 2 (cyV h t) t.2.2.length (pc t.2.2)) ∧ Between W.heap.size hi w wr) (fun _ i _ => n - (intOf i).toNat)
  case atStart => exact ⟨0, cells, Nat.zero_le _, rfl, by simp [sumC], HP2.out, HCS.out, Lib.hid (fun _ _ => rfl), Lib.hid (fun j h t _ q1 q2 => (HP3.out j h t q1 q2).2.2.2.1), Between.refl _ _ _⟩
  case round =>
    obtain ⟨k, ce, hk, rfl, rfl, hB, hsz, hkeep, hrows, hbt⟩ := hrel
    by_cases hlt : (k : Int) < n
    · obtain ⟨⟨a, cc⟩, h1⟩ : ∃ p, hs[k]? = some p := ⟨_, List.getElem?_eq_getElem (by rw [HH.out]; omega)⟩
      obtain ⟨⟨s, t, l⟩, h2⟩ : ∃ t, cs[k]? = some t := ⟨_, List.getElem?_eq_getElem (by rw [HT.out]; omega)⟩
      obtain ⟨r0, r1, r2, _, r3, r4⟩ := HP3.out k _ _ h1 h2
      have c0 : wr.cell? ⟨g, k * 3, none⟩ = some (.int .i64 s) := by rw [hB.cell (k * 3), hkeep.out _ (Nat.le_refl _)]; exact r0
      have c1 : wr.cell? ⟨g, k * 3 + 1, none⟩ = some (.int .i64 t) := by rw [hB.cell (k * 3 + 1), hkeep.out _ (by omega)]; exact r1
      have c2 : wr.cell? ⟨g, k * 3 + 2, none⟩ = some (.slice a l.length cc) := by rw [hB.cell (k * 3 + 2), hkeep.out _ (by omega)]; exact r2
      have f0 := hB.frozen (k * 3)
      have f1 := hB.frozen (k * 3 + 1)
      have ho := hrows.out k _ _ (Nat.le_refl _) h1 h2
      unfold cyV at ho r3
      simp only at ho r3 r4
      have hs1 := rows_take h2
      have hs2 : sumC (cs.take (k + 1)) = sumC (cs.take k) + l.length := by rw [hs1, sumC_snoc]
      have hb2 := HSM.out (k + 1)
      rw [hs2] at hb2
      obtain ⟨L, hll⟩ : ∃ L, L = l.length := ⟨_, rfl⟩
      rw [← hll] at c2 ho r3 r4 hs2 hb2
      obtain ⟨z, hz⟩ : ∃ z, z = sumC (cs.take k) := ⟨_, rfl⟩
      rw [← hz] at hs2 hb2 ⊢
      have MK := Lib.hid (fun w h => markPinS_any a L cc W.heap.size (1 + 2 * (k : Int) + 2 * (z : Int) + 1 + 1) l w h r4 (by omega))
      have HS2 := Lib.hid hs2
      have HB := Lib.hid (((hB.set_ (k * 3) (.int .i64 (1 + 2 * (k : Int) + 2 * (z : Int)))).set_ (k * 3 + 1) (.int .i64 (1 + 2 * (k : Int) + 2 * (z : Int) + 1))))
      have hos : ∀ (base n : Nat) (v : Value) (xs : List Value), wr.ownsRow base 50 2 v n xs → v.ownBlock ≠ some g → ((wr.setCell ⟨g, k * 3, none⟩ (.int .i64 (1 + 2 * (k : Int) + 2 * (z : Int)))).setCell ⟨g, k * 3 + 1, none⟩ (.int .i64 (1 + 2 * (k : Int) + 2 * (z : Int) + 1))).ownsRow base 50 2 v n xs := fun _ _ v _ ho' hne => by
        refine ho'.kept (row := some g) (grown_trans (grown_set1 _) (grown_set1 _)) ?_
        cases e : v.ownBlock with
        | none => exact Or.inl rfl
        | some b => right; intro e2; exact hne (by rw [e, e2])
      have HOS := Lib.hid hos
      have HO := Lib.hid (hos _ _ _ _ ho r3)
      have hbt2 : Between W.heap.size hi w ((wr.setCell ⟨g, k * 3, none⟩ (.int .i64 (1 + 2 * (k : Int) + 2 * (z : Int)))).setCell ⟨g, k * 3 + 1, none⟩ (.int .i64 (1 + 2 * (k : Int) + 2 * (z : Int) + 1))) := (hbt.grown (grown_set1 (g := g) (i := k * 3) _) (fun b hb => by injection hb with hb; omega)).grown (grown_set1 (g := g) (i := k * 3 + 1) _) (fun b hb => by injection hb with hb; omega)
      have HBT := Lib.hid hbt2
      have HSZ := Lib.hid hsz
      have H1 := Lib.hid h1
      have H2 := Lib.hid h2
      have HLL := Lib.hid hll
      have HKP := Lib.hid hkeep.out
      have HR3 := Lib.hid r3
      have hk0 : (0 : Int) ≤ k := by omega
      clear h1 h2 r0 r1 r2 r4 ho hs1 hs2 hll hz hB hbt hbt2 hos hsz hkeep r3
      go_wp2_with fail
      refine (MK.out _ HO.out).mono ?_
      rintro e w1 ⟨rfl, _, hg⟩
      have kb := HB.out.grown hg (fun e => HR3.out e.symm)
      have hrow : ∀ (j : Nat) (h : Option Addr × Nat) (t' : Cy), k + 1 ≤ j → hs[j]? = some h → cs[j]? = some t' → w1.ownsRow W.heap.size 50 2 (cyV h t') t'.2.2.length (pc t'.2.2) := fun j h t' hj q1 q2 => by
        refine (HOS.out _ _ _ _ (hrows.out j h t' (by omega) q1 q2) (HP3.out j h t' q1 q2).2.2.2.2.1).kept hg ?_
        rcases HP4.out k j _ _ h t' (by omega) H1.out H2.out q1 q2 with e | e
        · unfold cyV at e
          simp only at e
          rw [← HLL.out] at e
          rw [e]
          cases (cyV h t').ownBlock
          · exact Or.inl rfl
          · right; simp
        · unfold cyV at e ⊢
          simp only at e
          rw [← HLL.out] at e
          exact Or.inr fun e2 => e e2.symm
      have bt := HBT.out.grown hg (fun b hb => ⟨(HO.out.lt b hb).1, by
        refine HHI.out k _ _ b H1.out H2.out ?_
        unfold cyV
        simp only
        rw [← HLL.out]
        exact hb⟩)
      have KB := Lib.hid kb
      have HR := Lib.hid hrow
      have BT := Lib.hid bt
      clear kb hrow bt hg c0 c1 c2 f0 f1
      go_wp2_with fail
      go_roundw
      case rel => exact ⟨k + 1, _, by omega, by go_num, by rw [HS2.out]; go_num, KB.out, by simp [HSZ.out], Lib.hid (fun i hi => by rw [marked_set (by omega)]; exact HKP.out i (by omega)), HR, BT.out⟩
      case measure => simp [intOf] <;> omega
    · obtain rfl : k = n := by omega
      rw [List.take_of_length_le (by rw [HT.out]; omega)]
      go_wp2
      go_ret
      exact ⟨rfl, hbt⟩

end Go.Proofs.Ytjklobhnidbinaa
