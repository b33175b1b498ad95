/-
  The program's TeethNeeded of a valid tune: what the reference's gives, as a slice of its own.
-/
import Derived.Test.YtjcaamnojinnmaaNeedS
import Derived.Test.YtjcaamnojinnmaaTuneI
namespace Go.Proofs.Ytjcaamnojinnmaa
open Go.RowKit

theorem needI_step (xs : List (Int × Int)) (r : Int) {k P : Nat} (hp : (nt xs k).2 = (P : Int)) : arrN (fun p => needI xs r (p : Int) (k + 1)) = arrN (upd (fun p => needI xs r (p : Int) k) P (max (needI xs r (P : Int) k) (cntI xs r k))) := by
  refine arrN_congr fun p _ => ?_
  unfold upd needI
  rw [show mx (pickP xs (p : Int)) (cntI xs r) (k + 1) = if pickP xs (p : Int) k = true then max (mx (pickP xs (p : Int)) (cntI xs r) k) (cntI xs r k) else mx (pickP xs (p : Int)) (cntI xs r) k from rfl]
  by_cases e : p = P
  · subst e
    rw [if_pos (by simp [pickP, hp]), if_pos rfl]
  · rw [if_neg (by simp [pickP, hp]; omega), if_neg e]

set_option maxHeartbeats 1000000 in
theorem iNeeded (A : Option Addr) (n c : Nat) (xs : List (Int × Int)) (r : Int) (w : World) (h : Rd w w.heap.size 2 A n (pc xs)) (hnc : n ≤ c) (ht : tuneB xs = true) (hr : 1 ≤ r ∧ r ≤ 100) :
    Calls Try.prog 55 #[.slice A n c, .int .i64 r] w (MadeS w 3 1 61 ((listN fun p => needS xs r (p : Int) xs.length).map (Value.int .i64))) := by
  have hlen := h.pair
  have hn40 : n ≤ 40 := by rw [← hlen]; exact tune_len ht
  have H := Lib.hid h
  have HL := Lib.hid hlen
  have HT := Lib.hid ht
  have hin : inB r 1 100 = true := inB_true hr
  obtain ⟨hr0, hr1⟩ := hr
  have TH := Lib.hid (fun w h => ((iTuneOk A n c xs w h (by omega)).mono fun e w' (h : _ ∧ _) => (⟨by rw [h.1, ht], h.2⟩ : e = .returned (.bool true) ∧ Below w.heap.size w w')))
  have IH := Lib.hid (fun w => ((within_any r 1 100 w).mono fun e w' (h : _ ∧ _) => (⟨by rw [h.1, hin], h.2⟩ : e = .returned (.bool true) ∧ w = w')))
  have hni : (n : Int) ≤ 40 := by omega
  have hnci : (n : Int) ≤ c := by omega
  have hmk := make61
  rw [← listN_congr (fun p _ => need_eq ht (r := r) (p : Int)), hlen]
  clear h hlen ht hin
  go_enter Try.func55, Try.ntmps55
  go_wp2_with (first | (go_at_call 54; refine (TH.out _ H.out).mono ?_; rintro e w1 ⟨rfl, hb1⟩) | (go_at_call 37; refine (IH.out _).mono ?_; rintro e w' ⟨rfl, rfl⟩))
  have B0 := Lib.hid (Blk.new w1 3 (arrN fun _ => 0))
  have L0 := Lib.hid (hb1.alloc hb1.size (.cells (arrN fun _ => 0) 3))
  have z1 := hb1.size
  clear hb1 hmk
  go_loopw [22] (fun i wr => ∃ k : Nat, k ≤ n ∧ i = .int .i64 k ∧ Blk wr w1.heap.size 3 (arrN fun p => needI xs r (p : Int) k) ∧ Below w.heap.size w wr) (fun i _ => n - (intOf i).toNat)
  case atStart => exact ⟨0, Nat.zero_le _, rfl, B0.out, L0.out⟩
  case round =>
    obtain ⟨k, hk, rfl, hB, hbl⟩ := hrel
    obtain ⟨wo, rfl⟩ : ∃ wo : World, wo = wr := ⟨_, rfl⟩
    by_cases hlt : (k : Int) < n
    · obtain ⟨b, o, rfl, hbB, hcell⟩ := H.out.pairAt (by omega)
      obtain ⟨⟨x, y⟩, hx⟩ : ∃ p, xs[k]? = some p := ⟨_, List.getElem?_eq_getElem (by rw [HL.out]; omega)⟩
      have ha := tune_at HT.out (show k < xs.length by rw [HL.out]; omega)
      rw [nt_of hx] at ha
      obtain ⟨x0, x1, y0, y1⟩ := ha
      simp only at x0 x1 y0 y1
      obtain ⟨P, rfl⟩ := Int.eq_ofNat_of_zero_le y0
      obtain ⟨g0, g1⟩ := hcell k _ hx
      have c0 : wo.cell? ⟨b, o + k * 2, none⟩ = some (.int .i64 x) := (hbl.cell (p := ⟨b, o + k * 2, none⟩) hbB).trans g0
      have c1 : wo.cell? ⟨b, o + k * 2 + 1, none⟩ = some (.int .i64 P) := (hbl.cell (p := ⟨b, o + k * 2 + 1, none⟩) hbB).trans g1
      have HC := Lib.hid hcell
      have HX := Lib.hid hx
      have hwin : ∀ j p q, xs[k + j]? = some (p, q) → winI xs r k (k + j) = decide (q = (P : Int) ∧ p < x + r) := fun j p q hj => by
        unfold winI
        rw [nt_of hj, nt_of hx]
      have HW := Lib.hid hwin
      have hP61 : P < 61 := by omega
      have hPi : (P : Int) < 61 := by omega
      have NB := Lib.hid (Blk.new wo 67 #[.int .i64 x, .int .i64 P])
      have HB := Lib.hid (hB.alloc (.cells #[.int .i64 x, .int .i64 P] 67))
      have HBL := Lib.hid (hbl.alloc hbl.size (.cells #[.int .i64 x, .int .i64 P] 67))
      have zr := hbl.size
      have hgl := hB.lt
      obtain ⟨m, hm⟩ : ∃ m, m = n - k := ⟨_, rfl⟩
      have hmk : (m : Int) = (n : Int) - k := by omega
      have hcnt : cntI xs r k = cn (fun q => winI xs r k (k + q)) m := by unfold cntI; rw [HL.out, ← hm]
      have HCN := Lib.hid hcnt
      clear hx hcell g0 g1 hwin hB hbl hcnt
      go_wp2
      rw [← hm]
      have HM := Lib.hid hm
      clear hm
      go_loopw [8, 31] (fun s i wq => ∃ j : Nat, j ≤ m ∧ i = .int .i64 j ∧ s = .int .i64 (cn (fun q => winI xs r k (k + q)) j : Nat) ∧ Blk wq wo.heap.size 67 #[.int .i64 x, .int .i64 P] ∧ Blk wq w1.heap.size 3 (arrN fun p => needI xs r (p : Int) k) ∧ Below w.heap.size w wq) (fun _ i _ => m - (intOf i).toNat)
      case atStart => exact ⟨0, Nat.zero_le _, rfl, rfl, NB.out, HB.out, HBL.out⟩
      case round =>
        obtain ⟨j, hj, rfl, rfl, hN, hB, hbl⟩ := hrel
        have hcn := cn_le (fun q => winI xs r k (k + q)) j
        have hcs := cn_s (fun q => winI xs r k (k + q)) j
        by_cases hjk : (j : Int) < m
        · obtain ⟨⟨x', y'⟩, hx'⟩ : ∃ p, xs[k + j]? = some p := ⟨_, List.getElem?_eq_getElem (by rw [HL.out]; omega)⟩
          have hb' := tune_at HT.out (show k + j < xs.length by rw [HL.out]; omega)
          rw [nt_of hx'] at hb'
          obtain ⟨x0', x1', y0', y1'⟩ := hb'
          simp only at x0' x1' y0' y1'
          obtain ⟨g2, g3⟩ := HC.out (k + j) _ hx'
          rw [show o + (k + j) * 2 = o + k * 2 + j * 2 by omega] at g2 g3
          have d0 : wr.cell? ⟨b, o + k * 2 + j * 2, none⟩ = some (.int .i64 x') := (hbl.cell (p := ⟨b, o + k * 2 + j * 2, none⟩) hbB).trans g2
          have d1 : wr.cell? ⟨b, o + k * 2 + j * 2 + 1, none⟩ = some (.int .i64 y') := (hbl.cell (p := ⟨b, o + k * 2 + j * 2 + 1, none⟩) hbB).trans g3
          obtain ⟨n0, n1⟩ := hN.c2
          have hnl := hN.lt
          have hw := HW.out j _ _ hx'
          obtain ⟨N, hNN⟩ : ∃ N, N = cn (fun q => winI xs r k (k + q)) j := ⟨_, rfl⟩
          rw [← hNN] at hcs hcn ⊢
          have HN2 := Lib.hid (hN.alloc (.cells #[.int .i64 x', .int .i64 y'] 67))
          have hB2 := Lib.hid (hB.alloc (.cells #[.int .i64 x', .int .i64 y'] 67))
          have hbl2 := Lib.hid (hbl.alloc hbl.size (.cells #[.int .i64 x', .int .i64 y'] 67))
          clear g2 g3 hx' hB hbl hNN hN
          by_cases hy : y' = (P : Int)
          case neg =>
            rw [hw, if_neg (by simp [hy])] at hcs
            have HCS := Lib.hid hcs
            have hyb : (y' == (P : Int)) = false := by simp [hy]
            clear hcs hw hy
            go_wp2
            go_roundw
            case rel => exact ⟨j + 1, by omega, by go_num, by rw [HCS.out]; rfl, HN2.out, hB2.out, hbl2.out⟩
            case measure => simp [intOf] <;> omega
          subst hy
          by_cases hxr : x' < x + r
          · rw [hw, if_pos (by simp [hxr])] at hcs
            have HCS := Lib.hid hcs
            clear hcs hw
            go_wp2
            go_roundw
            case rel => exact ⟨j + 1, by omega, by go_num, by rw [HCS.out]; go_num, HN2.out, hB2.out, hbl2.out⟩
            case measure => simp [intOf] <;> omega
          · rw [hw, if_neg (by simp [hxr])] at hcs
            have HCS := Lib.hid hcs
            have hxb : decide (x' < x + r) = false := by simp; omega
            clear hcs hw
            go_wp2
            go_roundw
            case rel => exact ⟨j + 1, by omega, by go_num, by rw [HCS.out]; rfl, HN2.out, hB2.out, hbl2.out⟩
            case measure => simp [intOf] <;> omega
        · obtain rfl : j = m := by omega
          have hst := needI_step xs r (k := k) (P := P) (by rw [nt_of HX.out])
          have HST := Lib.hid hst
          rw [← HCN.out] at hcn ⊢
          obtain ⟨n0, n1⟩ := hN.c2
          have d1 : wr.cell? ⟨w1.heap.size, P, none⟩ = some (.int .i64 ((needI xs r (P : Int) k : Nat) : Int)) := by rw [hB.cell P, arrN_get _ hP61]
          have f1 := hB.frozen P
          have HB3 := Lib.hid hB
          have HL3 := Lib.hid hbl
          generalize hM : needI xs r (P : Int) k = M at *
          generalize cntI xs r k = N at *
          clear hcs hst hB hbl hN
          go_wp2
          go_still_tail 11, (by kernel_rfl)
          change wpList _ _ _ _ _ wr.drew
          obtain ⟨w2, hw2⟩ : ∃ w2, w2 = wr.drew := ⟨_, rfl⟩
          have hB4 : Blk w2 w1.heap.size 3 (arrN fun p => needI xs r (p : Int) k) := by rw [hw2]; exact HB3.out
          have hL4 : Below w.heap.size w w2 := by rw [hw2]; exact HL3.out.drew
          rw [← hw2]
          clear hw2 n0 n1 d1 f1
          have d1 : w2.cell? ⟨w1.heap.size, P, none⟩ = some (.int .i64 (M : Int)) := by rw [hB4.cell P, arrN_get _ hP61, hM]
          have f1 := hB4.frozen P
          have HM := Lib.hid hM
          have HB4 := Lib.hid hB4
          have HL4 := Lib.hid hL4
          clear hM hB4 hL4
          go_wp2
          go_roundw
          case rel =>
            refine ⟨k + 1, by omega, by go_num, ?_, HL4.out.setCell z1 _⟩
            rw [HST.out]
            have := HB4.out.set_ P (.int .i64 ((max M N : Nat) : Int))
            rw [arrN_set _ hP61, max_cast] at this
            exact this
          case measure => simp [intOf] <;> omega
    · obtain rfl : k = n := by omega
      go_wp2
      go_ret
      refine ⟨_, _, rfl, own_of_blk (by assumption) (by simp [arrN_size]) (by unfold maxLen; omega) z1 (arrN_list _), by assumption⟩

end Go.Proofs.Ytjcaamnojinnmaa
