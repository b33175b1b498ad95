/-
  The reference's TeethNeeded of a valid tune: for each pitch from 0 to 60 the greatest count in a window, as a slice of its own.
-/
import Derived.Test.YtjcaamnojinnmaaArr61
import Derived.Test.YtjcaamnojinnmaaTune
import Derived.Test.YtjcaamnojinnmaaOwnAid
namespace Go.Proofs.Ytjcaamnojinnmaa
open Go.RowKit

theorem max_cast (M N : Nat) : ((max M N : Nat) : Int) = if M < N then (N : Int) else (M : Int) := by split <;> omega
theorem needS_step (xs : List (Int × Int)) (r : Int) {k P : Nat} (hp : (nt xs k).2 = (P : Int)) : arrN (fun p => needS xs r (p : Int) (k + 1)) = arrN (upd (fun p => needS xs r (p : Int) k) P (max (needS xs r (P : Int) k) (cntS xs r k))) := by
  refine arrN_congr fun p _ => ?_
  unfold upd needS
  rw [show mx (pickP xs (p : Int)) (cntS xs r) (k + 1) = if pickP xs (p : Int) k = true then max (mx (pickP xs (p : Int)) (cntS xs r) k) (cntS xs r k) else mx (pickP xs (p : Int)) (cntS xs r) k from rfl]
  by_cases e : p = P
  · subst e
    rw [if_pos (by simp [pickP, hp]), if_pos rfl]
  · rw [if_neg (by simp [pickP, hp]; omega), if_neg e]

set_option maxHeartbeats 1000000 in
theorem sNeeded (A : Option Addr) (n c : Nat) (xs : List (Int × Int)) (r : Int) (w : World) (h : Rd w w.heap.size 2 A n (pc xs)) (ht : tuneB xs = true) (hr : 1 ≤ r ∧ r ≤ 100) :
    Calls Try.prog 52 #[.slice A n c, .int .i64 r] w (MadeS w 3 1 61 ((listN fun p => needS xs r (p : Int) xs.length).map (Value.int .i64))) := by
  have hlen := h.pair
  have hn40 : n ≤ 40 := by rw [← hlen]; exact tune_len ht
  have H := Lib.hid h
  have HL := Lib.hid hlen
  have HT := Lib.hid ht
  have hin : inB r 1 100 = true := inB_true hr
  obtain ⟨hr0, hr1⟩ := hr
  have TH := Lib.hid (fun w h => ((sTuneOk A n c xs w h (by omega)).mono fun e w' (h : _ ∧ _) => (⟨by rw [h.1, ht], h.2⟩ : e = .returned (.bool true) ∧ Below w.heap.size w w')))
  have IH := Lib.hid (fun w => ((l01In_any r 1 100 w).mono fun e w' (h : _ ∧ _) => (⟨by rw [h.1, hin], h.2⟩ : e = .returned (.bool true) ∧ w = w')))
  have hni : (n : Int) ≤ 40 := by omega
  have hmk := make61
  rw [hlen]
  clear h hlen ht hin
  go_enter Try.func52, Try.ntmps52
  go_wp2_with (first | (go_at_call 51; refine (TH.out _ H.out).mono ?_; rintro e w1 ⟨rfl, hb1⟩) | (go_at_call 40; refine (IH.out _).mono ?_; rintro e w' ⟨rfl, rfl⟩))
  have B0 := Lib.hid (Blk.new w1 3 (arrN fun _ => 0))
  have L0 := Lib.hid (hb1.alloc hb1.size (.cells (arrN fun _ => 0) 3))
  have z1 := hb1.size
  clear hb1 hmk
  go_loopw [6] (fun i wr => ∃ k : Nat, k ≤ n ∧ i = .int .i64 k ∧ Blk wr w1.heap.size 3 (arrN fun p => needS xs r (p : Int) k) ∧ Below w.heap.size w wr) (fun i _ => n - (intOf i).toNat)
  case atStart => exact ⟨0, Nat.zero_le _, rfl, B0.out, L0.out⟩
  case round =>
    obtain ⟨k, hk, rfl, hB, hbl⟩ := hrel
    by_cases hlt : (k : Int) < n
    · obtain ⟨b, o, rfl, hbB, hcell⟩ := H.out.pairAt (by omega)
      obtain ⟨⟨x, y⟩, hx⟩ : ∃ p, xs[k]? = some p := ⟨_, List.getElem?_eq_getElem (by rw [HL.out]; omega)⟩
      have ha := tune_at HT.out (show k < xs.length by rw [HL.out]; omega)
      rw [nt_of hx] at ha
      obtain ⟨x0, x1, y0, y1⟩ := ha
      simp only at x0 x1 y0 y1
      obtain ⟨P, rfl⟩ := Int.eq_ofNat_of_zero_le y0
      obtain ⟨g0, g1⟩ := hcell k _ hx
      have G0 := Lib.hid g0
      have G1 := Lib.hid g1
      have HC := Lib.hid hcell
      have HX := Lib.hid hx
      have HB := Lib.hid hB
      have HBL := Lib.hid hbl
      have hwin : ∀ j p q, xs[j]? = some (p, q) → winS xs r k j = decide (q = (P : Int) ∧ x - p < r) := fun j p q hj => by
        unfold winS
        rw [nt_of hj, nt_of hx]
      have HW := Lib.hid hwin
      have hP61 : P < 61 := by omega
      have hPi : (P : Int) < 61 := by omega
      clear hx hcell g0 g1 hwin hB hbl
      go_wp2
      go_loopw [7, 8] (fun s i wr => ∃ j : Nat, j ≤ k + 1 ∧ i = .int .i64 j ∧ s = .int .i64 (cn (winS xs r k) j : Nat) ∧ Blk wr w1.heap.size 3 (arrN fun p => needS xs r (p : Int) k) ∧ Below w.heap.size w wr) (fun _ i _ => k + 1 - (intOf i).toNat)
      case atStart => exact ⟨0, Nat.zero_le _, rfl, rfl, HB.out, HBL.out⟩
      case round =>
        obtain ⟨j, hj, rfl, rfl, hB, hbl⟩ := hrel
        have hcn := cn_le (winS xs r k) j
        have hcs := cn_s (winS xs r k) j
        by_cases hjk : (j : Int) ≤ k
        · obtain ⟨⟨x', y'⟩, hx'⟩ : ∃ p, xs[j]? = some p := ⟨_, List.getElem?_eq_getElem (by rw [HL.out]; omega)⟩
          have hb' := tune_at HT.out (show j < xs.length by rw [HL.out]; omega)
          rw [nt_of hx'] at hb'
          obtain ⟨x0', x1', y0', y1'⟩ := hb'
          simp only at x0' x1' y0' y1'
          obtain ⟨g2, g3⟩ := HC.out j _ hx'
          have c0 : wr.cell? ⟨b, o + k * 2, none⟩ = some (.int .i64 x) := (hbl.cell (p := ⟨b, o + k * 2, none⟩) hbB).trans G0.out
          have c1 : wr.cell? ⟨b, o + k * 2 + 1, none⟩ = some (.int .i64 P) := (hbl.cell (p := ⟨b, o + k * 2 + 1, none⟩) hbB).trans G1.out
          have d0 : wr.cell? ⟨b, o + j * 2, none⟩ = some (.int .i64 x') := (hbl.cell (p := ⟨b, o + j * 2, none⟩) hbB).trans g2
          have d1 : wr.cell? ⟨b, o + j * 2 + 1, none⟩ = some (.int .i64 y') := (hbl.cell (p := ⟨b, o + j * 2 + 1, none⟩) hbB).trans g3
          have hw := HW.out j _ _ hx'
          have hwr : IntKind.i64.wrap (x - x') = x - x' := IntWalk.i64_in _ (by omega)
          have hjn : (j : Int) < n := by omega
          obtain ⟨N, hN⟩ : ∃ N, N = cn (winS xs r k) j := ⟨_, rfl⟩
          rw [← hN] at hcs hcn ⊢
          have hB2 := Lib.hid hB
          have hbl2 := Lib.hid hbl
          clear g2 g3 hx' hB hbl hN
          by_cases hy : y' = (P : Int)
          case neg =>
            rw [hw, if_neg (by simp [hy])] at hcs
            have HCS := Lib.hid hcs
            have hyb : (y' == (P : Int)) = false := by simp [hy]
            clear hcs hw hy
            go_wp2
            go_quiet (fail)
            go_wp2
            go_roundw
            case rel => exact ⟨j + 1, by omega, by go_num, by rw [HCS.out]; rfl, hB2.out, hbl2.out.trans (Go.Joins.below_draws _ _ _)⟩
            case measure => simp [intOf] <;> omega
          subst hy
          by_cases hxr : x - x' < r
          · rw [hw, if_pos (by simp [hxr])] at hcs
            have HCS := Lib.hid hcs
            clear hcs hw
            go_wp2
            go_quiet (fail)
            go_wp2
            go_roundw
            case rel => exact ⟨j + 1, by omega, by go_num, by rw [HCS.out]; go_num, hB2.out, hbl2.out.trans (Go.Joins.below_draws _ _ _)⟩
            case measure => simp [intOf] <;> omega
          · rw [hw, if_neg (by simp [hxr])] at hcs
            have HCS := Lib.hid hcs
            have hxb : decide (x - x' < r) = false := by simp; omega
            clear hcs hw
            go_wp2
            go_quiet (fail)
            go_wp2
            go_roundw
            case rel => exact ⟨j + 1, by omega, by go_num, by rw [HCS.out]; rfl, hB2.out, hbl2.out.trans (Go.Joins.below_draws _ _ _)⟩
            case measure => simp [intOf] <;> omega
        · obtain rfl : j = k + 1 := by omega
          have hst := needS_step xs r (k := k) (P := P) (by rw [nt_of HX.out])
          have hcS : cn (winS xs r k) (k + 1) = cntS xs r k := rfl
          rw [hcS] at hcn ⊢
          have c1 : wr.cell? ⟨b, o + k * 2 + 1, none⟩ = some (.int .i64 P) := (hbl.cell (p := ⟨b, o + k * 2 + 1, none⟩) hbB).trans G1.out
          have d1 : wr.cell? ⟨w1.heap.size, P, none⟩ = some (.int .i64 ((needS xs r (P : Int) k : Nat) : Int)) := by rw [hB.cell P, arrN_get _ hP61]
          have f1 := hB.frozen P
          have HST := Lib.hid hst
          have HB3 := Lib.hid hB
          have HL3 := Lib.hid hbl
          generalize hM : needS xs r (P : Int) k = M at *
          generalize cntS xs r k = N at *
          clear hcs hcS hst hB hbl
          go_wp2
          go_still_tail 17, (by kernel_rfl)
          change wpList _ _ _ _ _ wr.drew
          obtain ⟨w2, hw2⟩ : ∃ w2, w2 = wr.drew := ⟨_, rfl⟩
          have hB4 : Blk w2 w1.heap.size 3 (arrN fun p => needS xs r (p : Int) k) := by rw [hw2]; exact HB3.out
          have hL4 : Below w.heap.size w w2 := by rw [hw2]; exact HL3.out.drew
          rw [← hw2]
          clear hw2 c1 d1 f1
          have d1 : w2.cell? ⟨w1.heap.size, P, none⟩ = some (.int .i64 (M : Int)) := by rw [hB4.cell P, arrN_get _ hP61, hM]
          have f1 := hB4.frozen P
          have HM := Lib.hid hM
          have HB4 := Lib.hid hB4
          have HL4 := Lib.hid hL4
          clear hM hB4 hL4
          go_wp2
          go_roundw
          case rel =>
            refine ⟨k + 1, by omega, by go_num, ?_, HL4.out.setCell z1 _⟩
            rw [HST.out]
            have := HB4.out.set_ P (.int .i64 ((max M N : Nat) : Int))
            rw [arrN_set _ hP61, max_cast] at this
            exact this
          case measure => simp [intOf] <;> omega
    · obtain rfl : k = n := by omega
      go_wp2
      go_ret
      refine ⟨_, _, rfl, own_of_blk (by assumption) (by simp [arrN_size]) (by unfold maxLen; omega) z1 (arrN_list _), by assumption⟩

end Go.Proofs.Ytjcaamnojinnmaa
