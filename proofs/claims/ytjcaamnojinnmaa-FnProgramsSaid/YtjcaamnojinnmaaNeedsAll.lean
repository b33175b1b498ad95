/-
  The teeth that chosen tunes need, for each pitch: neededForAll of impl, l09Needs of spec.
-/
import Derived.Test.YtjcaamnojinnmaaTunes
import Derived.Test.YtjcaamnojinnmaaNeedI
import Derived.Test.YtjcaamnojinnmaaChoice
namespace Go.Proofs.Ytjcaamnojinnmaa
open Go.RowKit

/-- the greater of two, up to j -/
def half (f g : Nat → Nat) (j : Nat) : Nat → Nat := fun p => if p < j then max (f p) (g p) else f p
theorem half_step (f g : Nat → Nat) {j : Nat} (_h : j < 61) : arrN (upd (half f g j) j (max (f j) (g j))) = arrN (half f g (j + 1)) := by
  refine arrN_congr fun p _ => ?_
  unfold upd half
  by_cases e : p = j
  · subst e
    rw [if_pos rfl, if_pos (by omega)]
  · rw [if_neg e]
    by_cases h2 : p < j
    · rw [if_pos h2, if_pos (by omega)]
    · rw [if_neg h2, if_neg (by omega)]
theorem half_all (f g : Nat → Nat) : arrN (half f g 61) = arrN fun p => max (f p) (g p) := arrN_congr fun p hp => by unfold half; rw [if_pos hp]
/-- a made slice of 61 numbers: its block -/
theorem own61 {w : World} {base c : Nat} {A : Option Addr} {f : Nat → Nat} (h : w.ownsRow base 3 1 (.slice A 61 c) 61 ((listN f).map (Value.int .i64))) :
    ∃ g cur, A = some ⟨g, 0, none⟩ ∧ base ≤ g ∧ Blk w g 3 cur ∧ ∀ p, p < 61 → cur[p]? = some (.int .i64 ((f p : Nat) : Int)) := by
  obtain ⟨g, cur, e, hb, hB, _, _, _, ht⟩ := own_get h (by omega)
  refine ⟨g, cur, e, hb, hB, fun p hp => ?_⟩
  have : (cur.toList.take (61 * 1))[p]? = some (.int .i64 ((f p : Nat) : Int)) := by rw [ht, List.getElem?_map, listN_get f hp]; rfl
  rw [List.getElem?_take, if_pos (by omega), Array.getElem?_toList] at this
  exact this

set_option maxHeartbeats 1000000 in
theorem iNeededAll (A : Option Addr) (n c : Nat) (hs : List (Option Addr × Nat)) (ts : List (List (Int × Int))) (A' : Option Addr) (n' c' : Nat) (ch : List Int) (r : Int) (w : World) (h : RdSS w w.heap.size A n hs ts)
    (h' : Rd w w.heap.size 1 A' n' (ch.map (Value.int .i64))) (hn' : n' ≤ 1048576) (ht : ts.all tuneB = true) (hch : riseB ch ((n : Int) - 1) = true) (hr : 1 ≤ r ∧ r ≤ 100) :
    Calls Try.prog 38 #[.slice A n c, .slice A' n' c', .int .i64 r] w (MadeS w 3 1 61 ((listN (allN ts r (selC ch))).map (Value.int .i64))) := by
  have hlen : ch.length = n' := by simpa using h'.1
  have H := Lib.hid h
  have H' := Lib.hid h'
  have HL := Lib.hid hlen
  have HT := Lib.hid ht
  have HCH := Lib.hid (fun x hx => rise_in (x := x) hch hx)
  have hmk := make61
  have hni : (n' : Int) ≤ 1048576 := by omega
  rw [← listN_congr (fun p _ => allL_eq (ts := ts) (r := r) (ch := ch) (fun x hx => by have := HCH.out x hx; have := H.out.2.1; omega) p)]
  clear h h' hlen ht hch
  go_enter Try.func38, Try.ntmps38
  go_wp2
  have B0 := Lib.hid (Blk.new w 3 (arrN fun _ => 0))
  have L0 := Lib.hid ((Below.refl w.heap.size w).alloc (Nat.le_refl _) (.cells (arrN fun _ => 0) 3))
  clear hmk
  go_loopw [15] (fun i wr => ∃ k : Nat, k ≤ n' ∧ i = .int .i64 k ∧ Blk wr w.heap.size 3 (arrN (allL ts r (ch.take k))) ∧ Below w.heap.size w wr) (fun i _ => n' - (intOf i).toNat)
  case atStart => exact ⟨0, Nat.zero_le _, rfl, B0.out, L0.out⟩
  case round =>
    obtain ⟨k, hk, rfl, hB, hbl⟩ := hrel
    obtain ⟨wo, rfl⟩ : ∃ wo : World, wo = wr := ⟨_, rfl⟩
    by_cases hlt : (k : Int) < n'
    · obtain ⟨b', o', rfl, hbB', hcell'⟩ := H'.out.cell (by omega)
      obtain ⟨x, hx⟩ : ∃ x, ch[k]? = some x := ⟨_, List.getElem?_eq_getElem (by rw [HL.out]; omega)⟩
      have c1 : wo.cell? ⟨b', o' + k, none⟩ = some (.int .i64 x) := (hbl.cell (p := ⟨b', o' + k, none⟩) hbB').trans (hcell' k _ (by simp [hx]))
      obtain ⟨hx0, hx1⟩ := HCH.out x (List.mem_of_getElem? hx)
      obtain ⟨X, rfl⟩ := Int.eq_ofNat_of_zero_le hx0
      have hXn : (X : Int) < n := by omega
      obtain ⟨b, o, a, cc, t, rfl, hbB, _, htt, hc, hrr, hcc, hl⟩ := H.out.at (k := X) (by omega)
      have c0 : wo.cell? ⟨b, o + X, none⟩ = some (.slice a t.length cc) := (hbl.cell (p := ⟨b, o + X, none⟩) hbB).trans hc
      have htu : tuneB t = true := List.all_eq_true.1 HT.out t (List.mem_of_getElem? htt)
      have HR := Lib.hid ((hrr.below hbl).more hbl.size)
      have hnd : ∀ p : Nat, nd ts r p X = needS t r (p : Int) t.length := fun p => by unfold nd; rw [getD_of htt]
      have hst : allL ts r (ch.take (k + 1)) = fun p => max (allL ts r (ch.take k) p) (needS t r (p : Int) t.length) := funext fun p => by
        rw [take_ch hx, allL_snoc, ← hnd p]
        rfl
      obtain ⟨m, hm⟩ : ∃ m, m = t.length := ⟨_, rfl⟩
      have IN := Lib.hid (fun w h => iNeeded a m cc t r w h (by omega) htu hr)
      rw [← hm] at c0 HR hst IN
      have HST := Lib.hid hst
      have HB := Lib.hid hB
      have HBL := Lib.hid hbl
      have zl := hB.lt
      have zs := hbl.size
      clear hx hcell' htt hc hrr hcc hl htu hnd hst hm hB hbl
      go_wp2_with fail
      refine (IN.out _ HR.out).mono ?_
      rintro e w2 ⟨A2, c2, rfl, ho2, hb2⟩
      obtain ⟨g2, cur, rfl, hg2, hB2, hcur⟩ := own61 ho2
      have HC := Lib.hid hcur
      have HB2 := Lib.hid hB2
      have HB1 := Lib.hid (HB.out.below hb2 zl)
      have HL1 := Lib.hid (HBL.out.trans (hb2.mono zs))
      have hne : g2 ≠ w.heap.size := by omega
      clear ho2 hb2 hB2 hcur
      go_wp2_with fail
      go_loopw [26] (fun i wr => ∃ j : Nat, j ≤ 61 ∧ i = .int .i64 j ∧ Blk wr w.heap.size 3 (arrN (half (allL ts r (ch.take k)) (fun p => needS t r (p : Int) m) j)) ∧ Blk wr g2 3 cur ∧ Below w.heap.size w wr) (fun i _ => 61 - (intOf i).toNat)
      case atStart => exact ⟨0, Nat.zero_le _, rfl, by rw [show arrN (half (allL ts r (ch.take k)) (fun p => needS t r (p : Int) m) 0) = arrN (allL ts r (ch.take k)) from arrN_congr fun p _ => by simp [half]]; exact HB1.out, HB2.out, HL1.out⟩
      case round =>
        obtain ⟨j, hj, rfl, hB, hB2, hbl⟩ := hrel
        by_cases hjl : (j : Int) < 61
        · have d0 : wr.cell? ⟨g2, j, none⟩ = some (.int .i64 ((needS t r (j : Int) m : Nat) : Int)) := by rw [hB2.cell j]; exact HC.out j (by omega)
          have d1 : wr.cell? ⟨w.heap.size, j, none⟩ = some (.int .i64 ((allL ts r (ch.take k) j : Nat) : Int)) := by
            rw [hB.cell j, arrN_get _ (by omega)]
            simp [half]
          have f1 := hB.frozen j
          have hst := half_step (allL ts r (ch.take k)) (fun p => needS t r (p : Int) m) (j := j) (by omega)
          have HS := Lib.hid hst
          have hsa := hB.set_ j (.int .i64 ((max (allL ts r (ch.take k) j) (needS t r (j : Int) m) : Nat) : Int))
          rw [arrN_set _ (by omega), hst, max_cast] at hsa
          have h2a := fun u => hB2.far (w := wr) (p := ⟨w.heap.size, j, none⟩) hne u
          have hba := fun u => hbl.setCell (p := ⟨w.heap.size, j, none⟩) (Nat.le_refl _) u
          have HSA := Lib.hid hsa
          have H2A := Lib.hid h2a
          have HBA := Lib.hid hba
          have KB := Lib.hid hB
          clear hst hsa h2a hba hB hB2 hbl HS
          go_wp2_with fail
          go_roundw
          case rel => exact ⟨j + 1, by omega, by go_num, HSA.out, H2A.out _, HBA.out _⟩
          case measure => simp [intOf] <;> omega
        · obtain rfl : j = 61 := by omega
          rw [half_all] at hB
          have KB := Lib.hid hB
          have KL := Lib.hid hbl
          clear hB hbl hB2
          go_wp2_with fail
          go_roundw
          case rel => exact ⟨k + 1, by omega, by go_num, by rw [HST.out]; exact KB.out, KL.out⟩
          case measure => simp [intOf] <;> omega
    · obtain rfl : k = n' := by omega
      rw [List.take_of_length_le (by rw [HL.out]; omega)] at hB
      go_wp2
      go_ret
      refine ⟨_, _, rfl, own_of_blk hB (by simp [arrN_size]) (by unfold maxLen; omega) (Nat.le_refl _) (arrN_list _), hbl⟩

theorem mxS_step (ts : List (List (Int × Int))) (r : Int) {S k : Nat} (h : bitS S k = true) : (fun p => mx (bitS S) (nd ts r p) (k + 1)) = fun p => max (mx (bitS S) (nd ts r p) k) (nd ts r p k) := funext fun p => by
  rw [show mx (bitS S) (nd ts r p) (k + 1) = if bitS S k = true then max (mx (bitS S) (nd ts r p) k) (nd ts r p k) else mx (bitS S) (nd ts r p) k from rfl, if_pos h]
theorem mxS_skip (ts : List (List (Int × Int))) (r : Int) {S k : Nat} (h : bitS S k = false) : (fun p => mx (bitS S) (nd ts r p) (k + 1)) = fun p => mx (bitS S) (nd ts r p) k := funext fun p => by
  rw [show mx (bitS S) (nd ts r p) (k + 1) = if bitS S k = true then max (mx (bitS S) (nd ts r p) k) (nd ts r p k) else mx (bitS S) (nd ts r p) k from rfl, if_neg (by rw [h]; simp)]

set_option maxHeartbeats 1000000 in
theorem sNeeds9 (A : Option Addr) (n c : Nat) (hs : List (Option Addr × Nat)) (ts : List (List (Int × Int))) (S : Nat) (r : Int) (w : World) (h : RdSS w w.heap.size A n hs ts)
    (hS : S < 256) (ht : ts.all tuneB = true) (hn8 : n ≤ 8) (hr : 1 ≤ r ∧ r ≤ 100) :
    Calls Try.prog 33 #[.slice A n c, .int .i64 S, .int .i64 r] w (MadeS w 3 1 61 ((listN (allN ts r (bitS S))).map (Value.int .i64))) := by
  have H := Lib.hid h
  have HT := Lib.hid ht
  have hmk := make61
  have hni : (n : Int) ≤ 8 := by omega
  rw [show allN ts r (bitS S) = fun p => mx (bitS S) (nd ts r p) n from funext fun p => by unfold allN; rw [H.out.2.1]]
  clear h ht
  go_enter Try.func33, Try.ntmps33
  go_wp2
  have B0 := Lib.hid (Blk.new w 3 (arrN fun _ => 0))
  have L0 := Lib.hid ((Below.refl w.heap.size w).alloc (Nat.le_refl _) (.cells (arrN fun _ => 0) 3))
  clear hmk
  go_loopw [8] (fun i wr => ∃ k : Nat, k ≤ n ∧ i = .int .i64 k ∧ Blk wr w.heap.size 3 (arrN fun p => mx (bitS S) (nd ts r p) k) ∧ Below w.heap.size w wr) (fun i _ => n - (intOf i).toNat)
  case atStart => exact ⟨0, Nat.zero_le _, rfl, B0.out, L0.out⟩
  case round =>
    obtain ⟨k, hk, rfl, hB, hbl⟩ := hrel
    obtain ⟨wo, rfl⟩ : ∃ wo : World, wo = wr := ⟨_, rfl⟩
    by_cases hlt : (k : Int) < n
    · have hbt := bit_0 hS k
      cases hb : bitS S k
      · rw [hb] at hbt
        have hsk := mxS_skip ts r hb
        have HSK := Lib.hid hsk
        have HB := Lib.hid hB
        clear hb hsk hB
        go_wp2_with (fail)
        go_roundw
        case rel => exact ⟨k + 1, by omega, by go_num, by rw [HSK.out]; exact HB.out, hbl⟩
        case measure => simp [intOf] <;> omega
      rw [hb] at hbt
      obtain ⟨b, o, a, cc, t, rfl, hbB, _, htt, hc, hrr, hcc, hl⟩ := H.out.at (k := k) (by omega)
      have c0 : wo.cell? ⟨b, o + k, none⟩ = some (.slice a t.length cc) := (hbl.cell (p := ⟨b, o + k, none⟩) hbB).trans hc
      have htu : tuneB t = true := List.all_eq_true.1 HT.out t (List.mem_of_getElem? htt)
      have HR := Lib.hid ((hrr.below hbl).more hbl.size)
      have hst : (fun p : Nat => mx (bitS S) (nd ts r p) (k + 1)) = fun p => max (mx (bitS S) (nd ts r p) k) (needS t r (p : Int) t.length) := by
        rw [mxS_step ts r hb]
        funext p
        rw [show nd ts r p k = needS t r (p : Int) t.length by unfold nd; rw [getD_of htt]]
      obtain ⟨m, hm⟩ : ∃ m, m = t.length := ⟨_, rfl⟩
      have IN := Lib.hid (fun w h => sNeeded a m cc t r w h htu hr)
      rw [← hm] at c0 HR hst IN
      have HST := Lib.hid hst
      have HB := Lib.hid hB
      have HBL := Lib.hid hbl
      have zl := hB.lt
      have zs := hbl.size
      clear hb htt hc hrr hcc hl htu hst hm hB hbl
      go_wp2_with fail
      refine (IN.out _ HR.out).mono ?_
      rintro e w2 ⟨A2, c2, rfl, ho2, hb2⟩
      obtain ⟨g2, cur, rfl, hg2, hB2, hcur⟩ := own61 ho2
      have HC := Lib.hid hcur
      have HB2 := Lib.hid hB2
      have HB1 := Lib.hid (HB.out.below hb2 zl)
      have HL1 := Lib.hid (HBL.out.trans (hb2.mono zs))
      have hne : g2 ≠ w.heap.size := by omega
      clear ho2 hb2 hB2 hcur
      go_wp2_with fail
      go_loopw [10] (fun i wr => ∃ j : Nat, j ≤ 61 ∧ i = .int .i64 j ∧ Blk wr w.heap.size 3 (arrN (half (fun p => mx (bitS S) (nd ts r p) k) (fun p => needS t r (p : Int) m) j)) ∧ Blk wr g2 3 cur ∧ Below w.heap.size w wr) (fun i _ => 61 - (intOf i).toNat)
      case atStart => exact ⟨0, Nat.zero_le _, rfl, by rw [show arrN (half (fun p => mx (bitS S) (nd ts r p) k) (fun p => needS t r (p : Int) m) 0) = arrN (fun p => mx (bitS S) (nd ts r p) k) from arrN_congr fun p _ => by simp [half]]; exact HB1.out, HB2.out, HL1.out⟩
      case round =>
        obtain ⟨j, hj, rfl, hB, hB2, hbl⟩ := hrel
        by_cases hjl : (j : Int) ≤ 60
        · have d0 : wr.cell? ⟨g2, j, none⟩ = some (.int .i64 ((needS t r (j : Int) m : Nat) : Int)) := by rw [hB2.cell j]; exact HC.out j (by omega)
          have d1 : wr.cell? ⟨w.heap.size, j, none⟩ = some (.int .i64 ((mx (bitS S) (nd ts r j) k : Nat) : Int)) := by
            rw [hB.cell j, arrN_get _ (by omega)]
            simp [half]
          have f1 := hB.frozen j
          have hst := half_step (fun p => mx (bitS S) (nd ts r p) k) (fun p => needS t r (p : Int) m) (j := j) (by omega)
          have hdr : Blk wr.drew w.heap.size 3 (arrN (half (fun p => mx (bitS S) (nd ts r p) k) (fun p => needS t r (p : Int) m) j)) := hB
          have hsa := hdr.set_ j (.int .i64 ((max (mx (bitS S) (nd ts r j) k) (needS t r (j : Int) m) : Nat) : Int))
          rw [arrN_set _ (by omega), hst, max_cast] at hsa
          have hd2 : Blk wr.drew g2 3 cur := hB2
          have h2a := fun u => hd2.far (p := ⟨w.heap.size, j, none⟩) hne u
          have hba := fun u => hbl.drew.setCell (p := ⟨w.heap.size, j, none⟩) (Nat.le_refl _) u
          have hj61 : (j : Int) < 61 := by omega
          have HSA := Lib.hid hsa
          have H2A := Lib.hid h2a
          have HBA := Lib.hid hba
          have KB := Lib.hid hdr
          generalize mx (bitS S) (nd ts r j) k = M at *
          generalize needS t r (j : Int) m = N at *
          clear hst hsa h2a hba hB hB2 hbl hdr hd2
          go_wp2_with fail
          go_still_tail 12, (by kernel_rfl)
          change wpList _ _ _ _ _ wr.drew
          obtain ⟨w3, hw3⟩ : ∃ w3, w3 = wr.drew := ⟨_, rfl⟩
          have d1 : w3.cell? ⟨w.heap.size, j, none⟩ = some (.int .i64 (M : Int)) := by rw [hw3]; exact d1
          have f1 : w3.frozen? ⟨w.heap.size, j, none⟩ = false := by rw [hw3]; exact f1
          rw [← hw3] at HSA H2A HBA ⊢
          clear hw3
          go_wp2_with fail
          go_roundw
          case rel => exact ⟨j + 1, by omega, by go_num, HSA.out, H2A.out _, HBA.out _⟩
          case measure => simp [intOf] <;> omega
        · obtain rfl : j = 61 := by omega
          rw [half_all] at hB
          have KB := Lib.hid hB
          have KL := Lib.hid hbl
          clear hB hbl hB2
          go_wp2_with fail
          go_roundw
          case rel => exact ⟨k + 1, by omega, by go_num, by rw [HST.out]; exact KB.out, KL.out⟩
          case measure => simp [intOf] <;> omega
    · obtain rfl : k = n := by omega
      go_wp2
      go_ret
      refine ⟨_, _, rfl, own_of_blk hB (by simp [arrN_size]) (by unfold maxLen; omega) (Nat.le_refl _) (arrN_list _), hbl⟩

end Go.Proofs.Ytjcaamnojinnmaa
