/-
  Are tunes valid, and not too many? areTunes of impl, l09Ok of spec.
-/
import Derived.Test.YtjcaamnojinnmaaGrid
import Derived.Test.YtjcaamnojinnmaaTuneI
namespace Go.Proofs.Ytjcaamnojinnmaa
open Go.RowKit

set_option maxHeartbeats 400000 in
theorem iAreTunes (A : Option Addr) (n c : Nat) (hs : List (Option Addr × Nat)) (ts : List (List (Int × Int))) (w : World) (h : RdSS w w.heap.size A n hs ts) (hn : n ≤ 1048576) :
    Calls Try.prog 35 #[.slice A n c, .int .i64 8] w fun e w' => e = .returned (.bool (tunesB ts)) ∧ Below w.heap.size w w' := by
  have H := Lib.hid h
  clear h
  unfold tunesB
  rw [H.out.2.1]
  by_cases h8 : (n : Int) ≤ 8
  case neg =>
    rw [show decide (n ≤ 8) = false by simp; omega, Bool.and_false]
    go_enter Try.func35, Try.ntmps35
    go_wp2
    go_ret
    exact ⟨rfl, by (repeat (first | exact Below.refl _ _ | assumption | refine Below.alloc ?_ (by first | omega | (simp <;> omega)) _ | refine Below.setCell ?_ (by first | omega | (simp <;> omega)) _ | refine Below.drew ?_ | refine Below.trans ?_ (Below.mono (by assumption) (by first | omega | (simp <;> omega)))))⟩
  rw [show decide (n ≤ 8) = true by simp; omega, Bool.and_true]
  obtain ⟨v, hv⟩ : ∃ v, v = ts.all tuneB := ⟨_, rfl⟩
  rw [← hv]
  have HV := Lib.hid hv
  clear hv
  go_enter Try.func35, Try.ntmps35
  go_wp2
  go_loopw [13] (fun i wr => ∃ k : Nat, k ≤ n ∧ i = .int .i64 k ∧ Hid ((ts.take k).all tuneB = true) ∧ Below w.heap.size w wr) (fun i _ => n - (intOf i).toNat)
  case atStart => exact ⟨0, Nat.zero_le _, rfl, rfl, by (repeat (first | exact Below.refl _ _ | assumption | refine Below.alloc ?_ (by first | omega | (simp <;> omega)) _ | refine Below.setCell ?_ (by first | omega | (simp <;> omega)) _ | refine Below.drew ?_ | refine Below.trans ?_ (Below.mono (by assumption) (by first | omega | (simp <;> omega)))))⟩
  case round =>
    obtain ⟨k, hk, rfl, hall, hbl⟩ := hrel
    by_cases hlt : (k : Int) < n
    · obtain ⟨b, o, a, c', t, rfl, hbB, _, ht, hc, hr, _, hl⟩ := H.out.at (k := k) (by omega)
      have c0 : wr.cell? ⟨b, o + k, none⟩ = some (.slice a t.length c') := (hbl.cell (p := ⟨b, o + k, none⟩) hbB).trans hc
      have HR := Lib.hid ((hr.below hbl).more hbl.size)
      have HT := Lib.hid ht
      clear ht hc hr
      obtain ⟨m, hm⟩ : ∃ m, m = t.length := ⟨_, rfl⟩
      rw [← hm] at c0 HR hl
      cases hq : tuneB t
      · have hv : v = false := HV.out.trans (rows_stop HT.out hq)
        have HF := Lib.hid hv
        have TH := Lib.hid (fun w h => iTuneOk a m c' t w h hl)
        rw [hq] at TH
        clear hv hm
        go_wp2_with (go_at_call 54; refine (TH.out _ HR.out).mono ?_; rintro e w1 ⟨rfl, hb1⟩)
        go_ret
        exact ⟨by rw [HF.out]; rfl, hbl.trans (hb1.mono hbl.size)⟩
      · have hst := rows_step HT.out hall.out hq
        have HST := Lib.hid hst
        have TH := Lib.hid (fun w h => iTuneOk a m c' t w h hl)
        rw [hq] at TH
        clear hst hm
        go_wp2_with (go_at_call 54; refine (TH.out _ HR.out).mono ?_; rintro e w1 ⟨rfl, hb1⟩)
        go_roundw
        case rel => exact ⟨k + 1, by omega, by go_num, HST, hbl.trans (hb1.mono hbl.size)⟩
        case measure => simp [intOf] <;> omega
    · obtain rfl : k = n := by omega
      have hv : v = true := by
        have := hall.out
        rw [List.take_of_length_le (by rw [H.out.2.1]; omega)] at this
        exact HV.out.trans this
      have HF := Lib.hid hv
      clear hv
      go_wp2
      go_ret
      exact ⟨by rw [HF.out]; rfl, hbl⟩

set_option maxHeartbeats 400000 in
theorem sOk9 (A : Option Addr) (n c : Nat) (hs : List (Option Addr × Nat)) (ts : List (List (Int × Int))) (r : Int) (w : World) (h : RdSS w w.heap.size A n hs ts) (hn : n ≤ 1048576) :
    Calls Try.prog 30 #[.slice A n c, .int .i64 r] w fun e w' => e = .returned (.bool (tunesB ts && inB r 1 100)) ∧ Below w.heap.size w w' := by
  have H := Lib.hid h
  clear h
  unfold tunesB
  rw [H.out.2.1]
  have hni : (n : Int) ≤ 1048576 := by omega
  obtain ⟨v, hv⟩ : ∃ v, v = (ts.all tuneB && decide (n ≤ 8) && inB r 1 100) := ⟨_, rfl⟩
  rw [← hv]
  have HV := Lib.hid hv
  clear hv
  go_enter Try.func30, Try.ntmps30
  go_wp2
  go_loopw [5] (fun i wr => ∃ k : Nat, k ≤ n ∧ i = .int .i64 k ∧ Hid ((ts.take k).all tuneB = true) ∧ Below w.heap.size w wr) (fun i _ => n - (intOf i).toNat)
  case atStart => exact ⟨0, Nat.zero_le _, rfl, rfl, by (repeat (first | exact Below.refl _ _ | assumption | refine Below.alloc ?_ (by first | omega | (simp <;> omega)) _ | refine Below.setCell ?_ (by first | omega | (simp <;> omega)) _ | refine Below.drew ?_ | refine Below.trans ?_ (Below.mono (by assumption) (by first | omega | (simp <;> omega)))))⟩
  case round =>
    obtain ⟨k, hk, rfl, hall, hbl⟩ := hrel
    by_cases hlt : (k : Int) < n
    · obtain ⟨b, o, a, c', t, rfl, hbB, _, ht, hc, hr, _, hl⟩ := H.out.at (k := k) (by omega)
      have c0 : wr.cell? ⟨b, o + k, none⟩ = some (.slice a t.length c') := (hbl.cell (p := ⟨b, o + k, none⟩) hbB).trans hc
      have HR := Lib.hid ((hr.below hbl).more hbl.size)
      have HT := Lib.hid ht
      clear ht hc hr
      obtain ⟨m, hm⟩ : ∃ m, m = t.length := ⟨_, rfl⟩
      rw [← hm] at c0 HR hl
      cases hq : tuneB t
      · have hv : v = false := HV.out.trans (by rw [rows_stop HT.out hq]; rfl)
        have HF := Lib.hid hv
        have TH := Lib.hid (fun w h => sTuneOk a m c' t w h hl)
        rw [hq] at TH
        clear hv hm
        go_wp2_with (go_at_call 51; refine (TH.out _ HR.out).mono ?_; rintro e w1 ⟨rfl, hb1⟩)
        go_ret
        exact ⟨by rw [HF.out]; rfl, hbl.trans (hb1.mono hbl.size)⟩
      · have hst := rows_step HT.out hall.out hq
        have HST := Lib.hid hst
        have TH := Lib.hid (fun w h => sTuneOk a m c' t w h hl)
        rw [hq] at TH
        clear hst hm
        go_wp2_with (go_at_call 51; refine (TH.out _ HR.out).mono ?_; rintro e w1 ⟨rfl, hb1⟩)
        go_roundw
        case rel => exact ⟨k + 1, by omega, by go_num, HST, hbl.trans (hb1.mono hbl.size)⟩
        case measure => simp [intOf] <;> omega
    · obtain rfl : k = n := by omega
      have hv : v = (decide (k ≤ 8) && inB r 1 100) := by
        have := hall.out
        rw [List.take_of_length_le (by rw [H.out.2.1]; omega)] at this
        rw [HV.out, this, Bool.true_and]
      by_cases h8 : (k : Int) ≤ 8
      · have HF := Lib.hid (hv.trans (by rw [show decide (k ≤ 8) = true by simp; omega, Bool.true_and]))
        clear hv
        go_wp2_with (go_at_call 40; refine (l01In_any _ _ _ _).mono ?_; rintro e w' ⟨rfl, rfl⟩)
        go_ret
        exact ⟨by rw [HF.out]; rfl, hbl⟩
      · have HF := Lib.hid (hv.trans (by rw [show decide (k ≤ 8) = false by simp; omega, Bool.false_and]))
        clear hv
        go_wp2
        go_ret
        exact ⟨by rw [HF.out]; rfl, hbl⟩

end Go.Proofs.Ytjcaamnojinnmaa
