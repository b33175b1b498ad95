/-
  TeethForAll of impl and of spec: how many teeth the chosen tunes need, or -1.
-/
import Derived.Test.YtjcaamnojinnmaaNeedsAll
namespace Go.Proofs.Ytjcaamnojinnmaa
open Go.RowKit

def teethV (ts : List (List (Int × Int))) (ch : List Int) (r : Int) : Int := if tunesB ts = true ∧ riseB ch ((ts.length : Int) - 1) = true ∧ inB r 1 100 = true then (tv ts r (selC ch) : Int) else -1
theorem teeth_bd (ts : List (List (Int × Int))) (ch : List Int) (r : Int) : -1 ≤ teethV ts ch r ∧ teethV ts ch r ≤ 2440 := by
  unfold teethV
  split
  · rename_i h
    have : ts.all tuneB = true := by have := h.1; unfold tunesB at this; simp only [Bool.and_eq_true] at this; exact this.1
    have := tv_le this r (selC ch)
    omega
  · omega
theorem tunes_all {ts : List (List (Int × Int))} (h : tunesB ts = true) : ts.all tuneB = true ∧ ts.length ≤ 8 := by
  unfold tunesB at h
  simp only [Bool.and_eq_true, decide_eq_true_eq] at h
  exact h

set_option maxHeartbeats 1000000 in
theorem iTeethForAll (A : Option Addr) (n c : Nat) (hs : List (Option Addr × Nat)) (ts : List (List (Int × Int))) (A' : Option Addr) (n' c' : Nat) (ch : List Int) (r : Int) (w : World) (h : RdSS w w.heap.size A n hs ts)
    (h' : Rd w w.heap.size 1 A' n' (ch.map (Value.int .i64))) (hn : n ≤ 1048576) (hn' : n' ≤ 1048576) :
    Calls Try.prog 12 #[.slice A n c, .slice A' n' c', .int .i64 r] w fun e w' => e = .returned (.int .i64 (teethV ts ch r)) ∧ Below w.heap.size w w' := by
  have H := Lib.hid h
  have H' := Lib.hid h'
  have HA := Lib.hid (fun w h => iAreTunes A n c hs ts w h hn)
  have HR := Lib.hid (fun w (h : Rd w w.heap.size 1 A' n' (ch.map (Value.int .i64))) => iRising A' n' c' ch ((n : Int) - 1) w h hn')
  have hni : (n : Int) ≤ 1048576 := by omega
  clear h h'
  cases h1 : tunesB ts
  · rw [show teethV ts ch r = -1 by unfold teethV; rw [if_neg (by rw [h1]; simp)]]
    rw [h1] at HA
    clear h1
    go_enter Try.func12, Try.ntmps12
    go_wp2_with (go_at_call 35; refine (HA.out _ H.out).mono ?_; rintro e w1 ⟨rfl, hb1⟩)
    go_ret
    exact ⟨rfl, hb1⟩
  obtain ⟨hall, hn8⟩ := tunes_all h1
  rw [H.out.2.1] at hn8
  rw [h1] at HA
  cases h2 : riseB ch ((n : Int) - 1)
  · rw [show teethV ts ch r = -1 by unfold teethV; rw [if_neg (by rw [H.out.2.1, h2]; simp)]]
    rw [h2] at HR
    clear h1 h2 hall
    go_enter Try.func12, Try.ntmps12
    go_wp2_with (first | (go_at_call 35; refine (HA.out _ H.out).mono ?_; rintro e w1 ⟨rfl, hb1⟩) | (go_at_call 36; refine (HR.out _ ((H'.out.below hb1).more hb1.size)).mono ?_; rintro e w' ⟨rfl, rfl⟩))
    go_ret
    exact ⟨rfl, hb1⟩
  rw [h2] at HR
  cases h3 : inB r 1 100
  · rw [show teethV ts ch r = -1 by unfold teethV; rw [if_neg (by rw [h3]; simp)]]
    have HI := Lib.hid (fun w => within_any r 1 100 w)
    rw [h3] at HI
    clear h1 h2 h3 hall
    go_enter Try.func12, Try.ntmps12
    go_wp2_with (first | (go_at_call 35; refine (HA.out _ H.out).mono ?_; rintro e w1 ⟨rfl, hb1⟩) | (go_at_call 36; refine (HR.out _ ((H'.out.below hb1).more hb1.size)).mono ?_; rintro e w' ⟨rfl, rfl⟩) | (go_at_call 37; refine (HI.out _).mono ?_; rintro e w' ⟨rfl, rfl⟩))
    go_ret
    exact ⟨rfl, hb1⟩
  have HI := Lib.hid (fun w => within_any r 1 100 w)
  rw [h3] at HI
  have hr := inB_iff.1 h3
  rw [show teethV ts ch r = (sm (allN ts r (selC ch)) 61 : Nat) by unfold teethV; rw [if_pos ⟨h1, by rw [H.out.2.1]; exact h2, h3⟩]; rfl]
  have HN := Lib.hid (fun w h h' => iNeededAll A n c hs ts A' n' c' ch r w h h' hn' hall h2 hr)
  have HF := Lib.hid (fun p => allN_le hall r (selC ch) p)
  clear h1 h2 h3 hall
  go_enter Try.func12, Try.ntmps12
  go_wp2_with (first | (go_at_call 35; refine (HA.out _ H.out).mono ?_; rintro e w1 ⟨rfl, hb1⟩) | (go_at_call 36; refine (HR.out _ ((H'.out.below hb1).more hb1.size)).mono ?_; rintro e w' ⟨rfl, rfl⟩) | (go_at_call 37; refine (HI.out _).mono ?_; rintro e w' ⟨rfl, rfl⟩) | fail)
  refine (HN.out _ (H.out.step hb1) ((H'.out.below hb1).more hb1.size)).mono ?_
  rintro e w2 ⟨A2, c2, rfl, ho2, hb2⟩
  obtain ⟨g2, cur, rfl, hg2, hB2, hcur⟩ := own61 ho2
  have b2 := hb1.trans (hb2.mono hb1.size)
  have HB2 := Lib.hid hB2
  have HC := Lib.hid hcur
  clear ho2 hB2 hcur
  go_wp2_with fail
  go_loop [7, 31] (fun s i => ∃ k : Nat, k ≤ 61 ∧ i = .int .i64 k ∧ s = .int .i64 (sm (allN ts r (selC ch)) k : Nat)) (fun _ i => 61 - (intOf i).toNat)
  case atStart => exact ⟨0, Nat.zero_le _, rfl, rfl⟩
  case round =>
    obtain ⟨k, hk, rfl, rfl⟩ := hrel
    by_cases hlt : (k : Int) < 61
    · have c0 : w2.cell? ⟨g2, k, none⟩ = some (.int .i64 (allN ts r (selC ch) k : Nat)) := by rw [HB2.out.cell k]; exact HC.out k (by omega)
      have q1 := HF.out k
      have q2 := sm_le (f := allN ts r (selC ch)) (b := 40) (k := k) fun j _ => HF.out j
      have q3 : (sm (allN ts r (selC ch)) (k + 1) : Nat) = sm (allN ts r (selC ch)) k + allN ts r (selC ch) k := rfl
      have HH := Lib.hid q3
      generalize sm (allN ts r (selC ch)) k = S at *
      generalize allN ts r (selC ch) k = F at *
      clear q3
      go_wp2
      go_round
      case rel => exact ⟨k + 1, by omega, by go_num, by rw [HH.out]; go_num⟩
      case measure => simp [intOf]; omega
    · obtain rfl : k = 61 := by omega
      go_wp2
      go_ret
      exact ⟨rfl, b2⟩

set_option maxHeartbeats 1000000 in
theorem sTeethForAll (A : Option Addr) (n c : Nat) (hs : List (Option Addr × Nat)) (ts : List (List (Int × Int))) (A' : Option Addr) (n' c' : Nat) (ch : List Int) (r : Int) (w : World) (h : RdSS w w.heap.size A n hs ts)
    (h' : Rd w w.heap.size 1 A' n' (ch.map (Value.int .i64))) (hn : n ≤ 1048576) (hn' : n' ≤ 1048576) :
    Calls Try.prog 9 #[.slice A n c, .slice A' n' c', .int .i64 r] w fun e w' => e = .returned (.int .i64 (teethV ts ch r)) ∧ Below w.heap.size w w' := by
  have H := Lib.hid h
  have H' := Lib.hid h'
  have HA := Lib.hid (fun w h => sOk9 A n c hs ts r w h hn)
  have hni : (n : Int) ≤ 1048576 := by omega
  clear h h'
  cases h1 : tunesB ts && inB r 1 100
  · rw [show teethV ts ch r = -1 by unfold teethV; rw [if_neg (by rintro ⟨q1, _, q2⟩; rw [q1, q2] at h1; cases h1)]]
    rw [h1] at HA
    clear h1
    go_enter Try.func9, Try.ntmps9
    go_wp2_with (go_at_call 30; refine (HA.out _ H.out).mono ?_; rintro e w1 ⟨rfl, hb1⟩)
    go_ret
    exact ⟨rfl, hb1⟩
  rw [h1] at HA
  simp only [Bool.and_eq_true] at h1
  obtain ⟨h1, h3⟩ := h1
  obtain ⟨hall, hn8⟩ := tunes_all h1
  rw [H.out.2.1] at hn8
  have hn8i : (n : Int) ≤ 8 := by omega
  have HS := Lib.hid (fun w (h : Rd w w.heap.size 1 A' n' (ch.map (Value.int .i64))) => sSet9 A' n' c' ch ((n : Int) - 1) w h hn' (by omega))
  cases h2 : riseB ch ((n : Int) - 1)
  · rw [show teethV ts ch r = -1 by unfold teethV; rw [if_neg (by rw [H.out.2.1, h2]; simp)]]
    rw [show setV ch ((n : Int) - 1) = -1 by unfold setV; rw [if_neg (by rw [h2]; simp)]] at HS
    clear h1 h2 h3 hall
    go_enter Try.func9, Try.ntmps9
    go_wp2_with (first | (go_at_call 30; refine (HA.out _ H.out).mono ?_; rintro e w1 ⟨rfl, hb1⟩) | (go_at_call 31; refine (HS.out _ ((H'.out.below hb1).more hb1.size)).mono ?_; rintro e w2 ⟨rfl, q, rfl⟩))
    go_ret
    exact ⟨rfl, hb1.trans (Go.Joins.below_draws _ _ _)⟩
  have hin := fun x hx => rise_in (x := x) h2 hx
  rw [show setV ch ((n : Int) - 1) = (setL ch : Nat) by unfold setV; rw [if_pos h2]] at HS
  have hlt : setL ch < 256 := by
    have := setL_lt (ch := ch) (n := 8) fun x hx => by have := hin x hx; omega
    omega
  have hr := inB_iff.1 h3
  rw [show teethV ts ch r = (sm (allN ts r (bitS (setL ch))) 61 : Nat) by
    unfold teethV
    rw [if_pos ⟨h1, by rw [H.out.2.1]; exact h2, h3⟩, show bitS (setL ch) = selC ch from funext fun k => setL_bit (fun x hx => (hin x hx).1) k]
    rfl]
  have HN := Lib.hid (fun w h => sNeeds9 A n c hs ts (setL ch) r w h hlt hall hn8 hr)
  have HF := Lib.hid (fun A c w B h => sSum9 A c (allN ts r (bitS (setL ch))) w B h fun p _ => allN_le hall r _ p)
  generalize setL ch = S at *
  clear h1 h2 h3 hall hin
  go_enter Try.func9, Try.ntmps9
  go_wp2_with (first | (go_at_call 30; refine (HA.out _ H.out).mono ?_; rintro e w1 ⟨rfl, hb1⟩) | (go_at_call 31; refine (HS.out _ ((H'.out.below hb1).more hb1.size)).mono ?_; rintro e w2 ⟨rfl, q, rfl⟩) | fail)
  have b2 := hb1.trans (Go.Joins.below_draws w.heap.size w1 q)
  refine (HN.out _ (H.out.step b2)).mono ?_
  rintro e w3 ⟨A2, c2, rfl, ho3, hb3⟩
  have b3 := b2.trans (hb3.mono b2.size)
  go_wp2_with (go_at_call 32; refine (HF.out _ _ _ _ (Rd.of_own ho3)).mono ?_; rintro e w' ⟨rfl, rfl⟩)
  go_ret
  exact ⟨rfl, b3⟩

end Go.Proofs.Ytjcaamnojinnmaa
