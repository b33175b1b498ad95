/-
  ExtraTeeth of impl and of spec: how many teeth more one tune more needs, or -1.
-/
import Derived.Test.YtjcaamnojinnmaaTeethAll
import Derived.Test.YtjcaamnojinnmaaApp
import Derived.Deep.RegionHeld3
namespace Go.Proofs.Ytjcaamnojinnmaa
open Go.RowKit

/-- the choice with tune k -/
def moreB (ch : List Int) (k : Int) (i : Nat) : Bool := decide ((i : Int) = k) || selC ch i
def extraV (ts : List (List (Int × Int))) (ch : List Int) (k r : Int) : Int := if 0 ≤ teethV ts ch r ∧ 0 ≤ k ∧ k < ts.length then (tv ts r (moreB ch k) : Int) - teethV ts ch r else -1
theorem teeth_ok {ts : List (List (Int × Int))} {ch : List Int} {r : Int} (h : 0 ≤ teethV ts ch r) : tunesB ts = true ∧ riseB ch ((ts.length : Int) - 1) = true ∧ inB r 1 100 = true := by
  unfold teethV at h
  split at h
  · assumption
  · omega
theorem teeth_more {ts : List (List (Int × Int))} {ch : List Int} {r : Int} (h : 0 ≤ teethV ts ch r) (k : Int) : teethV ts (memL (moreB ch k) ts.length) r = tv ts r (moreB ch k) := by
  obtain ⟨h1, h2, h3⟩ := teeth_ok h
  unfold teethV
  rw [if_pos ⟨h1, memL_rise, h3⟩, tv_congr fun j hj => memL_sel hj]

set_option maxHeartbeats 400000 in
theorem iHolds (A : Option Addr) (n c : Nat) (xs : List Int) (y : Int) (w : World) (B : Nat) (h : Rd w B 1 A n (xs.map (Value.int .i64))) (hn : n ≤ 1048576) :
    Calls Try.prog 47 #[.slice A n c, .int .i64 y] w fun e w' => e = .returned (.bool (decide (y ∈ xs))) ∧ w = w' := by
  have hlen : xs.length = n := by simpa using h.1
  have H := Lib.hid h
  have HL := Lib.hid hlen
  clear h hlen
  have hni : (n : Int) ≤ 1048576 := by omega
  obtain ⟨v, hv⟩ : ∃ v, v = decide (y ∈ xs) := ⟨_, rfl⟩
  rw [← hv]
  have HV := Lib.hid hv
  clear hv
  go_enter Try.func47, Try.ntmps47
  go_wp2
  go_loop [9] (fun i => ∃ k : Nat, k ≤ n ∧ i = .int .i64 k ∧ Hid (y ∉ xs.take k)) (fun i => n - (intOf i).toNat)
  case atStart => exact ⟨0, Nat.zero_le _, rfl, Lib.hid (by simp)⟩
  case round =>
    obtain ⟨k, hk, rfl, hno⟩ := hrel
    by_cases hlt : (k : Int) < n
    · obtain ⟨b, o, rfl, hbB, hcell⟩ := H.out.cell (by omega)
      obtain ⟨z, hz⟩ : ∃ z, xs[k]? = some z := ⟨_, List.getElem?_eq_getElem (by rw [HL.out]; omega)⟩
      have c1 : w.cell? ⟨b, o + k, none⟩ = some (.int .i64 z) := hcell k _ (by simp [hz])
      have HZ := Lib.hid hz
      clear hcell hz
      by_cases e : z = y
      · have hin : decide (y ∈ xs) = true := decide_eq_true (e ▸ List.mem_of_getElem? HZ.out)
        have HI := Lib.hid (HV.out.trans hin)
        subst e
        clear hin
        go_wp2
        go_ret
        exact ⟨by rw [HI.out]; rfl, rfl⟩
      · have hb : (z == y) = false := by simp [e]
        have hno2 : y ∉ xs.take (k + 1) := by
          rw [take_ch HZ.out, List.mem_append, List.mem_singleton]
          rintro (h1 | h1)
          · exact hno.out h1
          · exact e h1.symm
        have HN := Lib.hid hno2
        clear hno2 e
        go_wp2
        go_round
        case rel => exact ⟨k + 1, by omega, by go_num, HN⟩
        case measure => simp [intOf]; omega
    · obtain rfl : k = n := by omega
      have hin : decide (y ∈ xs) = false := by
        have := hno.out
        rw [List.take_of_length_le (by rw [HL.out]; omega)] at this
        exact decide_eq_false this
      have HI := Lib.hid (HV.out.trans hin)
      clear hin
      go_wp2
      go_ret
      exact ⟨by rw [HI.out]; rfl, rfl⟩

set_option maxHeartbeats 1000000 in
theorem iExtraTeeth (A : Option Addr) (n c : Nat) (hs : List (Option Addr × Nat)) (ts : List (List (Int × Int))) (A' : Option Addr) (n' c' : Nat) (ch : List Int) (k r : Int) (w : World) (h : RdSS w w.heap.size A n hs ts)
    (h' : Rd w w.heap.size 1 A' n' (ch.map (Value.int .i64))) (hn : n ≤ 1048576) (hn' : n' ≤ 1048576) :
    Calls Try.prog 23 #[.slice A n c, .slice A' n' c', .int .i64 k, .int .i64 r] w fun e w' => e = .returned (.int .i64 (extraV ts ch k r)) ∧ Below w.heap.size w w' := by
  have H := Lib.hid h
  have H' := Lib.hid h'
  have HT := Lib.hid (fun w h h' => iTeethForAll A n c hs ts A' n' c' ch r w h h' hn hn')
  have hni : (n : Int) ≤ 1048576 := by omega
  have hlen := h.2.1
  have hbd := teeth_bd ts ch r
  clear h h'
  by_cases hok : 0 ≤ teethV ts ch r ∧ 0 ≤ k ∧ k < n
  case neg =>
    rw [show extraV ts ch k r = -1 by unfold extraV; rw [hlen, if_neg hok]]
    generalize teethV ts ch r = T at *
    clear hlen
    by_cases h1 : T < 0
    · clear hok
      go_enter Try.func23, Try.ntmps23
      go_wp2_with (go_at_call 12; refine (HT.out _ H.out H'.out).mono ?_; rintro e w1 ⟨rfl, hb1⟩)
      go_ret
      exact ⟨rfl, hb1⟩
    by_cases h2 : k < 0
    · clear hok
      go_enter Try.func23, Try.ntmps23
      go_wp2_with (go_at_call 12; refine (HT.out _ H.out H'.out).mono ?_; rintro e w1 ⟨rfl, hb1⟩)
      go_ret
      exact ⟨rfl, hb1⟩
    · have h3 : (n : Int) ≤ k := by omega
      clear hok
      go_enter Try.func23, Try.ntmps23
      go_wp2_with (go_at_call 12; refine (HT.out _ H.out H'.out).mono ?_; rintro e w1 ⟨rfl, hb1⟩)
      go_ret
      exact ⟨rfl, hb1⟩
  rw [show extraV ts ch k r = (tv ts r (moreB ch k) : Int) - teethV ts ch r by unfold extraV; rw [hlen, if_pos hok]]
  obtain ⟨h0, h1, h2⟩ := hok
  have hm := teeth_more h0 k
  have hn8 : n ≤ 8 := by have := (tunes_all (teeth_ok h0).1).2; omega
  have htv := tv_le (tunes_all (teeth_ok h0).1).1 r (moreB ch k)
  rw [hlen] at hm
  obtain ⟨M, hM⟩ : ∃ M, M = (memL (moreB ch k) n).length := ⟨_, rfl⟩
  have hM8 : M ≤ n := by rw [hM, memL_len]; exact cn_le _ _
  have HTM := Lib.hid (fun A2 c2 w h h' => iTeethForAll A n c hs ts A2 M c2 (memL (moreB ch k) n) r w h h' hn (by omega))
  rw [hm] at HTM
  have HH := Lib.hid (fun (i : Nat) (w : World) h => iHolds A' n' c' ch (i : Int) w w.heap.size h hn')
  have HMM := Lib.hid hM
  have HST := Lib.hid (fun i => memL_step (moreB ch k) i)
  have hn8i : (n : Int) ≤ 8 := by omega
  generalize tv ts r (moreB ch k) = V at *
  generalize teethV ts ch r = T at *
  clear hm hM hlen
  go_enter Try.func23, Try.ntmps23
  go_wp2_with (go_at_call 12; refine (HT.out _ H.out H'.out).mono ?_; rintro e w1 ⟨rfl, hb1⟩)
  have OE := Lib.hid (own_empty w1 3 1 w.heap.size hb1.size)
  have BE := Lib.hid (hb1.alloc hb1.size (.cells #[] 3))
  clear hb1
  go_loopw [10, 31] (fun v i wr => ∃ (j m : Nat), j ≤ n ∧ i = .int .i64 j ∧ m ≤ j ∧ wr.ownsRow w.heap.size 3 1 v m ((memL (moreB ch k) j).map (Value.int .i64)) ∧ Below w.heap.size w wr) (fun _ i _ => n - (intOf i).toNat)
  case atStart => exact ⟨0, 0, Nat.zero_le _, rfl, Nat.zero_le _, OE.out, BE.out⟩
  case round =>
    obtain ⟨j, m, hj, rfl, hmj, hown, hbl⟩ := hrel
    by_cases hlt : (j : Int) < n
    · have hs1 := HST.out j
      have hmo : moreB ch k j = (decide ((j : Int) = k) || decide ((j : Int) ∈ ch)) := rfl
      have HO := Lib.hid hown
      have zb := hbl.size
      have R' := Lib.hid ((H'.out.below hbl).more zb)
      clear hown
      by_cases hjk : (j : Int) = k
      · rw [hmo, decide_eq_true hjk, Bool.true_or, if_pos rfl] at hs1
        have HS1 := Lib.hid hs1
        have hjb : ((j : Int) == k) = true := by simp [hjk]
        clear hs1 hmo hjk
        go_wp2_with (at_builtin; refine wpList_app_int (w := wr) (W := w) rfl (.tmp 42) (.tmp 44) rfl w.heap.size _ _ (memL (moreB ch k) j) (j : Int) rfl HO.out (by simp [go_sem]) (by omega) zb hbl ?_; intro v' w' hown' hg' hbl')
        have HO' := Lib.hid hown'
        clear hown' hg'
        go_roundw
        case rel => exact ⟨j + 1, m + 1, by omega, by go_num, by omega, by rw [HS1.out]; exact HO'.out, hbl'⟩
        case measure => simp [intOf] <;> omega
      have hjb : ((j : Int) == k) = false := by simp [hjk]
      have HX := Lib.hid (HH.out j)
      by_cases hin : (j : Int) ∈ ch
      · rw [hmo, decide_eq_true hin, Bool.or_true, if_pos rfl] at hs1
        rw [decide_eq_true hin] at HX
        have HS1 := Lib.hid hs1
        clear hs1 hmo hjk hin
        go_wp2_with (first | (go_at_call 47; refine (HX.out _ R'.out).mono ?_; rintro e w' ⟨rfl, rfl⟩) | (at_builtin; refine wpList_app_int (w := wr) (W := w) rfl (.tmp 42) (.tmp 44) rfl w.heap.size _ _ (memL (moreB ch k) j) (j : Int) rfl HO.out (by simp [go_sem]) (by omega) zb hbl ?_; intro v' w' hown' hg' hbl'))
        have HO' := Lib.hid hown'
        clear hown' hg'
        go_roundw
        case rel => exact ⟨j + 1, m + 1, by omega, by go_num, by omega, by rw [HS1.out]; exact HO'.out, hbl'⟩
        case measure => simp [intOf] <;> omega
      · rw [hmo, decide_eq_false hin, decide_eq_false hjk, Bool.or_false, if_neg (by simp), List.append_nil] at hs1
        rw [decide_eq_false hin] at HX
        have HS1 := Lib.hid hs1
        clear hs1 hmo hjk hin
        go_wp2_with (go_at_call 47; refine (HX.out _ R'.out).mono ?_; rintro e w' ⟨rfl, rfl⟩)
        go_roundw
        case rel => exact ⟨j + 1, m, by omega, by go_num, by omega, by rw [HS1.out]; exact HO.out, hbl⟩
        case measure => simp [intOf] <;> omega
    · obtain rfl : j = n := by omega
      obtain ⟨A2, c2, rfl⟩ := own_shape hown
      obtain rfl : m = M := by
        have := hown.1
        rw [HMM.out]
        simpa using this.symm
      have R2 := Lib.hid (Rd.of_own hown)
      have RT := Lib.hid ((H.out.below hbl).more hbl.size)
      have zb := hbl.size
      clear hown
      go_wp2_with (go_at_call 12; refine (HTM.out _ _ _ RT.out R2.out).mono ?_; rintro e w2 ⟨rfl, hb2⟩)
      go_ret
      exact ⟨rfl, hbl.trans (hb2.mono zb)⟩

theorem more_bit {ch : List Int} {k : Nat} (h : ∀ x ∈ ch, 0 ≤ x) : bitS (setL ch ||| 2 ^ k) = moreB ch (k : Int) := funext fun i => by
  unfold bitS moreB
  rw [Nat.testBit_or, setL_bit h, Nat.testBit_two_pow, Bool.or_comm]
  congr 1
  rw [Bool.eq_iff_iff]
  simp
  omega

set_option maxHeartbeats 1000000 in
theorem sExtraTeeth (A : Option Addr) (n c : Nat) (hs : List (Option Addr × Nat)) (ts : List (List (Int × Int))) (A' : Option Addr) (n' c' : Nat) (ch : List Int) (k r : Int) (w : World) (h : RdSS w w.heap.size A n hs ts)
    (h' : Rd w w.heap.size 1 A' n' (ch.map (Value.int .i64))) (hn : n ≤ 1048576) (hn' : n' ≤ 1048576) :
    Calls Try.prog 22 #[.slice A n c, .slice A' n' c', .int .i64 k, .int .i64 r] w fun e w' => e = .returned (.int .i64 (extraV ts ch k r)) ∧ Below w.heap.size w w' := by
  have H := Lib.hid h
  have H' := Lib.hid h'
  have HT := Lib.hid (fun w h h' => sTeethForAll A n c hs ts A' n' c' ch r w h h' hn hn')
  have hni : (n : Int) ≤ 1048576 := by omega
  have hlen := h.2.1
  have hbd := teeth_bd ts ch r
  clear h h'
  by_cases hok : 0 ≤ teethV ts ch r ∧ 0 ≤ k ∧ k < n
  case neg =>
    rw [show extraV ts ch k r = -1 by unfold extraV; rw [hlen, if_neg hok]]
    generalize teethV ts ch r = T at *
    clear hlen
    by_cases h1 : T < 0
    · clear hok
      go_enter Try.func22, Try.ntmps22
      go_wp2_with (go_at_call 9; refine (HT.out _ H.out H'.out).mono ?_; rintro e w1 ⟨rfl, hb1⟩)
      go_ret
      exact ⟨rfl, hb1⟩
    · have HI := Lib.hid (fun w => l01In_any k 0 ((n : Int) - 1) w)
      rw [show inB k 0 ((n : Int) - 1) = false from inB_false (by omega)] at HI
      clear hok
      go_enter Try.func22, Try.ntmps22
      go_wp2_with (first | (go_at_call 9; refine (HT.out _ H.out H'.out).mono ?_; rintro e w1 ⟨rfl, hb1⟩) | (go_at_call 40; refine (HI.out _).mono ?_; rintro e w' ⟨rfl, rfl⟩))
      go_ret
      exact ⟨rfl, hb1⟩
  obtain ⟨h0, h1, h2⟩ := hok
  obtain ⟨q1, q2, q3⟩ := teeth_ok h0
  obtain ⟨hall, hn8⟩ := tunes_all q1
  rw [hlen] at hn8 q2
  have hin := fun x hx => rise_in (x := x) q2 hx
  have hr := inB_iff.1 q3
  obtain ⟨K, rfl⟩ := Int.eq_ofNat_of_zero_le h1
  have hK : K ≤ 7 := by omega
  have hlt : setL ch < 256 := by
    have := setL_lt (ch := ch) (n := 8) fun x hx => by have := hin x hx; omega
    omega
  have hor : bits .or .i64 (setL ch : Int) (IntKind.i64.wrap (2 ^ K)) = ((setL ch ||| 2 ^ K : Nat) : Int) := by rw [IntWalk.i64_left]; exact set_or hlt hK
  have hlt2 : setL ch ||| 2 ^ K < 256 := by
    have : 2 ^ K < 2 ^ 8 := Nat.pow_lt_pow_right (by omega) (by omega)
    exact Nat.or_lt_two_pow (n := 8) hlt this
  have htv := tv_le hall r (moreB ch (K : Int))
  rw [show extraV ts ch (K : Int) r = ((sm (allN ts r (bitS (setL ch ||| 2 ^ K))) 61 : Nat) : Int) - teethV ts ch r by
    unfold extraV
    rw [hlen, if_pos ⟨h0, h1, h2⟩, more_bit fun x hx => (hin x hx).1]
    rfl]
  rw [← more_bit fun x hx => (hin x hx).1] at htv
  unfold tv at htv
  have HI := Lib.hid (fun w => l01In_any (K : Int) 0 ((n : Int) - 1) w)
  rw [show inB (K : Int) 0 ((n : Int) - 1) = true from inB_true (by omega)] at HI
  have HS := Lib.hid (fun w (h : Rd w w.heap.size 1 A' n' (ch.map (Value.int .i64))) => sSet9 A' n' c' ch ((n : Int) - 1) w h hn' (by omega))
  rw [show setV ch ((n : Int) - 1) = (setL ch : Nat) by unfold setV; rw [if_pos q2]] at HS
  have HN := Lib.hid (fun w h => sNeeds9 A n c hs ts (setL ch ||| 2 ^ K) r w h hlt2 hall hn8 hr)
  have HF := Lib.hid (fun A c w B h => sSum9 A c (allN ts r (bitS (setL ch ||| 2 ^ K))) w B h fun p _ => allN_le hall r _ p)
  rw [← hor] at HN
  generalize sm (allN ts r (bitS (setL ch ||| 2 ^ K))) 61 = V at *
  generalize teethV ts ch r = T at *
  have hn8i : (n : Int) ≤ 8 := by omega
  have hK7 : (K : Int) ≤ 7 := by omega
  have hK0 : (0 : Int) ≤ K := by omega
  have hw1 : IntKind.i64.wrap ((n : Int) - 1) = (n : Int) - 1 := IntWalk.i64_in _ (by omega)
  have hw2 : IntKind.i64.wrap ((V : Int) - T) = (V : Int) - T := IntWalk.i64_in _ (by omega)
  clear hall q1 q2 q3 hin hr hlt hlt2 hor hlen h1
  go_enter Try.func22, Try.ntmps22
  go_wp2_with (first | (go_at_call 9; refine (HT.out _ H.out H'.out).mono ?_; rintro e w1 ⟨rfl, hb1⟩) | (go_at_call 40; refine (HI.out _).mono ?_; rintro e w' ⟨rfl, rfl⟩))
  have R' := Lib.hid ((H'.out.below hb1).more hb1.size)
  go_region_held3 (fun _ => True) (first | trivial) (first
    | (go_at_call 31; refine (HS.out _ R'.out.drew).mono ?_; rintro e w3 ⟨rfl, q, rfl⟩; have b3 := hb1.trans (Go.Joins.below_draws w.heap.size w1 (1 + q)))
    | (go_at_call 33; (refine (HN.out _ (H.out.step b3)).mono ?_; rintro e w4 ⟨A2, c2, rfl, ho2, hb4⟩; have b4 := b3.trans (hb4.mono b3.size)))
    | (go_at_call 32; (refine (HF.out _ _ _ _ (Rd.of_own ho2)).mono ?_; rintro e w5 ⟨rfl, rfl⟩)))
  go_wp2
  go_ret
  exact ⟨rfl, b4⟩

end Go.Proofs.Ytjcaamnojinnmaa
