/-
  MostTunes of impl and of spec: the best choice of tunes, and whether the arguments are valid.
-/
import Derived.Test.YtjcaamnojinnmaaMost
namespace Go.Proofs.Ytjcaamnojinnmaa
open Go.RowKit

def mostOkB (ts : List (List (Int × Int))) (r teeth : Int) : Bool := tunesB ts && inB r 1 100 && inB teeth 0 100
/-- the best set -/
def mostS (ts : List (List (Int × Int))) (r teeth : Int) : Nat := (mostTo ts r teeth (2 ^ ts.length - 1)).1
def mostV (ts : List (List (Int × Int))) (r teeth : Int) : List Int := if mostOkB ts r teeth = true then memL (bitS (mostS ts r teeth)) ts.length else []
theorem cn_len (s : Nat → Bool) (n : Nat) : (memL s n).length ≤ n := by rw [memL_len]; exact cn_le _ _
theorem mostV_len {ts : List (List (Int × Int))} {r teeth : Int} : (mostV ts r teeth).length ≤ 8 := by
  unfold mostV
  split
  · rename_i h
    unfold mostOkB at h
    simp only [Bool.and_eq_true] at h
    exact Nat.le_trans (cn_len _ _) (tunes_all h.1.1).2
  · simp
theorem most_step {ts : List (List (Int × Int))} {r teeth : Int} {S b1 b2 : Nat} (hS : 1 ≤ S) (h : mostTo ts r teeth (S - 1) = (b1, b2)) : mostTo ts r teeth S = tryM ts r teeth (b1, b2) S := by
  obtain ⟨k, rfl⟩ : ∃ k, S = k + 1 := ⟨S - 1, by omega⟩
  rw [← h]
  rfl
theorem try_keep {ts : List (List (Int × Int))} {r teeth : Int} {S b1 b2 : Nat} (h : (teeth < tv ts r (bitS S) ∨ (memL (bitS S) ts.length).length < (memL (bitS b1) ts.length).length) ∨
    ¬ ((memL (bitS b1) ts.length).length < (memL (bitS S) ts.length).length ∨ tv ts r (bitS S) < b2 ∨ (tv ts r (bitS S) = b2 ∧ lexB (memL (bitS S) ts.length) (memL (bitS b1) ts.length) = true))) : tryM ts r teeth (b1, b2) S = (b1, b2) := by
  unfold tryM
  by_cases h1 : teeth < tv ts r (bitS S) ∨ (memL (bitS S) ts.length).length < (memL (bitS b1) ts.length).length
  · simp only [if_pos h1]
  · rcases h with h | h
    · exact absurd h h1
    · simp only [if_neg h1, if_neg h]
theorem try_new {ts : List (List (Int × Int))} {r teeth : Int} {S b1 b2 : Nat} (h1 : ¬ (teeth < tv ts r (bitS S) ∨ (memL (bitS S) ts.length).length < (memL (bitS b1) ts.length).length))
    (h : (memL (bitS b1) ts.length).length < (memL (bitS S) ts.length).length ∨ tv ts r (bitS S) < b2 ∨ (tv ts r (bitS S) = b2 ∧ lexB (memL (bitS S) ts.length) (memL (bitS b1) ts.length) = true)) : tryM ts r teeth (b1, b2) S = (S, tv ts r (bitS S)) := by
  unfold tryM
  simp only [if_neg h1, if_pos h]
theorem mem8 {S n : Nat} (hS : S < 2 ^ n) (hn : n ≤ 8) : memL (bitS S) 8 = memL (bitS S) n := memL_more hn fun k hk => by
  unfold bitS
  exact Nat.testBit_lt_two_pow (Nat.lt_of_lt_of_le hS (Nat.pow_le_pow_right (by omega) hk))

set_option maxHeartbeats 2000000 in
theorem iMostTunes (A : Option Addr) (n c : Nat) (hs : List (Option Addr × Nat)) (ts : List (List (Int × Int))) (r teeth : Int) (w : World) (h : RdSS w w.heap.size A n hs ts) (hn : n ≤ 1048576) :
    Calls Try.prog 21 #[.slice A n c, .int .i64 r, .int .i64 teeth] w (MadeTI w (mostV ts r teeth) (mostOkB ts r teeth)) := by
  have H := Lib.hid h
  have hlen := h.2.1
  have HA := Lib.hid (fun w h => iAreTunes A n c hs ts w h hn)
  have HI := Lib.hid (fun w => within_any r 1 100 w)
  have HJ := Lib.hid (fun w => within_any teeth 0 100 w)
  have hni : (n : Int) ≤ 1048576 := by omega
  clear h
  unfold mostV
  cases hq : mostOkB ts r teeth
  · rw [if_neg (by simp)]
    unfold mostOkB at hq
    clear hlen
    cases h1 : tunesB ts
    · rw [h1] at HA
      clear hq h1
      go_enter Try.func21, Try.ntmps21
      go_wp2_with (go_at_call 35; refine (HA.out _ H.out).mono ?_; rintro e w1 ⟨rfl, hb1⟩)
      go_ret2
      exact ⟨none, 0, rfl, World.ownsRow_nil _ _ _ _, hb1⟩
    rw [h1] at HA
    cases h2 : inB r 1 100
    · rw [h2] at HI
      clear hq h1 h2 HJ
      go_enter Try.func21, Try.ntmps21
      go_wp2_with (first | (go_at_call 35; refine (HA.out _ H.out).mono ?_; rintro e w1 ⟨rfl, hb1⟩) | (go_at_call 37; refine (HI.out _).mono ?_; rintro e w' ⟨rfl, rfl⟩))
      go_ret2
      exact ⟨none, 0, rfl, World.ownsRow_nil _ _ _ _, hb1⟩
    rw [h2] at HI
    rw [h1, h2, Bool.true_and, Bool.true_and] at hq
    rw [hq] at HJ
    clear hq h1 h2
    go_enter Try.func21, Try.ntmps21
    go_wp2_with (first | (go_at_call 35; refine (HA.out _ H.out).mono ?_; rintro e w1 ⟨rfl, hb1⟩) | (with_reducible (go_at_call 37; refine (HI.out _).mono ?_; rintro e w' ⟨rfl, rfl⟩)) | (with_reducible (go_at_call 37; refine (HJ.out _).mono ?_; rintro e w' ⟨rfl, rfl⟩)))
    go_ret2
    exact ⟨none, 0, rfl, World.ownsRow_nil _ _ _ _, hb1⟩
  rw [if_pos rfl]
  unfold mostOkB at hq
  simp only [Bool.and_eq_true] at hq
  obtain ⟨⟨h1, h2⟩, h3⟩ := hq
  rw [h1] at HA
  rw [h2] at HI
  rw [h3] at HJ
  obtain ⟨hall, hn8⟩ := tunes_all h1
  have ht0 := (inB_iff.1 h3).1
  have ht1 := (inB_iff.1 h3).2
  unfold mostS
  rw [hlen] at hn8 ⊢
  have hn8i : (n : Int) ≤ 8 := by omega
  have hp8 : 2 ^ n ≤ 2 ^ 8 := Nat.pow_le_pow_right (by omega) hn8
  have hp1 : 0 < 2 ^ n := Nat.pow_pos (by omega)
  have hpw := pow8 hn8
  obtain ⟨N2, hN2⟩ : ∃ N2, N2 = 2 ^ n := ⟨_, rfl⟩
  rw [← hN2] at hp8 hp1 hpw ⊢
  have HMO := Lib.hid (fun S w (hS : S < 256) => imembersOf S n w hS hn8)
  have HTF := Lib.hid (fun S (A2 : Option Addr) c2 w h h' => (by
    have hl := cn_len (bitS S) n
    have := iTeethForAll A n c hs ts A2 (memL (bitS S) n).length c2 (memL (bitS S) n) r w h h' hn (by omega)
    rw [show teethV ts (memL (bitS S) n) r = (tv ts r (bitS S) : Nat) by
      unfold teethV
      rw [← hlen, if_pos ⟨h1, memL_rise, h2⟩, tv_congr fun j hj => memL_sel hj]] at this
    exact this : Calls Try.prog 12 #[.slice A n c, .slice A2 (memL (bitS S) n).length c2, .int .i64 r] w fun e w' => e = .returned (.int .i64 (tv ts r (bitS S) : Nat)) ∧ Below w.heap.size w w'))
  have HTV := Lib.hid (fun S => tv_le hall r (bitS S))
  have HIB := Lib.hid (fun (A3 A2 : Option Addr) (M c3 c2 : Nat) (xs ys : List Int) w B h h' hM => iisBefore A3 A2 M c3 c2 xs ys w B h h' hM)
  have HLN := Lib.hid (fun S => cn_len (bitS S) n)
  have HLEN := Lib.hid hlen
  clear h1 h2 h3 hall hN2 hlen
  go_enter Try.func21, Try.ntmps21
  go_wp2_with (first | (go_at_call 35; refine (HA.out _ H.out).mono ?_; rintro e w1 ⟨rfl, hb1⟩) | (with_reducible (go_at_call 37; refine (HI.out _).mono ?_; rintro e w' ⟨rfl, rfl⟩)) | (with_reducible (go_at_call 37; refine (HJ.out _).mono ?_; rintro e w' ⟨rfl, rfl⟩)))
  have OE := Lib.hid (own_empty w1 3 1 w.heap.size hb1.size)
  have BE := Lib.hid (hb1.alloc hb1.size (.cells #[] 3))
  clear hb1
  go_loopw [8, 9, 10] (fun v f i wr => ∃ (S b1 b2 M c2 : Nat) (A2 : Option Addr), 1 ≤ S ∧ S ≤ N2 ∧ i = .int .i64 S ∧ v = .slice A2 M c2 ∧ f = .int .i64 b2 ∧ b2 ≤ 2440 ∧ Hid (mostTo ts r teeth (S - 1) = (b1, b2) ∧ M = (memL (bitS b1) n).length) ∧
      wr.ownsRow w.heap.size 3 1 (.slice A2 M c2) M ((memL (bitS b1) n).map (Value.int .i64)) ∧ Below w.heap.size w wr) (fun _ _ i _ => N2 - (intOf i).toNat)
  case atStart =>
    refine ⟨1, 0, 0, 0, 0, _, Nat.le_refl _, hp1, rfl, rfl, rfl, by omega, ?_, ?_, BE.out⟩
    · refine Lib.hid ⟨rfl, ?_⟩
      rw [memL_len, cn_none fun j _ => bit_zero j]
    · rw [show memL (bitS 0) n = [] from List.eq_nil_of_length_eq_zero (by rw [memL_len, cn_none fun j _ => bit_zero j])]
      exact OE.out
  case round =>
    obtain ⟨S, b1, b2, M, c2, A2, hS1, hS2, rfl, rfl, rfl, hb2, hst, hown, hbl⟩ := hrel
    by_cases hlt : (S : Int) < N2
    · have hS256 : S < 256 := by omega
      have HO := Lib.hid hown
      have HL := Lib.hid hbl
      have zb := hbl.size
      have MO := Lib.hid (HMO.out S wr hS256)
      have TF := Lib.hid (HTF.out S)
      have hms := most_step hS1 hst.out.1
      have hM := hst.out.2
      have hMn := HLN.out b1
      rw [← hM] at hMn
      have hLn := HLN.out S
      have hTV := HTV.out S
      have hk := try_keep (ts := ts) (r := r) (teeth := teeth) (S := S) (b1 := b1) (b2 := b2)
      have hw := try_new (ts := ts) (r := r) (teeth := teeth) (S := S) (b1 := b1) (b2 := b2)
      rw [HLEN.out, ← hM, ← hms] at hk hw
      obtain ⟨L, hL⟩ : ∃ L, L = (memL (bitS S) n).length := ⟨_, rfl⟩
      rw [← hL] at MO TF hk hw hLn
      have HHL := Lib.hid hL
      have HHM := Lib.hid hM
      generalize tv ts r (bitS S) = m at *
      have HK := Lib.hid hk
      have HW := Lib.hid hw
      clear hown hbl hms hM hk hw hL
      go_wp2_with fail
      refine MO.out.mono ?_
      rintro e w2 ⟨A3, c3, rfl, ho3, hb3⟩
      have O3 := Lib.hid (own_base ho3 zb)
      have R3 := Lib.hid (Rd.of_own ho3)
      have b3 := HL.out.trans (hb3.mono zb)
      have O2 := Lib.hid (own_below HO.out hb3)
      have RT := Lib.hid (H.out.step b3)
      clear ho3 hb3
      go_wp2_with fail
      refine (TF.out _ _ _ RT.out R3.out).mono ?_
      rintro e w3 ⟨rfl, hb4⟩
      have b4 := b3.trans (hb4.mono b3.size)
      have O34 := Lib.hid (own_below O3.out hb4)
      have O24 := Lib.hid (own_below O2.out hb4)
      have z4 := b4.size
      clear hb4 b3 O3 O2 R3
      by_cases c1 : teeth < (m : Int)
      · have HN := Lib.hid (HK.out (Or.inl (Or.inl c1)))
        go_wp2_with fail
        go_roundw
        case rel => exact ⟨S + 1, b1, b2, M, c2, A2, by omega, by omega, by go_num, rfl, rfl, hb2, ⟨HN.out, HHM.out⟩, O24.out, b4⟩
        case measure => simp [intOf] <;> omega
      by_cases c2' : L < M
      · have HN := Lib.hid (HK.out (Or.inl (Or.inr c2')))
        have c2i : (L : Int) < M := by omega
        go_wp2_with fail
        go_roundw
        case rel => exact ⟨S + 1, b1, b2, M, c2, A2, by omega, by omega, by go_num, rfl, rfl, hb2, ⟨HN.out, HHM.out⟩, O24.out, b4⟩
        case measure => simp [intOf] <;> omega
      have d2 : decide (L < M) = false := by simp; omega
      have hno : ¬ (teeth < (m : Int) ∨ L < M) := by omega
      by_cases c3' : M < L
      · have HN := Lib.hid (HW.out hno (Or.inl c3'))
        have c3i : (M : Int) < L := by omega
        clear hno
        go_wp2_with fail
        go_roundw
        case rel => exact ⟨S + 1, S, m, L, c3, A3, by omega, by omega, by go_num, rfl, rfl, hTV, ⟨HN.out, HHL.out⟩, O34.out, b4⟩
        case measure => simp [intOf] <;> omega
      have d3 : decide (M < L) = false := by simp; omega
      by_cases c4 : m < b2
      · have HN := Lib.hid (HW.out hno (Or.inr (Or.inl c4)))
        have c4i : (m : Int) < b2 := by omega
        clear hno
        go_wp2_with fail
        go_roundw
        case rel => exact ⟨S + 1, S, m, L, c3, A3, by omega, by omega, by go_num, rfl, rfl, hTV, ⟨HN.out, HHL.out⟩, O34.out, b4⟩
        case measure => simp [intOf] <;> omega
      have d4 : decide (m < b2) = false := by simp; omega
      by_cases c5 : m = b2
      · subst c5
        have hLM : L = M := by omega
        have hmm : ((m : Int) == (m : Int)) = true := by simp
        have IB := Lib.hid (HIB.out A3 A2 L c3 c2 (memL (bitS S) n) (memL (bitS b1) n) w3 w3.heap.size (Rd.of_own O34.out) (by rw [hLM]; exact Rd.of_own O24.out) (by omega))
        rw [hLM] at IB
        cases hx : lexB (memL (bitS S) n) (memL (bitS b1) n)
        · have HN := Lib.hid (HK.out (Or.inr (by rw [hx]; simp; omega)))
          rw [hx] at IB
          subst hLM
          clear hno hx
          go_wp2_with (go_at_call 46; refine (IB.out).mono ?_; rintro e w5 ⟨rfl, q, rfl⟩)
          go_roundw
          case rel => exact ⟨S + 1, b1, m, L, c2, A2, by omega, by omega, by go_num, rfl, rfl, hb2, ⟨HN.out, HHM.out⟩, own_drewN O24.out q, b4.trans (Go.Joins.below_draws _ _ _)⟩
          case measure => simp [intOf] <;> omega
        · have HN := Lib.hid (HW.out hno (Or.inr (Or.inr ⟨rfl, hx⟩)))
          rw [hx] at IB
          subst hLM
          clear hno hx
          go_wp2_with (go_at_call 46; refine (IB.out).mono ?_; rintro e w5 ⟨rfl, q, rfl⟩)
          go_roundw
          case rel => exact ⟨S + 1, S, m, L, c3, A3, by omega, by omega, by go_num, rfl, rfl, hTV, ⟨HN.out, HHL.out⟩, own_drewN O34.out q, b4.trans (Go.Joins.below_draws _ _ _)⟩
          case measure => simp [intOf] <;> omega
      · have HN := Lib.hid (HK.out (Or.inr (by rintro (h | h | h) <;> omega)))
        have c5b : ((m : Int) == (b2 : Int)) = false := by simp; omega
        have c5n : (m == b2) = false := by simp; omega
        clear hno
        go_wp2_with fail
        go_roundw
        case rel => exact ⟨S + 1, b1, b2, M, c2, A2, by omega, by omega, by go_num, rfl, rfl, hb2, ⟨HN.out, HHM.out⟩, O24.out, b4⟩
        case measure => simp [intOf] <;> omega
    · obtain rfl : S = N2 := by omega
      have HO := Lib.hid hown
      have h1 := hst.out.1
      have HE := Lib.hid (show (mostTo ts r teeth (S - 1)).1 = b1 by rw [h1])
      clear hown h1
      go_wp2
      go_ret2
      rw [HE.out]
      exact madeTI_of HO.out hbl

end Go.Proofs.Ytjcaamnojinnmaa
