/-
  MostTunes of spec: the best choice of tunes, and whether the arguments are valid.
-/
import Derived.Test.YtjcaamnojinnmaaMostTunes
namespace Go.Proofs.Ytjcaamnojinnmaa
open Go.RowKit

set_option maxHeartbeats 2000000 in
theorem sMostTunes (A : Option Addr) (n c : Nat) (hs : List (Option Addr × Nat)) (ts : List (List (Int × Int))) (r teeth : Int) (w : World) (h : RdSS w w.heap.size A n hs ts) (hn : n ≤ 1048576) :
    Calls Try.prog 20 #[.slice A n c, .int .i64 r, .int .i64 teeth] w (MadeTI w (mostV ts r teeth) (mostOkB ts r teeth)) := by
  have H := Lib.hid h
  have hlen := h.2.1
  have HA := Lib.hid (fun w h => sOk9 A n c hs ts r w h hn)
  have HJ := Lib.hid (fun w => l01In_any teeth 0 100 w)
  have hni : (n : Int) ≤ 1048576 := by omega
  clear h
  unfold mostV
  cases hq : mostOkB ts r teeth
  · rw [if_neg (by simp)]
    unfold mostOkB at hq
    clear hlen
    cases h1 : tunesB ts && inB r 1 100
    · rw [h1] at HA
      clear hq h1
      go_enter Try.func20, Try.ntmps20
      go_wp2_with (go_at_call 30; refine (HA.out _ H.out).mono ?_; rintro e w1 ⟨rfl, hb1⟩)
      go_ret2
      exact madeTI_of (l := []) (own_empty w1 3 1 w.heap.size hb1.size) (hb1.alloc hb1.size _)
    rw [h1] at HA
    rw [h1, Bool.true_and] at hq
    rw [hq] at HJ
    clear hq h1
    go_enter Try.func20, Try.ntmps20
    go_wp2_with (first | (go_at_call 30; refine (HA.out _ H.out).mono ?_; rintro e w1 ⟨rfl, hb1⟩) | (go_at_call 40; refine (HJ.out _).mono ?_; rintro e w' ⟨rfl, rfl⟩))
    go_ret2
    exact madeTI_of (l := []) (own_empty w1 3 1 w.heap.size hb1.size) (hb1.alloc hb1.size _)
  rw [if_pos rfl]
  unfold mostOkB at hq
  simp only [Bool.and_eq_true] at hq
  obtain ⟨⟨h1, h2⟩, h3⟩ := hq
  rw [h1, h2] at HA
  rw [h3] at HJ
  have hr := inB_iff.1 h2
  obtain ⟨hall, hn8⟩ := tunes_all h1
  have ht0 := (inB_iff.1 h3).1
  have ht1 := (inB_iff.1 h3).2
  unfold mostS
  rw [hlen] at hn8 ⊢
  have hn8i : (n : Int) ≤ 8 := by omega
  have hp8 : 2 ^ n ≤ 2 ^ 8 := Nat.pow_le_pow_right (by omega) hn8
  have hp1 : 0 < 2 ^ n := Nat.pow_pos (by omega)
  have hpw := pow8 hn8
  obtain ⟨N2, hN2⟩ : ∃ N2, N2 = 2 ^ n := ⟨_, rfl⟩
  rw [← hN2] at hp8 hp1 hpw ⊢
  have HMO := Lib.hid (fun S w (hS : S < N2) => (by
    have := sl09Bits S n w (by omega) hn8
    rw [mem8 (by rw [← hN2]; exact hS) hn8] at this
    exact this : Calls Try.prog 43 #[.int .i64 S] w (MadeS w 3 1 (memL (bitS S) n).length ((memL (bitS S) n).map (Value.int .i64)))))
  have HND := Lib.hid (fun S w h (hS : S < N2) => sNeeds9 A n c hs ts S r w h (by omega) hall hn8 hr)
  have HSM := Lib.hid (fun S A c w B h => sSum9 A c (allN ts r (bitS S)) w B h fun p _ => allN_le hall r _ p)
  have HTV := Lib.hid (fun S => tv_le hall r (bitS S))
  have HIB := Lib.hid (fun (A3 A2 : Option Addr) (M c3 c2 : Nat) (xs ys : List Int) w B h h' hM => sl09Less A3 A2 M c3 c2 xs ys w B h h' hM)
  have HLN := Lib.hid (fun S => cn_len (bitS S) n)
  have HLEN := Lib.hid hlen
  clear h1 h2 h3 hall hN2 hlen hr
  go_enter Try.func20, Try.ntmps20
  go_wp2_with (first | (go_at_call 30; refine (HA.out _ H.out).mono ?_; rintro e w1 ⟨rfl, hb1⟩) | (go_at_call 40; refine (HJ.out _).mono ?_; rintro e w' ⟨rfl, rfl⟩))
  have OE := Lib.hid (own_empty w1 3 1 w.heap.size hb1.size)
  have BE := Lib.hid (hb1.alloc hb1.size (.cells #[] 3))
  clear hb1
  go_loopw [8, 9, 10] (fun v f i wr => ∃ (S b1 b2 M c2 : Nat) (A2 : Option Addr), 1 ≤ S ∧ S ≤ N2 ∧ i = .int .i64 S ∧ v = .slice A2 M c2 ∧ f = .int .i64 b2 ∧ b2 ≤ 2440 ∧ Hid (mostTo ts r teeth (S - 1) = (b1, b2) ∧ M = (memL (bitS b1) n).length) ∧
      wr.ownsRow w.heap.size 3 1 (.slice A2 M c2) M ((memL (bitS b1) n).map (Value.int .i64)) ∧ Below w.heap.size w wr) (fun _ _ i _ => N2 - (intOf i).toNat)
  case atStart =>
    refine ⟨1, 0, 0, 0, 0, _, Nat.le_refl _, hp1, rfl, rfl, rfl, by omega, ?_, ?_, BE.out⟩
    · refine Lib.hid ⟨rfl, ?_⟩
      rw [memL_len, cn_none fun j _ => bit_zero j]
    · rw [show memL (bitS 0) n = [] from List.eq_nil_of_length_eq_zero (by rw [memL_len, cn_none fun j _ => bit_zero j])]
      exact OE.out
  case round =>
    obtain ⟨S, b1, b2, M, c2, A2, hS1, hS2, rfl, rfl, rfl, hb2, hst, hown, hbl⟩ := hrel
    by_cases hlt : (S : Int) < N2
    · have hS256 : S < 256 := by omega
      have HO := Lib.hid hown
      have HL := Lib.hid hbl
      have zb := hbl.size
      have MO := Lib.hid (fun w => HMO.out S w (by omega))
      have ND := Lib.hid (fun w h => HND.out S w h (by omega))
      have SM := Lib.hid (fun A c w B h => HSM.out S A c w B h)
      rw [show sm (allN ts r (bitS S)) 61 = tv ts r (bitS S) from rfl] at SM
      have hms := most_step hS1 hst.out.1
      have hM := hst.out.2
      have hMn := HLN.out b1
      rw [← hM] at hMn
      have hLn := HLN.out S
      have hTV := HTV.out S
      have hk := try_keep (ts := ts) (r := r) (teeth := teeth) (S := S) (b1 := b1) (b2 := b2)
      have hw := try_new (ts := ts) (r := r) (teeth := teeth) (S := S) (b1 := b1) (b2 := b2)
      rw [HLEN.out, ← hM, ← hms] at hk hw
      obtain ⟨L, hL⟩ : ∃ L, L = (memL (bitS S) n).length := ⟨_, rfl⟩
      rw [← hL] at MO hk hw hLn
      have HHL := Lib.hid hL
      have HHM := Lib.hid hM
      generalize tv ts r (bitS S) = m at *
      have HK := Lib.hid hk
      have HW := Lib.hid hw
      clear hown hbl hms hM hk hw hL
      go_wp2_with fail
      refine (ND.out _ (H.out.step HL.out)).mono ?_
      rintro e w2 ⟨A4, c4, rfl, ho4, hb3⟩
      have b3 := HL.out.trans (hb3.mono zb)
      have O2 := Lib.hid (own_below HO.out hb3)
      have R4 := Lib.hid (Rd.of_own ho4)
      have z3 := b3.size
      clear ho4 hb3
      go_wp2_with (go_at_call 32; refine (SM.out _ _ _ _ R4.out).mono ?_; rintro e w' ⟨rfl, rfl⟩)
      refine (MO.out _).mono ?_
      rintro e w3 ⟨A3, c3, rfl, ho3, hb4⟩
      have b4 := b3.trans (hb4.mono z3)
      have O34 := Lib.hid (own_base ho3 z3)
      have O24 := Lib.hid (own_below O2.out hb4)
      have z4 := b4.size
      clear hb4 b3 ho3 O2
      by_cases c1 : teeth < (m : Int)
      · have HN := Lib.hid (HK.out (Or.inl (Or.inl c1)))
        go_wp2_with fail
        go_roundw
        case rel => exact ⟨S + 1, b1, b2, M, c2, A2, by omega, by omega, by go_num, rfl, rfl, hb2, ⟨HN.out, HHM.out⟩, O24.out, b4⟩
        case measure => simp [intOf] <;> omega
      by_cases c2' : L < M
      · have HN := Lib.hid (HK.out (Or.inl (Or.inr c2')))
        have c2i : (L : Int) < M := by omega
        go_wp2_with fail
        go_roundw
        case rel => exact ⟨S + 1, b1, b2, M, c2, A2, by omega, by omega, by go_num, rfl, rfl, hb2, ⟨HN.out, HHM.out⟩, O24.out, b4⟩
        case measure => simp [intOf] <;> omega
      have d2 : decide (L < M) = false := by simp; omega
      have hno : ¬ (teeth < (m : Int) ∨ L < M) := by omega
      by_cases c3' : M < L
      · have HN := Lib.hid (HW.out hno (Or.inl c3'))
        have c3i : (M : Int) < L := by omega
        clear hno
        go_wp2_with fail
        go_roundw
        case rel => exact ⟨S + 1, S, m, L, c3, A3, by omega, by omega, by go_num, rfl, rfl, hTV, ⟨HN.out, HHL.out⟩, O34.out, b4⟩
        case measure => simp [intOf] <;> omega
      have d3 : decide (M < L) = false := by simp; omega
      by_cases c4 : m < b2
      · have HN := Lib.hid (HW.out hno (Or.inr (Or.inl c4)))
        have c4i : (m : Int) < b2 := by omega
        clear hno
        go_wp2_with fail
        go_roundw
        case rel => exact ⟨S + 1, S, m, L, c3, A3, by omega, by omega, by go_num, rfl, rfl, hTV, ⟨HN.out, HHL.out⟩, O34.out, b4⟩
        case measure => simp [intOf] <;> omega
      have d4 : decide (m < b2) = false := by simp; omega
      by_cases c5 : m = b2
      · subst c5
        have hLM : L = M := by omega
        have hmm : ((m : Int) == (m : Int)) = true := by simp
        have IB := Lib.hid (HIB.out A3 A2 L c3 c2 (memL (bitS S) n) (memL (bitS b1) n) w3 w3.heap.size (Rd.of_own O34.out) (by rw [hLM]; exact Rd.of_own O24.out) (by omega))
        rw [hLM] at IB
        cases hx : lexB (memL (bitS S) n) (memL (bitS b1) n)
        · have HN := Lib.hid (HK.out (Or.inr (by rw [hx]; simp; omega)))
          rw [hx] at IB
          subst hLM
          clear hno hx
          go_wp2_with (go_at_call 44; refine (IB.out).mono ?_; rintro e w5 ⟨rfl, q, rfl⟩)
          go_roundw
          case rel => exact ⟨S + 1, b1, m, L, c2, A2, by omega, by omega, by go_num, rfl, rfl, hb2, ⟨HN.out, HHM.out⟩, own_drewN O24.out q, b4.trans (Go.Joins.below_draws _ _ _)⟩
          case measure => simp [intOf] <;> omega
        · have HN := Lib.hid (HW.out hno (Or.inr (Or.inr ⟨rfl, hx⟩)))
          rw [hx] at IB
          subst hLM
          clear hno hx
          go_wp2_with (go_at_call 44; refine (IB.out).mono ?_; rintro e w5 ⟨rfl, q, rfl⟩)
          go_roundw
          case rel => exact ⟨S + 1, S, m, L, c3, A3, by omega, by omega, by go_num, rfl, rfl, hTV, ⟨HN.out, HHL.out⟩, own_drewN O34.out q, b4.trans (Go.Joins.below_draws _ _ _)⟩
          case measure => simp [intOf] <;> omega
      · have HN := Lib.hid (HK.out (Or.inr (by rintro (h | h | h) <;> omega)))
        have c5b : ((m : Int) == (b2 : Int)) = false := by simp; omega
        have c5n : (m == b2) = false := by simp; omega
        clear hno
        go_wp2_with fail
        go_roundw
        case rel => exact ⟨S + 1, b1, b2, M, c2, A2, by omega, by omega, by go_num, rfl, rfl, hb2, ⟨HN.out, HHM.out⟩, O24.out, b4⟩
        case measure => simp [intOf] <;> omega
    · obtain rfl : S = N2 := by omega
      have HO := Lib.hid hown
      have h1 := hst.out.1
      have HE := Lib.hid (show (mostTo ts r teeth (S - 1)).1 = b1 by rw [h1])
      clear hown h1
      go_wp2
      go_ret2
      rw [HE.out]
      exact madeTI_of HO.out hbl

end Go.Proofs.Ytjcaamnojinnmaa
