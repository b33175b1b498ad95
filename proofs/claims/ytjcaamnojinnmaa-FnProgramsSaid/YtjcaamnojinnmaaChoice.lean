/-
  Choices of tunes: rising of impl, l09Set and l09Sum of spec.
-/
import Derived.Test.YtjcaamnojinnmaaProgMath
import Derived.Test.YtjcaamnojinnmaaArr61
import Derived.Test.YtjcaamnojinnmaaTune
namespace Go.Proofs.Ytjcaamnojinnmaa
open Go.RowKit

set_option maxHeartbeats 400000 in
theorem iRising (A : Option Addr) (n c : Nat) (ch : List Int) (m : Int) (w : World) (h : Rd w w.heap.size 1 A n (ch.map (Value.int .i64))) (hn : n ≤ 1048576) :
    Calls Try.prog 36 #[.slice A n c, .int .i64 0, .int .i64 m] w fun e w' => e = .returned (.bool (riseB ch m)) ∧ w = w' := by
  have hlen : ch.length = n := by simpa using h.1
  have H := Lib.hid h
  have HL := Lib.hid hlen
  clear h hlen
  have hni : (n : Int) ≤ 1048576 := by omega
  obtain ⟨v, hv⟩ : ∃ v, v = riseB ch m := ⟨_, rfl⟩
  rw [← hv]
  have HV := Lib.hid hv
  clear hv
  go_enter Try.func36, Try.ntmps36
  go_wp2
  go_loop [11] (fun i => ∃ k : Nat, k ≤ n ∧ i = .int .i64 k ∧ Hid (riseTo ch m k = true)) (fun i => n - (intOf i).toNat)
  case atStart => exact ⟨0, Nat.zero_le _, rfl, rfl⟩
  case round =>
    obtain ⟨k, hk, rfl, hall⟩ := hrel
    by_cases hlt : (k : Int) < n
    · obtain ⟨b, o, rfl, hbB, hcell⟩ := H.out.cell (by omega)
      obtain ⟨x, hx⟩ : ∃ x, ch[k]? = some x := ⟨_, List.getElem?_eq_getElem (by rw [HL.out]; omega)⟩
      have c0 : w.cell? ⟨b, o + k, none⟩ = some (.int .i64 x) := hcell k _ (by simp [hx])
      have hst : stepC ch m k = (inB x 0 m && (k == 0 || decide (ch.getD (k - 1) 0 < x))) := by unfold stepC; rw [getD_of hx]
      have HS := Lib.hid hst
      have HC := Lib.hid hcell
      clear hx hst hcell
      have IH := Lib.hid (fun w => within_any x 0 m w)
      cases hs1 : inB x 0 m
      · rw [hs1] at IH
        have hf : v = false := HV.out.trans (riseTo_stop (k := k) (by rw [HL.out]; omega) (HS.out.trans (by rw [hs1]; rfl)))
        have HF := Lib.hid hf
        clear hf
        go_wp2_with (go_at_call 37; refine (IH.out _).mono ?_; rintro e w' ⟨rfl, rfl⟩)
        go_ret
        exact ⟨by rw [HF.out]; rfl, rfl⟩
      rw [hs1] at IH
      by_cases hk0 : (0 : Int) < k
      case neg =>
        have hk1 : (k == 0) = true := by simp; omega
        have hst2 := riseTo_step hall.out (HS.out.trans (by rw [hs1, hk1]; rfl))
        have HS2 := Lib.hid hst2
        clear hst2 hk1
        go_wp2_with (go_at_call 37; refine (IH.out _).mono ?_; rintro e w' ⟨rfl, rfl⟩)
        go_round
        case rel => exact ⟨k + 1, by omega, by go_num, HS2⟩
        case measure => simp [intOf]; omega
      obtain ⟨j, hj⟩ : ∃ j, k = j + 1 := ⟨k - 1, by omega⟩
      obtain ⟨y, hy⟩ : ∃ y, ch[j]? = some y := ⟨_, List.getElem?_eq_getElem (by rw [HL.out]; omega)⟩
      have d0 : w.cell? ⟨b, o + j, none⟩ = some (.int .i64 y) := HC.out j _ (by simp [hy])
      have hprev : decide (ch.getD (k - 1) 0 < x) = decide (y < x) := by rw [show k - 1 = j by omega, getD_of hy]
      have HP := Lib.hid hprev
      have hwj : IntKind.i64.wrap ((k : Int) - 1) = (j : Int) := by rw [IntWalk.i64_in _ (by omega)]; omega
      have hsj : (k : Int) - 1 = (j : Int) := by omega
      have hj0 : (0 : Int) ≤ j := by omega
      have hjn : (j : Int) < n := by omega
      clear hj hy hprev
      by_cases hyx : y < x
      · have hst2 := riseTo_step hall.out (HS.out.trans (by rw [hs1, HP.out, decide_eq_true hyx]; simp))
        have HS2 := Lib.hid hst2
        have hd : decide (x ≤ y) = false := by simp; omega
        clear hst2
        go_wp2_with (go_at_call 37; refine (IH.out _).mono ?_; rintro e w' ⟨rfl, rfl⟩)
        go_round
        case rel => exact ⟨k + 1, by omega, by go_num, HS2⟩
        case measure => simp [intOf]; omega
      · have hf : v = false := HV.out.trans (riseTo_stop (k := k) (by rw [HL.out]; omega) (HS.out.trans (by rw [hs1, HP.out, decide_eq_false hyx]; simp; omega)))
        have HF := Lib.hid hf
        have hd : x ≤ y := by omega
        clear hf hyx
        go_wp2_with (go_at_call 37; refine (IH.out _).mono ?_; rintro e w' ⟨rfl, rfl⟩)
        go_ret
        exact ⟨by rw [HF.out]; rfl, rfl⟩
    · obtain rfl : k = n := by omega
      have hf : v = true := by
        have := hall.out
        rw [← HL.out] at this
        exact HV.out.trans this
      have HF := Lib.hid hf
      clear hf
      go_wp2
      go_ret
      exact ⟨by rw [HF.out]; rfl, rfl⟩

theorem take_ch {l : List Int} {k : Nat} {y : Int} (h : l[k]? = some y) : l.take (k + 1) = l.take k ++ [y] := by
  obtain ⟨hk, rfl⟩ := List.getElem?_eq_some_iff.1 h
  rw [List.take_succ_eq_append_getElem hk]
theorem bits_or {a b : Nat} (ha : a < 2 ^ 62) (hb : b < 2 ^ 62) : bits .or .i64 (a : Int) (b : Int) = ((a ||| b : Nat) : Int) := by
  have e : bits .or .i64 (a : Int) (b : Int) = IntKind.i64.wrap ((BitVec.ofInt 64 (a : Int) ||| BitVec.ofInt 64 (b : Int)).toNat : Int) := rfl
  have ea : (BitVec.ofInt 64 (a : Int)).toNat = a := by
    rw [BitVec.ofInt_natCast, BitVec.toNat_ofNat]
    exact Nat.mod_eq_of_lt (by omega)
  have eb : (BitVec.ofInt 64 (b : Int)).toNat = b := by
    rw [BitVec.ofInt_natCast, BitVec.toNat_ofNat]
    exact Nat.mod_eq_of_lt (by omega)
  rw [e, BitVec.toNat_or, ea, eb, IntKind.wrap_i64]
  have := Nat.or_lt_two_pow ha hb
  omega
theorem bits_and1 {a : Nat} (ha : a < 2 ^ 62) : bits .and .i64 (a : Int) 1 = ((a &&& 1 : Nat) : Int) := by
  have e : bits .and .i64 (a : Int) 1 = IntKind.i64.wrap ((BitVec.ofInt 64 (a : Int) &&& BitVec.ofInt 64 (1 : Int)).toNat : Int) := rfl
  have ea : (BitVec.ofInt 64 (a : Int)).toNat = a := by
    rw [BitVec.ofInt_natCast, BitVec.toNat_ofNat]
    exact Nat.mod_eq_of_lt (by omega)
  have eb : (BitVec.ofInt 64 (1 : Int)).toNat = 1 := by decide
  rw [e, BitVec.toNat_and, ea, eb, IntKind.wrap_i64]
  have := Nat.and_le_left (n := a) (m := 1)
  omega
theorem bit_is {S : Nat} (hS : S < 256) (k : Nat) : bits .and .i64 ((S : Int) / 2 ^ k) 1 = if bitS S k = true then 1 else 0 := by
  have e : (S : Int) / 2 ^ k = ((S / 2 ^ k : Nat) : Int) := by rw [Int.natCast_ediv, Int.natCast_pow]; rfl
  have hd : S / 2 ^ k ≤ S := Nat.div_le_self _ _
  rw [e, bits_and1 (by omega), Nat.and_one_is_mod]
  unfold bitS
  rw [Nat.testBit_eq_decide_div_mod_eq]
  by_cases h : S / 2 ^ k % 2 = 1
  · rw [h]
    simp
  · rw [show S / 2 ^ k % 2 = 0 by omega]
    simp
theorem bit_0 {S : Nat} (hS : S < 256) (k : Nat) : (bits .and .i64 ((S : Int) / 2 ^ k) 1 == 0) = !bitS S k := by
  rw [bit_is hS]
  cases bitS S k <;> rfl
theorem bit_1 {S : Nat} (hS : S < 256) (k : Nat) : (bits .and .i64 ((S : Int) / 2 ^ k) 1 == 1) = bitS S k := by
  rw [bit_is hS]
  cases bitS S k <;> rfl
theorem pow_wrap {X : Nat} (h : X ≤ 7) : wrap64 (2 ^ X) = ((2 ^ X : Nat) : Int) := by
  have h2 : 2 ^ X ≤ 2 ^ 7 := Nat.pow_le_pow_right (by omega) h
  have e : (2 : Int) ^ X = ((2 ^ X : Nat) : Int) := by rw [Int.natCast_pow]; rfl
  rw [e]
  generalize 2 ^ X = M at *
  exact IntWalk.wrap64_in _ (by omega)
theorem set_or {S X : Nat} (hS : S < 256) (hX : X ≤ 7) : bits .or .i64 (S : Int) (wrap64 (2 ^ X)) = ((S ||| 2 ^ X : Nat) : Int) := by
  rw [pow_wrap hX]
  have : 2 ^ X ≤ 2 ^ 7 := Nat.pow_le_pow_right (by omega) hX
  exact bits_or (by omega) (by omega)
def setV (ch : List Int) (m : Int) : Int := if riseB ch m = true then (setL ch : Int) else -1

set_option maxHeartbeats 1000000 in
theorem sSet9 (A : Option Addr) (n c : Nat) (ch : List Int) (m : Int) (w : World) (h : Rd w w.heap.size 1 A n (ch.map (Value.int .i64))) (hn : n ≤ 1048576) (hm : m ≤ 7) :
    Calls Try.prog 31 #[.slice A n c, .int .i64 m] w fun e w' => e = .returned (.int .i64 (setV ch m)) ∧ ∃ q, w' = w.drewN q := by
  have hlen : ch.length = n := by simpa using h.1
  have H := Lib.hid h
  have HL := Lib.hid hlen
  clear h hlen
  have hni : (n : Int) ≤ 1048576 := by omega
  obtain ⟨v, hv⟩ : ∃ v, v = setV ch m := ⟨_, rfl⟩
  rw [← hv]
  have HV := Lib.hid hv
  clear hv
  go_enter Try.func31, Try.ntmps31
  go_wp2
  go_loopw [5, 6] (fun s i wr => ∃ (k S q : Nat), k ≤ n ∧ i = .int .i64 k ∧ s = .int .i64 S ∧ S < 256 ∧ Hid (riseTo ch m k = true ∧ S = setL (ch.take k)) ∧ wr = w.drewN q) (fun _ i _ => n - (intOf i).toNat)
  case atStart => exact ⟨0, 0, 0, Nat.zero_le _, rfl, rfl, by omega, ⟨rfl, rfl⟩, rfl⟩
  case round =>
    obtain ⟨k, S, q, hk, rfl, rfl, hS, hall, hwa⟩ := hrel
    have HWA := Lib.hid hwa
    have hcw : ∀ p, wr.cell? p = w.cell? p := fun p => by rw [hwa]; rfl
    have HCW := Lib.hid hcw
    clear hwa hcw
    by_cases hlt : (k : Int) < n
    · obtain ⟨b, o, rfl, hbB, hcell⟩ := H.out.cell (by omega)
      obtain ⟨x, hx⟩ : ∃ x, ch[k]? = some x := ⟨_, List.getElem?_eq_getElem (by rw [HL.out]; omega)⟩
      have c0 : wr.cell? ⟨b, o + k, none⟩ = some (.int .i64 x) := (HCW.out _).trans (hcell k _ (by simp [hx]))
      have hst : stepC ch m k = (inB x 0 m && (k == 0 || decide (ch.getD (k - 1) 0 < x))) := by unfold stepC; rw [getD_of hx]
      have HS := Lib.hid hst
      have HC := Lib.hid hcell
      have HX := Lib.hid hx
      clear hx hst hcell
      cases hs1 : inB x 0 m
      · have hf : v = -1 := HV.out.trans (by unfold setV riseB; rw [riseTo_stop (k := k) (by rw [HL.out]; omega) (HS.out.trans (by rw [hs1]; rfl)), if_neg (by simp)])
        have HF := Lib.hid hf
        clear hf
        go_wp2
        go_quiet ((go_at_call 40; exact qIn hs1))
        go_wp2
        go_ret
        exact ⟨by rw [HF.out]; rfl, _, by rw [HWA.out]; exact World.drewN_drewN ..⟩
      obtain ⟨X, rfl⟩ : ∃ X : Nat, x = (X : Int) := ⟨x.toNat, by have := inB_iff.1 hs1; omega⟩
      have hX7 : X ≤ 7 := by have := inB_iff.1 hs1; omega
      have hX7i : (X : Int) ≤ 7 := by omega
      have hnext : setL (ch.take (k + 1)) = S ||| 2 ^ X := by rw [take_ch HX.out, setL_snoc, ← hall.out.2]; rfl
      have hor := set_or hS hX7
      have hS2 : S ||| 2 ^ X < 256 := by
        have : 2 ^ X < 2 ^ 8 := Nat.pow_lt_pow_right (by omega) (by omega)
        exact Nat.or_lt_two_pow (n := 8) hS this
      have HN := Lib.hid hnext
      have HO := Lib.hid hor
      clear hnext hor
      by_cases hk0 : (0 : Int) < k
      case neg =>
        have hk1 : (k == 0) = true := by simp; omega
        have hst2 := riseTo_step hall.out.1 (HS.out.trans (by rw [hs1, hk1]; rfl))
        have HS2 := Lib.hid hst2
        have hg : decide (0 < k) = false := by simp; omega
        have hgn : ¬ 0 < k := by omega
        clear hst2 hk1
        go_wp2
        go_quiet ((go_at_call 40; exact qIn hs1))
        go_wp2
        rw [HO.out]
        go_roundw
        case rel => exact ⟨k + 1, _, _, by omega, by go_num, rfl, hS2, ⟨HS2.out, HN.out.symm⟩, by rw [HWA.out]; exact World.drewN_drewN ..⟩
        case measure => simp [intOf] <;> omega
      obtain ⟨j, hj⟩ : ∃ j, k = j + 1 := ⟨k - 1, by omega⟩
      obtain ⟨y, hy⟩ : ∃ y, ch[j]? = some y := ⟨_, List.getElem?_eq_getElem (by rw [HL.out]; omega)⟩
      have d0 : wr.cell? ⟨b, o + j, none⟩ = some (.int .i64 y) := (HCW.out _).trans (HC.out j _ (by simp [hy]))
      have hprev : decide (ch.getD (k - 1) 0 < (X : Int)) = decide (y < (X : Int)) := by rw [show k - 1 = j by omega, getD_of hy]
      have HP := Lib.hid hprev
      have hwj : IntKind.i64.wrap ((k : Int) - 1) = (j : Int) := by rw [IntWalk.i64_in _ (by omega)]; omega
      have hsj : (k : Int) - 1 = (j : Int) := by omega
      have hj0 : (0 : Int) ≤ j := by omega
      have hjn : (j : Int) < n := by omega
      have hg : decide (0 < k) = true := by simp; omega
      have hgn : 0 < k := by omega
      clear hj hy hprev
      by_cases hyx : y < (X : Int)
      · have hst2 := riseTo_step hall.out.1 (HS.out.trans (by rw [hs1, HP.out, decide_eq_true hyx]; simp))
        have HS2 := Lib.hid hst2
        have hd : decide ((X : Int) ≤ y) = false := by simp; omega
        clear hst2
        go_wp2
        go_quiet ((go_at_call 40; exact qIn hs1))
        go_wp2
        rw [HO.out]
        go_roundw
        case rel => exact ⟨k + 1, _, _, by omega, by go_num, rfl, hS2, ⟨HS2.out, HN.out.symm⟩, by rw [HWA.out]; exact World.drewN_drewN ..⟩
        case measure => simp [intOf] <;> omega
      · have hf : v = -1 := HV.out.trans (by unfold setV riseB; rw [riseTo_stop (k := k) (by rw [HL.out]; omega) (HS.out.trans (by rw [hs1, HP.out, decide_eq_false hyx]; simp; omega)), if_neg (by simp)])
        have HF := Lib.hid hf
        have hd : (X : Int) ≤ y := by omega
        have hd2 : decide ((X : Int) ≤ y) = true := by simp; omega
        clear hf hyx
        go_wp2
        go_quiet ((go_at_call 40; exact qIn hs1))
        go_wp2
        go_ret
        exact ⟨by rw [HF.out]; rfl, _, by rw [HWA.out]; exact World.drewN_drewN ..⟩
    · obtain rfl : k = n := by omega
      have hf : v = (S : Int) := by
        have h1 := hall.out.1
        have h2 := hall.out.2
        rw [← HL.out] at h1
        rw [List.take_of_length_le (by rw [HL.out]; omega)] at h2
        rw [HV.out, h2]
        unfold setV riseB
        rw [if_pos h1]
      have HF := Lib.hid hf
      clear hf
      go_wp2
      go_ret
      exact ⟨by rw [HF.out]; rfl, q, HWA.out⟩

set_option maxHeartbeats 400000 in
theorem sSum9 (A : Option Addr) (c : Nat) (f : Nat → Nat) (w : World) (B : Nat) (h : Rd w B 1 A 61 ((listN f).map (Value.int .i64))) (hf : ∀ p, p < 61 → f p ≤ 40) :
    Calls Try.prog 32 #[.slice A 61 c] w fun e w' => e = .returned (.int .i64 (sm f 61 : Nat)) ∧ w = w' := by
  have H := Lib.hid h
  have HF := Lib.hid hf
  clear h hf
  go_enter Try.func32, Try.ntmps32
  go_wp2
  go_loop [3, 4] (fun s i => ∃ k : Nat, k ≤ 61 ∧ i = .int .i64 k ∧ s = .int .i64 (sm f k : Nat)) (fun _ i => 61 - (intOf i).toNat)
  case atStart => exact ⟨0, Nat.zero_le _, rfl, rfl⟩
  case round =>
    obtain ⟨k, hk, rfl, rfl⟩ := hrel
    by_cases hlt : (k : Int) < 61
    · obtain ⟨b, o, rfl, hbB, hcell⟩ := H.out.cell (by omega)
      have c0 : w.cell? ⟨b, o + k, none⟩ = some (.int .i64 (f k : Nat)) := hcell k _ (by rw [List.getElem?_map, listN_get f (by omega)]; rfl)
      have h1 := HF.out k (by omega)
      have h2 := sm_le (f := f) (b := 40) (k := k) fun j hj => HF.out j (by omega)
      have h3 : (sm f (k + 1) : Nat) = sm f k + f k := rfl
      have HH := Lib.hid h3
      generalize sm f k = S at *
      generalize f k = F at *
      clear hcell h3
      go_wp2
      go_round
      case rel => exact ⟨k + 1, by omega, by go_num, by rw [HH.out]; go_num⟩
      case measure => simp [intOf]; omega
    · obtain rfl : k = 61 := by omega
      go_wp2
      go_ret
      exact ⟨rfl, rfl⟩

end Go.Proofs.Ytjcaamnojinnmaa
