/-
  FractionOf of impl and of spec: what it returns for all lists of at most 1048576 numbers, and the law on it. The list is read, nothing is written.
-/
import Derived.Test.YtiecjmnaphfeaaaIntS
import Derived.Test.YtiecjmnaphfeaaaWithin
import Derived.Test.YtiecjmnaphfeaaaNearMath
namespace Go.Proofs.Ytiecjmnaphfeaaa
open Go.RowKit

def fracV (x : Int × Int × Bool) : Value := .tuple #[.int .i64 x.1, .int .i64 x.2.1, .bool x.2.2]
theorem frac_no {xs : List Int} (h : quotB xs = false) : fracV (FracZ xs) = .tuple #[.int .i64 0, .int .i64 0, .bool false] := by unfold FracZ; rw [h]; rfl
theorem frac_none {xs : List Int} (h : frS xs = none) : fracV (FracZ xs) = .tuple #[.int .i64 0, .int .i64 0, .bool false] := by
  unfold FracZ
  split
  · rw [h]; rfl
  · rfl
theorem frac_some {xs : List Int} {t b : Int} (h : quotB xs = true) (hf : frS xs = some (t, b)) : fracV (FracZ xs) = .tuple #[.int .i64 t, .int .i64 b, .bool true] := by
  unfold FracZ
  rw [h, hf]
  rfl
theorem quot_bad {x : Int} {l : List Int} {k : Nat} {z : Int} (hz : (x :: l)[k + 1]? = some z) (hb : inB z 1 1000 = false) : quotB (x :: l) = false := by
  rw [Bool.eq_false_iff]
  intro h
  unfold quotB at h
  simp only [Bool.and_eq_true] at h
  have := List.all_eq_true.1 h.2 z (List.mem_of_getElem? (by simpa using hz))
  have nb := inB_not hb
  simp at this
  omega
theorem quot_head {x : Int} {l : List Int} (h : inB x 0 1000 = false) : quotB (x :: l) = false := by
  rw [Bool.eq_false_iff]
  intro hh
  unfold quotB at hh
  simp only [Bool.and_eq_true] at hh
  have := hh.1.2
  have nb := inB_not h
  simp at this
  omega
theorem quot_ok {x : Int} {l : List Int} (hn : (x :: l).length ≤ 12) (hx : inB x 0 1000 = true) (hl : ∀ j z, j + 1 < (x :: l).length → (x :: l)[j + 1]? = some z → inB z 1 1000 = true) : quotB (x :: l) = true := by
  have hb := inB_iff.1 hx
  unfold quotB
  simp only [Bool.and_eq_true]
  refine ⟨⟨⟨by simp, by simpa using hn⟩, by simpa using hb⟩, ?_⟩
  rw [List.all_eq_true]
  intro q hq
  have hq' : q ∈ l := hq
  obtain ⟨j, hj, rfl⟩ := List.getElem_of_mem hq'
  have := inB_iff.1 (hl j _ (by simp; omega) (List.getElem?_eq_getElem (by simp; omega)))
  simp at this ⊢
  omega
theorem drop_one {xs : List Int} {m : Nat} {z : Int} (h : xs[m]? = some z) : xs.drop m = z :: xs.drop (m + 1) := by
  obtain ⟨hm, rfl⟩ := List.getElem?_eq_some_iff.1 h
  exact List.drop_eq_getElem_cons hm
theorem frS_none {q : Int} {l : List Int} (hl : l ≠ []) (h : frS l = none) : frS (q :: l) = none := by
  cases l with
  | nil => exact absurd rfl hl
  | cons r l => simp only [frS, h]
/-- none below is none above -/
theorem frS_drop {xs : List Int} : ∀ (m : Nat), m < xs.length → frS (xs.drop m) = none → frS xs = none
  | 0, _, h => by simpa using h
  | m + 1, hm, h => by
    refine frS_drop m (by omega) ?_
    rw [List.drop_eq_getElem_cons (by omega)]
    exact frS_none (by intro h0; have := congrArg List.length h0; simp at this; omega) h

set_option maxHeartbeats 800000 in
theorem iFractionOf (A : Option Addr) (n c : Nat) (xs : List Int) (w : World) (h : Rd w w.heap.size 1 A n (xs.map (Value.int .i64))) (hnc : n ≤ c) (hn : n ≤ 1048576) :
    Calls Try.prog 44 #[.slice A n c] w fun e w' => e = .returned (fracV (FracZ xs)) ∧ Below w.heap.size w w' := by
  have hlen : xs.length = n := by simpa using h.1
  by_cases h1 : 1 ≤ n
  case neg =>
    have e := frac_no (xs := xs) (by simp [quotB]; omega)
    rw [e]
    obtain rfl : n = 0 := by omega
    have q : inB 0 1 12 = false := by decide
    have HL := Lib.hid hlen
    clear hlen e h
    go_enter Try.func44, Try.ntmps44
    go_wp2_with (go_at_call 55; refine (within_any _ _ _ _).mono ?_; rintro e w' ⟨rfl, rfl⟩)
    go_ret3
    exact ⟨rfl, by (repeat (first | exact Below.refl _ _ | assumption | refine Below.alloc ?_ (by first | omega | (simp <;> omega)) _ | refine Below.setCell ?_ (by first | omega | (simp <;> omega)) _ | refine Below.drew ?_ | refine Below.trans ?_ (Below.mono (by assumption) (by first | omega | (simp <;> omega)))))⟩
  have hq0 : ((n : Int) == 0) = false := by simp; omega
  by_cases h2 : (n : Int) ≤ 12
  case neg =>
    have e := frac_no (xs := xs) (by simp [quotB]; omega)
    rw [e]
    have q : inB (n : Int) 1 12 = false := inB_false (by omega)
    have HL := Lib.hid hlen
    clear hlen e h
    go_enter Try.func44, Try.ntmps44
    go_wp2_with (go_at_call 55; refine (within_any _ _ _ _).mono ?_; rintro e w' ⟨rfl, rfl⟩)
    go_ret3
    exact ⟨rfl, by (repeat (first | exact Below.refl _ _ | assumption | refine Below.alloc ?_ (by first | omega | (simp <;> omega)) _ | refine Below.setCell ?_ (by first | omega | (simp <;> omega)) _ | refine Below.drew ?_ | refine Below.trans ?_ (Below.mono (by assumption) (by first | omega | (simp <;> omega)))))⟩
  have q1 : inB (n : Int) 1 12 = true := inB_true (by omega)
  obtain ⟨b, o, rfl, hbB, hcell⟩ := h.cell (by omega)
  obtain ⟨x0, l, rfl⟩ : ∃ x0 l, xs = x0 :: l := by
    cases xs with
    | nil => simp at hlen; omega
    | cons x l => exact ⟨x, l, rfl⟩
  have c0 : w.cell? ⟨b, o, none⟩ = some (.int .i64 x0) := by simpa using hcell 0 (.int .i64 x0) (by simp)
  have hcz : ∀ k z, (x0 :: l)[k]? = some z → w.cell? ⟨b, o + k, none⟩ = some (.int .i64 z) := fun k z hz => hcell k _ (by rw [List.getElem?_map, hz]; rfl)
  have HC := Lib.hid hcz
  have hi0 : (0 : Int) < (n : Int) := by omega
  clear hcell h hcz
  cases hx : inB x0 0 1000
  · have e := frac_no (quot_head (l := l) hx)
    rw [e]
    have HL := Lib.hid hlen
    clear hlen e
    go_enter Try.func44, Try.ntmps44
    go_wp2_with (go_at_call 55; refine (within_any _ _ _ _).mono ?_; rintro e w' ⟨rfl, rfl⟩)
    go_ret3
    exact ⟨rfl, by (repeat (first | exact Below.refl _ _ | assumption | refine Below.alloc ?_ (by first | omega | (simp <;> omega)) _ | refine Below.setCell ?_ (by first | omega | (simp <;> omega)) _ | refine Below.drew ?_ | refine Below.trans ?_ (Below.mono (by assumption) (by first | omega | (simp <;> omega)))))⟩
  have hbad : ∀ k z, (x0 :: l)[k + 1]? = some z → inB z 1 1000 = false → fracV (FracZ (x0 :: l)) = .tuple #[.int .i64 0, .int .i64 0, .bool false] := fun k z hz hb => frac_no (quot_bad hz hb)
  have HBAD := Lib.hid hbad
  have hok : (∀ j z, j + 1 < n → (x0 :: l)[j + 1]? = some z → inB z 1 1000 = true) → quotB (x0 :: l) = true := fun hl => quot_ok (by omega) hx (by rw [hlen]; exact hl)
  have HOK := Lib.hid hok
  have hxb := inB_iff.1 hx
  have hx0 : (x0 :: l)[0]? = some x0 := rfl
  have HX0 := Lib.hid hx0
  clear hbad hok hx0
  generalize x0 :: l = xs at *
  have HL := Lib.hid hlen
  clear hlen
  have hcs : c ≠ 1 ∨ (n = 1 ∧ c = 1) := by omega
  rcases hcs with hcs | hcs
  case inl =>
    go_enter Try.func44, Try.ntmps44
    go_wp2_with (go_at_call 55; refine (within_any _ _ _ _).mono ?_; rintro e w' ⟨rfl, rfl⟩)
    go_loop [7, 29] (fun _ i => ∃ k : Nat, k + 1 ≤ n ∧ i = .int .i64 k ∧ Hid (∀ j z, j < k → xs[j + 1]? = some z → inB z 1 1000 = true)) (fun _ i => n - (intOf i).toNat)
    case atStart => exact ⟨0, by omega, rfl, fun j z h => by omega⟩
    case round =>
      obtain ⟨k, hk, rfl, hall⟩ := hrel
      by_cases hlt : (k : Int) < (n : Int) - 1
      case pos =>
        obtain ⟨z, hz⟩ : ∃ z, xs[k + 1]? = some z := ⟨_, List.getElem?_eq_getElem (by rw [HL.out]; omega)⟩
        have cz : w.cell? ⟨b, o + 1 + k, none⟩ = some (.int .i64 z) := by rw [Nat.add_assoc, Nat.add_comm 1 k]; exact HC.out _ _ hz
        have HZ := Lib.hid hz
        clear hz
        cases hzk : inB z 1 1000
        · have E := Lib.hid (HBAD.out k z HZ.out hzk)
          go_wp2_with (go_at_call 55; refine (within_any _ _ _ _).mono ?_; rintro e w' ⟨rfl, rfl⟩)
          go_ret3
          exact ⟨by rw [E.out]; rfl, by (repeat (first | exact Below.refl _ _ | assumption | refine Below.alloc ?_ (by first | omega | (simp <;> omega)) _ | refine Below.setCell ?_ (by first | omega | (simp <;> omega)) _ | refine Below.drew ?_ | refine Below.trans ?_ (Below.mono (by assumption) (by first | omega | (simp <;> omega)))))⟩
        · go_wp2_with (go_at_call 55; refine (within_any _ _ _ _).mono ?_; rintro e w' ⟨rfl, rfl⟩)
          go_round
          case rel => exact ⟨k + 1, by omega, by go_num, fun j z' hj hz' => by
            by_cases e : j = k
            · subst e
              have := HZ.out.symm.trans hz'
              injection this with this
              subst this
              exact hzk
            · exact hall.out j z' (by omega) hz'⟩
          case measure => simp [intOf]; omega
      case neg =>
        have hqb : Hid (∀ j z, j + 1 < n → xs[j + 1]? = some z → inB z 1 1000 = true) := fun j z hj hz => hall.out j z (by omega) hz
        have hbel : Below w.heap.size w w := Below.refl _ _
        have hquot : quotB xs = true := HOK.out (fun j z hj hz => hall.out j z (by omega) hz)
        have HQT := Lib.hid hquot
        clear hquot hall
        obtain ⟨last, hlast⟩ : ∃ z, xs[n - 1]? = some z := ⟨_, List.getElem?_eq_getElem (by rw [HL.out]; omega)⟩
        have cl : w.cell? ⟨b, o + (n - 1), none⟩ = some (.int .i64 last) := HC.out _ _ hlast
        have hlb : 0 ≤ last ∧ last ≤ 1000 := by
          by_cases hn1 : n = 1
          · subst hn1
            have := HX0.out.symm.trans hlast
            injection this with this
            omega
          · have := hqb.out (n - 2) last (by omega) (by rw [show n - 2 + 1 = n - 1 by omega]; exact hlast)
            have := inB_iff.1 this
            omega
        have hstart : frS (xs.drop (n - 1)) = some (last, 1) := by
          rw [drop_one hlast, List.drop_of_length_le (by rw [HL.out]; omega)]
          rfl
        have HST := Lib.hid hstart
        clear hstart hlast
        go_wp2
        go_loop [8, 9, 10] (fun top bot i => ∃ (m : Nat) (t d : Int), m + 1 ≤ n ∧ i = .int .i64 ((m : Int) - 1) ∧ top = .int .i64 t ∧ bot = .int .i64 d ∧ 0 ≤ t ∧ t ≤ 1000000 ∧ 0 ≤ d ∧ d ≤ 1000000 ∧ Hid (frS (xs.drop m) = some (t, d))) (fun _ _ i => ((intOf i) + 1).toNat)
        case atStart => exact ⟨n - 1, last, 1, by omega, by go_num, rfl, rfl, by omega, by omega, by omega, by omega, HST.out⟩
        case round =>
          obtain ⟨m, t, d, hm, rfl, rfl, rfl, t0, t1, d0, d1, hf⟩ := hrel
          clear HST
          rcases Nat.eq_zero_or_pos m with h0 | h0
          · subst h0
            go_wp2
            go_ret3
            exact ⟨by rw [frac_some HQT.out (by simpa using hf.out)]; rfl, hbel⟩
          · obtain ⟨k, rfl⟩ : ∃ k, m = k + 1 := ⟨m - 1, by omega⟩
            obtain ⟨z, hz⟩ : ∃ z, xs[k]? = some z := ⟨_, List.getElem?_eq_getElem (by rw [HL.out]; omega)⟩
            have cz : w.cell? ⟨b, o + k, none⟩ = some (.int .i64 z) := HC.out _ _ hz
            have hzb : 0 ≤ z ∧ z ≤ 1000 := by
              rcases Nat.eq_zero_or_pos k with hk | hk
              · subst hk
                have := HX0.out.symm.trans hz
                injection this with this
                omega
              · have := inB_iff.1 (hqb.out (k - 1) z (by omega) (by rw [show k - 1 + 1 = k by omega]; exact hz))
                omega
            have e1 : xs.drop k = z :: xs.drop (k + 1) := drop_one hz
            have hs := frS_cons (q := z) hf.out
            rw [← e1] at hs
            have HS := Lib.hid hs
            have m0 : 0 ≤ z * t := Int.mul_nonneg (by omega) t0
            have m1 : z * t ≤ 1000 * 1000000 := Int.mul_le_mul (by omega) (by omega) (by omega) (by omega)
            have hi : (k : Int) < (n : Int) := by omega
            clear hs e1 hz
            by_cases hbig : 1000000 < z * t + d ∨ 1000000 < t
            · have e := frac_none (frS_drop k (by rw [HL.out]; omega) (by rw [HS.out, if_pos hbig]))
              have E := Lib.hid e
              clear e
              have hbig1 : 1000000 < z * t + d := by omega
              clear hbig
              go_wp2
              go_ret3
              exact ⟨by rw [E.out]; rfl, hbel⟩
            · have hs2 : frS (xs.drop k) = some (z * t + d, t) := by rw [HS.out, if_neg hbig]
              have HS2 := Lib.hid hs2
              have hb1 : z * t + d ≤ 1000000 := by omega
              have hb2 : t ≤ 1000000 := by omega
              clear hs2 hbig
              go_wp2
              go_round
              case rel => exact ⟨k, z * t + d, t, by omega, by go_num, rfl, rfl, by omega, by omega, t0, t1, HS2.out⟩
              case measure => simp [intOf] <;> omega
  case inr =>
    obtain ⟨rfl, rfl⟩ := hcs
    have hquot : quotB xs = true := HOK.out (fun j z hj hz => by omega)
    have hst : frS xs = some (x0, 1) := by
      have hl := HL.out
      have hx := HX0.out
      match xs, hl with
      | [q], _ =>
        injection hx with hx
        subst hx
        rfl
    have e := frac_some hquot hst
    have E := Lib.hid e
    clear e hquot hst
    go_enter Try.func44, Try.ntmps44
    go_wp2_with (go_at_call 55; refine (within_any _ _ _ _).mono ?_; rintro e w' ⟨rfl, rfl⟩)
    refine wp_loop_rounds 1 ?_
    rw [rounds_succ]
    go_wp2
    refine wp_loop_rounds 1 ?_
    rw [rounds_succ]
    go_wp2
    go_ret3
    exact ⟨by rw [E.out]; rfl, by (repeat (first | exact Below.refl _ _ | assumption | refine Below.alloc ?_ (by first | omega | (simp <;> omega)) _ | refine Below.setCell ?_ (by first | omega | (simp <;> omega)) _ | refine Below.drew ?_ | refine Below.trans ?_ (Below.mono (by assumption) (by first | omega | (simp <;> omega)))))⟩
set_option maxHeartbeats 800000 in
theorem sFractionOf (A : Option Addr) (n c : Nat) (xs : List Int) (w : World) (h : Rd w w.heap.size 1 A n (xs.map (Value.int .i64))) (hnc : n ≤ c) (hn : n ≤ 1048576) :
    Calls Try.prog 42 #[.slice A n c] w fun e w' => e = .returned (fracV (FracZ xs)) ∧ Below w.heap.size w w' := by
  have hlen : xs.length = n := by simpa using h.1
  by_cases h1 : 1 ≤ n
  case neg =>
    have e := frac_no (xs := xs) (by simp [quotB]; omega)
    rw [e]
    obtain rfl : n = 0 := by omega
    have q : inB 0 1 12 = false := by decide
    have HL := Lib.hid hlen
    clear hlen e h
    go_enter Try.func42, Try.ntmps42
    go_wp2_with (go_at_call 54; refine (l01In_any _ _ _ _).mono ?_; rintro e w' ⟨rfl, rfl⟩)
    go_ret3
    exact ⟨rfl, by (repeat (first | exact Below.refl _ _ | assumption | refine Below.alloc ?_ (by first | omega | (simp <;> omega)) _ | refine Below.setCell ?_ (by first | omega | (simp <;> omega)) _ | refine Below.drew ?_ | refine Below.trans ?_ (Below.mono (by assumption) (by first | omega | (simp <;> omega)))))⟩
  have hq0 : ((n : Int) == 0) = false := by simp; omega
  by_cases h2 : (n : Int) ≤ 12
  case neg =>
    have e := frac_no (xs := xs) (by simp [quotB]; omega)
    rw [e]
    have q : inB (n : Int) 1 12 = false := inB_false (by omega)
    have HL := Lib.hid hlen
    clear hlen e h
    go_enter Try.func42, Try.ntmps42
    go_wp2_with (go_at_call 54; refine (l01In_any _ _ _ _).mono ?_; rintro e w' ⟨rfl, rfl⟩)
    go_ret3
    exact ⟨rfl, by (repeat (first | exact Below.refl _ _ | assumption | refine Below.alloc ?_ (by first | omega | (simp <;> omega)) _ | refine Below.setCell ?_ (by first | omega | (simp <;> omega)) _ | refine Below.drew ?_ | refine Below.trans ?_ (Below.mono (by assumption) (by first | omega | (simp <;> omega)))))⟩
  have q1 : inB (n : Int) 1 12 = true := inB_true (by omega)
  obtain ⟨b, o, rfl, hbB, hcell⟩ := h.cell (by omega)
  obtain ⟨x0, l, rfl⟩ : ∃ x0 l, xs = x0 :: l := by
    cases xs with
    | nil => simp at hlen; omega
    | cons x l => exact ⟨x, l, rfl⟩
  have c0 : w.cell? ⟨b, o, none⟩ = some (.int .i64 x0) := by simpa using hcell 0 (.int .i64 x0) (by simp)
  have hcz : ∀ k z, (x0 :: l)[k]? = some z → w.cell? ⟨b, o + k, none⟩ = some (.int .i64 z) := fun k z hz => hcell k _ (by rw [List.getElem?_map, hz]; rfl)
  have HC := Lib.hid hcz
  have hi0 : (0 : Int) < (n : Int) := by omega
  clear hcell h hcz
  cases hx : inB x0 0 1000
  · have e := frac_no (quot_head (l := l) hx)
    rw [e]
    have HL := Lib.hid hlen
    clear hlen e
    go_enter Try.func42, Try.ntmps42
    go_wp2_with (go_at_call 54; refine (l01In_any _ _ _ _).mono ?_; rintro e w' ⟨rfl, rfl⟩)
    go_ret3
    exact ⟨rfl, by (repeat (first | exact Below.refl _ _ | assumption | refine Below.alloc ?_ (by first | omega | (simp <;> omega)) _ | refine Below.setCell ?_ (by first | omega | (simp <;> omega)) _ | refine Below.drew ?_ | refine Below.trans ?_ (Below.mono (by assumption) (by first | omega | (simp <;> omega)))))⟩
  have hbad : ∀ k z, (x0 :: l)[k + 1]? = some z → inB z 1 1000 = false → fracV (FracZ (x0 :: l)) = .tuple #[.int .i64 0, .int .i64 0, .bool false] := fun k z hz hb => frac_no (quot_bad hz hb)
  have HBAD := Lib.hid hbad
  have hok : (∀ j z, j + 1 < n → (x0 :: l)[j + 1]? = some z → inB z 1 1000 = true) → quotB (x0 :: l) = true := fun hl => quot_ok (by omega) hx (by rw [hlen]; exact hl)
  have HOK := Lib.hid hok
  have hxb := inB_iff.1 hx
  have hx0 : (x0 :: l)[0]? = some x0 := rfl
  have HX0 := Lib.hid hx0
  clear hbad hok hx0
  generalize x0 :: l = xs at *
  have HL := Lib.hid hlen
  clear hlen
  go_enter Try.func42, Try.ntmps42
  go_wp2_with (go_at_call 54; refine (l01In_any _ _ _ _).mono ?_; rintro e w' ⟨rfl, rfl⟩)
  go_loop [6] (fun i => ∃ k : Nat, 1 ≤ k ∧ k ≤ n ∧ i = .int .i64 k ∧ Hid (∀ j z, j + 1 < k → xs[j + 1]? = some z → inB z 1 1000 = true)) (fun i => n - (intOf i).toNat)
  case atStart => exact ⟨1, by omega, by omega, rfl, fun j z h => by omega⟩
  case round =>
    obtain ⟨k, hk0, hk, rfl, hall⟩ := hrel
    by_cases hlt : (k : Int) < n
    case pos =>
      obtain ⟨z, hz⟩ : ∃ z, xs[k]? = some z := ⟨_, List.getElem?_eq_getElem (by rw [HL.out]; omega)⟩
      have cz : w.cell? ⟨b, o + k, none⟩ = some (.int .i64 z) := HC.out _ _ hz
      have HZ := Lib.hid hz
      clear hz
      cases hzk : inB z 1 1000
      · have E := Lib.hid (HBAD.out (k - 1) z (by rw [show k - 1 + 1 = k by omega]; exact HZ.out) hzk)
        go_wp2_with (go_at_call 54; refine (l01In_any _ _ _ _).mono ?_; rintro e w' ⟨rfl, rfl⟩)
        go_ret3
        exact ⟨by rw [E.out]; rfl, by (repeat (first | exact Below.refl _ _ | assumption | refine Below.alloc ?_ (by first | omega | (simp <;> omega)) _ | refine Below.setCell ?_ (by first | omega | (simp <;> omega)) _ | refine Below.drew ?_ | refine Below.trans ?_ (Below.mono (by assumption) (by first | omega | (simp <;> omega)))))⟩
      · go_wp2_with (go_at_call 54; refine (l01In_any _ _ _ _).mono ?_; rintro e w' ⟨rfl, rfl⟩)
        go_round
        case rel => exact ⟨k + 1, by omega, by omega, by go_num, fun j z' hj hz' => by
          by_cases e : j + 1 = k
          · subst e
            have := HZ.out.symm.trans hz'
            injection this with this
            subst this
            exact hzk
          · exact hall.out j z' (by omega) hz'⟩
        case measure => simp [intOf]; omega
    case neg =>
      obtain rfl : n = k := by omega
      have hqb : Hid (∀ j z, j + 1 < n → xs[j + 1]? = some z → inB z 1 1000 = true) := hall
      have hbel : Below w.heap.size w w := Below.refl _ _
      have hquot : quotB xs = true := HOK.out (fun j z hj hz => hall.out j z (by omega) hz)
      have HQT := Lib.hid hquot
      clear hquot hall
      obtain ⟨last, hlast⟩ : ∃ z, xs[n - 1]? = some z := ⟨_, List.getElem?_eq_getElem (by rw [HL.out]; omega)⟩
      have cl : w.cell? ⟨b, o + (n - 1), none⟩ = some (.int .i64 last) := HC.out _ _ hlast
      have hlb : 0 ≤ last ∧ last ≤ 1000 := by
        by_cases hn1 : n = 1
        · subst hn1
          have := HX0.out.symm.trans hlast
          injection this with this
          omega
        · have := hqb.out (n - 2) last (by omega) (by rw [show n - 2 + 1 = n - 1 by omega]; exact hlast)
          have := inB_iff.1 this
          omega
      have hstart : frS (xs.drop (n - 1)) = some (last, 1) := by
        rw [drop_one hlast, List.drop_of_length_le (by rw [HL.out]; omega)]
        rfl
      have HST := Lib.hid hstart
      clear hstart hlast
      go_wp2
      go_loop [7, 8, 9] (fun top bot i => ∃ (m : Nat) (t d : Int), m + 1 ≤ n ∧ i = .int .i64 ((m : Int) - 1) ∧ top = .int .i64 t ∧ bot = .int .i64 d ∧ 0 ≤ t ∧ t ≤ 1000000 ∧ 0 ≤ d ∧ d ≤ 1000000 ∧ Hid (frS (xs.drop m) = some (t, d))) (fun _ _ i => ((intOf i) + 1).toNat)
      case atStart => exact ⟨n - 1, last, 1, by omega, by go_num, rfl, rfl, by omega, by omega, by omega, by omega, HST.out⟩
      case round =>
        obtain ⟨m, t, d, hm, rfl, rfl, rfl, t0, t1, d0, d1, hf⟩ := hrel
        clear HST
        rcases Nat.eq_zero_or_pos m with h0 | h0
        · subst h0
          go_wp2
          go_ret3
          exact ⟨by rw [frac_some HQT.out (by simpa using hf.out)]; rfl, hbel⟩
        · obtain ⟨k, rfl⟩ : ∃ k, m = k + 1 := ⟨m - 1, by omega⟩
          obtain ⟨z, hz⟩ : ∃ z, xs[k]? = some z := ⟨_, List.getElem?_eq_getElem (by rw [HL.out]; omega)⟩
          have cz : w.cell? ⟨b, o + k, none⟩ = some (.int .i64 z) := HC.out _ _ hz
          have hzb : 0 ≤ z ∧ z ≤ 1000 := by
            rcases Nat.eq_zero_or_pos k with hk | hk
            · subst hk
              have := HX0.out.symm.trans hz
              injection this with this
              omega
            · have := inB_iff.1 (hqb.out (k - 1) z (by omega) (by rw [show k - 1 + 1 = k by omega]; exact hz))
              omega
          have e1 : xs.drop k = z :: xs.drop (k + 1) := drop_one hz
          have hs := frS_cons (q := z) hf.out
          rw [← e1] at hs
          have HS := Lib.hid hs
          have m0 : 0 ≤ z * t := Int.mul_nonneg (by omega) t0
          have m1 : z * t ≤ 1000 * 1000000 := Int.mul_le_mul (by omega) (by omega) (by omega) (by omega)
          have hi : (k : Int) < (n : Int) := by omega
          clear hs e1 hz
          by_cases hbig : 1000000 < z * t + d ∨ 1000000 < t
          · have e := frac_none (frS_drop k (by rw [HL.out]; omega) (by rw [HS.out, if_pos hbig]))
            have E := Lib.hid e
            clear e
            have hbig1 : 1000000 < z * t + d := by omega
            clear hbig
            go_wp2
            go_ret3
            exact ⟨by rw [E.out]; rfl, hbel⟩
          · have hs2 : frS (xs.drop k) = some (z * t + d, t) := by rw [HS.out, if_neg hbig]
            have HS2 := Lib.hid hs2
            have hb1 : z * t + d ≤ 1000000 := by omega
            have hb2 : t ≤ 1000000 := by omega
            clear hs2 hbig
            go_wp2
            go_round
            case rel => exact ⟨k, z * t + d, t, by omega, by go_num, rfl, rfl, by omega, by omega, t0, t1, HS2.out⟩
            case measure => simp [intOf] <;> omega

theorem own_cap {w : World} {base size n c : Nat} {A : Option Addr} {xs : List Value} {e : TypeId} (h : w.ownsRow base e size (.slice A n c) n xs) : n ≤ c := by
  rcases h.2 with ⟨h', hz⟩ | ⟨g, cap, cur, h', _, _, hc, _⟩
  · omega
  · injection h' with _ _ h3
    omega

theorem fnExactFractionOf_walk (W : World) (A : Option Addr) (n c : Nat) (xs : List Int) (r : Rd W W.heap.size 1 A n (xs.map (Value.int .i64))) (_l : xs.length = n) (_nc : n ≤ c) (nm : n ≤ 9223372036854775807)
    (_w : ∀ x ∈ xs, (Lit.int .i64 x).wf = true) :
    Calls Try.prog 11 #[.slice A n c] W fun e w' => e = .returned (.bool true) ∧ Below W.heap.size W w' := by
  by_cases hn : n ≤ 1048576
  case neg =>
    have R := Lib.hid r
    clear r
    go_enter Try.func11, Try.ntmps11
    go_wp2
    go_ret
    exact ⟨rfl, Below.refl _ _⟩
  have S := Lib.hid (fun A c w h hc => sFractionOf A n c xs w h hc hn)
  have I := Lib.hid (fun A c w h hc => iFractionOf A n c xs w h hc hn)
  unfold fracV at S I
  obtain ⟨x, hx⟩ : ∃ x, x = (FracZ xs).1 := ⟨_, rfl⟩
  obtain ⟨y, hy⟩ : ∃ y, y = (FracZ xs).2.1 := ⟨_, rfl⟩
  obtain ⟨o, ho⟩ : ∃ o, o = (FracZ xs).2.2 := ⟨_, rfl⟩
  rw [← hx, ← hy, ← ho] at S I
  have R := Lib.hid r
  clear r hx hy ho
  go_enter Try.func11, Try.ntmps11
  go_wp2_with (go_at_call 43; refine (toIntS_any _ _ _ _ _ R.out hn).mono ?_; rintro e w1 ⟨A1, c1, rfl, ho1, hb1⟩)
  go_wp2_with (go_at_call 42; refine (S.out _ _ _ (Rd.of_own ho1) (own_cap ho1)).mono ?_; rintro e w2 ⟨rfl, hb2⟩; have z1 := hb1.size; have z2 := hb2.size; have b2 := hb1.trans (hb2.mono z1))
  go_wp2_with (go_at_call 43; refine (toIntS_any _ _ _ _ _ ((R.out.below b2).more b2.size) hn).mono ?_; rintro e w3 ⟨A3, c3, rfl, ho3, hb3⟩; have b3 := b2.trans (hb3.mono b2.size))
  go_wp2_with (go_at_call 44; refine (I.out _ _ _ (Rd.of_own ho3) (own_cap ho3)).mono ?_; rintro e w4 ⟨rfl, hb4⟩; have b4 := b3.trans (hb4.mono b3.size); have ho4 := own_below ho3 hb4)
  go_wp2_with (go_at_call 43; refine (toIntS_any _ _ _ _ _ ((R.out.below b4).more b4.size) hn).mono ?_; rintro e w5 ⟨A5, c5, rfl, ho5, hb5⟩; have b5 := b4.trans (hb5.mono b4.size); have ho4b := own_below ho4 hb5)
  go_wp2_with (go_at_call 39; refine (eqIntS_same _ _ _ _ _ _ _ (Rd.of_own ho4b) (Rd.of_own ho5) (by omega)).mono ?_; rintro e w6 ⟨rfl, hb6⟩)
  go_ret
  exact ⟨rfl, b5.trans (hb6.mono b5.size)⟩

end Go.Proofs.Ytiecjmnaphfeaaa
