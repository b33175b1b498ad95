/-
  ContinuedOf of impl and of spec: the quotients of a fraction, and the law on it.
-/
import Derived.Test.YtiecjmnaphfeaaaApp
import Derived.Test.YtiecjmnaphfeaaaWithin
namespace Go.Proofs.Ytiecjmnaphfeaaa
open Go.RowKit

def contN : Nat → Int → Int → List Int
  | 0, _, _ => []
  | f + 1, t, b => if 0 < b then t / b :: contN f b (t % b) else []
def contZ (t b : Int) : List Int := contN b.toNat t b
theorem contN_more : ∀ (f : Nat) (t b : Int), 0 ≤ t → b.toNat ≤ f → contN f t b = contN b.toNat t b
  | 0, t, b, _, h => by rw [show b.toNat = 0 by omega]
  | f + 1, t, b, _, h => by
    by_cases hb : 0 < b
    · obtain ⟨k, hk⟩ : ∃ k, b.toNat = k + 1 := ⟨b.toNat - 1, by omega⟩
      have m0 := Int.emod_nonneg t (show b ≠ 0 by omega)
      have m1 := Int.emod_lt_of_pos t hb
      rw [hk, contN, contN, if_pos hb, if_pos hb, contN_more f b (t % b) (by omega) (by omega), contN_more k b (t % b) (by omega) (by omega)]
    · rw [show b.toNat = 0 by omega]
      show (if 0 < b then _ else []) = []
      rw [if_neg hb]
theorem contZ_step {t b : Int} (_ht : 0 ≤ t) (hb : 0 < b) : contZ t b = t / b :: contZ b (t % b) := by
  unfold contZ
  obtain ⟨k, hk⟩ : ∃ k, b.toNat = k + 1 := ⟨b.toNat - 1, by omega⟩
  have m0 := Int.emod_nonneg t (show b ≠ 0 by omega)
  have m1 := Int.emod_lt_of_pos t hb
  rw [hk, contN, if_pos hb, contN_more k b (t % b) (by omega) (by omega)]
theorem contZ_nil (t : Int) : contZ t 0 = [] := rfl
theorem contN_len : ∀ (f : Nat) (t b : Int), (contN f t b).length ≤ f
  | 0, _, _ => by simp [contN]
  | f + 1, t, b => by
    unfold contN
    split
    · have := contN_len f b (t % b)
      simp
      omega
    · simp
def contV (t b : Int) : List Int := if inB t 0 1000000 = true ∧ inB b 1 1000000 = true then contZ t b else []
theorem fnExactContinuedOf_small {t b : Int} : (contV t b).length ≤ 1048576 := by
  unfold contV
  split
  · rename_i h
    have := inB_iff.1 h.2
    have := contN_len b.toNat t b
    unfold contZ
    omega
  · simp

theorem contV_no1 {t b : Int} (h : inB t 0 1000000 = false) : contV t b = [] := by simp [contV, h]
theorem contV_no2 {t b : Int} (h : inB b 1 1000000 = false) : contV t b = [] := by simp [contV, h]
theorem contV_yes {t b : Int} (h : inB t 0 1000000 = true) (h' : inB b 1 1000000 = true) : contV t b = contZ t b := by simp [contV, h, h']

/-- what one round does to the collected list -/
theorem cont_round {t b x y : Int} {l : List Int} (hx : 0 ≤ x) (hy : 0 < y) (h : l ++ contZ x y = contZ t b) : (l ++ [x / y]) ++ contZ y (x % y) = contZ t b := by
  rw [← h, contZ_step hx hy, List.append_assoc]
  rfl
theorem cont_len {t b x y : Int} {l : List Int} (hb : b ≤ 1000000) (h : l ++ contZ x y = contZ t b) : l.length ≤ 1000000 := by
  have h1 := congrArg List.length h
  rw [List.length_append] at h1
  have := contN_len b.toNat t b
  unfold contZ at h1
  omega
theorem cont_end {t b x : Int} {l : List Int} (h : l ++ contZ x 0 = contZ t b) : l = contZ t b := by
  rw [← h, contZ_nil, List.append_nil]

/-- a slice of numbers that a call made -/
def MadeI (w : World) (l : List Int) (E : Ending) (w' : World) : Prop := MadeS w 3 1 l.length (l.map (Value.int .i64)) E w'
theorem madeI_nil (w w' : World) (hb : Below w.heap.size w w') : MadeI w [] (.returned (.slice none 0 0)) w' := ⟨none, 0, rfl, World.ownsRow_nil _ _ _ _, hb⟩
theorem madeI_of {w w' : World} {l : List Int} {v : Value} {n : Nat} (h : w'.ownsRow w.heap.size 3 1 v n (l.map (Value.int .i64))) (hb : Below w.heap.size w w') : MadeI w l (.returned v) w' := by
  obtain ⟨A, c, rfl⟩ := own_shape h
  have hn : l.length = n := by have := h.1; simpa using this
  subst hn
  exact ⟨A, c, rfl, h, hb⟩

set_option maxHeartbeats 800000 in
theorem iContinuedOf (t b : Int) (w : World) :
    Calls Try.prog 38 #[.int .i64 t, .int .i64 b] w (MadeI w (contV t b)) := by
  cases ht : inB t 0 1000000
  · rw [contV_no1 ht]
    go_enter Try.func38, Try.ntmps38
    go_wp2_with (first | (go_at_call 55; refine (within_any t _ _ _).mono ?_; rintro e w' ⟨rfl, rfl⟩; rw [ht]) | (go_at_call 55; refine (within_any b _ _ _).mono ?_; rintro e w' ⟨rfl, rfl⟩))
    go_ret
    exact madeI_nil _ _ (Below.refl _ _)
  cases hb : inB b 1 1000000
  · rw [contV_no2 hb]
    go_enter Try.func38, Try.ntmps38
    go_wp2_with fail
    refine (within_any _ _ _ _).mono ?_
    rintro e w' ⟨rfl, rfl⟩
    rw [ht]
    go_wp2_with fail
    refine (within_any _ _ _ _).mono ?_
    rintro e w' ⟨rfl, rfl⟩
    rw [hb]
    go_wp2
    go_ret
    exact madeI_nil _ _ (Below.refl _ _)
  rw [contV_yes ht hb]
  have t1 := inB_iff.1 ht
  have b1 := inB_iff.1 hb
  obtain ⟨t10, t11⟩ := t1
  obtain ⟨b10, b11⟩ := b1
  have HT := Lib.hid ht
  have HB := Lib.hid hb
  clear ht hb
  go_enter Try.func38, Try.ntmps38
  go_wp2_with fail
  refine (within_any _ _ _ _).mono ?_
  rintro e w' ⟨rfl, rfl⟩
  rw [HT.out]
  go_wp2_with fail
  refine (within_any _ _ _ _).mono ?_
  rintro e w' ⟨rfl, rfl⟩
  rw [HB.out]
  go_wp2
  go_loopw [5, 0, 1] (fun v p q wr => ∃ (x y : Int) (l : List Int), 0 ≤ x ∧ x ≤ 1000000 ∧ 0 ≤ y ∧ y ≤ 1000000 ∧ p = .int .i64 x ∧ q = .int .i64 y ∧ Hid (l ++ contZ x y = contZ t b) ∧ wr.ownsRow w.heap.size 3 1 v l.length (l.map (Value.int .i64)) ∧ Below w.heap.size w wr) (fun _ _ q _ => (intOf q).toNat)
  case atStart => exact ⟨t, b, [], by omega, by omega, by omega, by omega, rfl, rfl, rfl, own_empty _ _ _ _ (Nat.le_refl _), (Below.refl _ _).alloc (Nat.le_refl _) _⟩
  case round =>
    obtain ⟨x, y, l, x0, x1, y0, y1, rfl, rfl, hl, hown, hbl⟩ := hrel
    have hll := cont_len b11 hl.out
    by_cases hy : 0 < y
    · have m0 := Int.emod_nonneg x (show y ≠ 0 by omega)
      have m1 := Int.emod_lt_of_pos x hy
      have q0 := Int.ediv_nonneg x0 y0
      have q1 := Int.ediv_le_self y x0
      have hs := cont_round x0 hy hl.out
      have HS := Lib.hid hs
      clear hs
      go_wp2_with (at_builtin; refine wpList_app_int (W := w) rfl (.tmp 17) (.tmp 21) rfl w.heap.size _ _ _ _ rfl hown rfl (by omega) hbl.size hbl ?_; intro v' w' hown' hg' hbl')
      have HO := Lib.hid hown'
      clear hown' hg' hown
      go_quiet (fail)
      go_wp2
      go_roundw
      case rel => exact ⟨y, x % y, l ++ [x / y], y0, y1, m0, by omega, rfl, rfl, HS.out, own_drewN (by simpa using HO.out) _, hbl'.trans (Go.Joins.below_draws _ _ _)⟩
      case measure => simp [intOf]; omega
    · obtain rfl : y = 0 := by omega
      have he := cont_end hl.out
      have HE := Lib.hid he
      clear he
      have HO := Lib.hid hown
      clear hown
      go_wp2
      go_ret
      rw [← HE.out]
      exact madeI_of HO.out hbl
set_option maxHeartbeats 800000 in
theorem sContinuedOf (t b : Int) (w : World) :
    Calls Try.prog 37 #[.int .i64 t, .int .i64 b] w (MadeI w (contV t b)) := by
  cases ht : inB t 0 1000000
  · rw [contV_no1 ht]
    go_enter Try.func37, Try.ntmps37
    go_wp2_with (first | (go_at_call 54; refine (l01In_any t _ _ _).mono ?_; rintro e w' ⟨rfl, rfl⟩; rw [ht]) | (go_at_call 54; refine (l01In_any b _ _ _).mono ?_; rintro e w' ⟨rfl, rfl⟩))
    go_ret
    exact madeI_of (l := []) (own_empty _ _ _ _ (Nat.le_refl _)) ((Below.refl _ _).alloc (Nat.le_refl _) _)
  cases hb : inB b 1 1000000
  · rw [contV_no2 hb]
    go_enter Try.func37, Try.ntmps37
    go_wp2_with fail
    refine (l01In_any _ _ _ _).mono ?_
    rintro e w' ⟨rfl, rfl⟩
    rw [ht]
    go_wp2_with fail
    refine (l01In_any _ _ _ _).mono ?_
    rintro e w' ⟨rfl, rfl⟩
    rw [hb]
    go_wp2
    go_ret
    exact madeI_of (l := []) (own_empty _ _ _ _ (Nat.le_refl _)) ((Below.refl _ _).alloc (Nat.le_refl _) _)
  rw [contV_yes ht hb]
  have t1 := inB_iff.1 ht
  have b1 := inB_iff.1 hb
  obtain ⟨t10, t11⟩ := t1
  obtain ⟨b10, b11⟩ := b1
  have HT := Lib.hid ht
  have HB := Lib.hid hb
  clear ht hb
  go_enter Try.func37, Try.ntmps37
  go_wp2_with fail
  refine (l01In_any _ _ _ _).mono ?_
  rintro e w' ⟨rfl, rfl⟩
  rw [HT.out]
  go_wp2_with fail
  refine (l01In_any _ _ _ _).mono ?_
  rintro e w' ⟨rfl, rfl⟩
  rw [HB.out]
  go_wp2
  go_loopw [5, 0, 1] (fun v p q wr => ∃ (x y : Int) (l : List Int), 0 ≤ x ∧ x ≤ 1000000 ∧ 0 ≤ y ∧ y ≤ 1000000 ∧ p = .int .i64 x ∧ q = .int .i64 y ∧ Hid (l ++ contZ x y = contZ t b) ∧ wr.ownsRow w.heap.size 3 1 v l.length (l.map (Value.int .i64)) ∧ Below w.heap.size w wr) (fun _ _ q _ => (intOf q).toNat)
  case atStart => exact ⟨t, b, [], by omega, by omega, by omega, by omega, rfl, rfl, rfl, own_empty _ _ _ _ (Nat.le_refl _), (Below.refl _ _).alloc (Nat.le_refl _) _⟩
  case round =>
    obtain ⟨x, y, l, x0, x1, y0, y1, rfl, rfl, hl, hown, hbl⟩ := hrel
    have hll := cont_len b11 hl.out
    by_cases hy : 0 < y
    · have m0 := Int.emod_nonneg x (show y ≠ 0 by omega)
      have m1 := Int.emod_lt_of_pos x hy
      have q0 := Int.ediv_nonneg x0 y0
      have q1 := Int.ediv_le_self y x0
      have hs := cont_round x0 hy hl.out
      have HS := Lib.hid hs
      clear hs
      go_wp2_with (at_builtin; refine wpList_app_int (W := w) rfl (.tmp 18) (.tmp 22) rfl w.heap.size _ _ _ _ rfl hown rfl (by omega) hbl.size hbl ?_; intro v' w' hown' hg' hbl')
      have HO := Lib.hid hown'
      clear hown' hg' hown
      go_quiet (fail)
      go_wp2
      go_roundw
      case rel => exact ⟨y, x % y, l ++ [x / y], y0, y1, m0, by omega, rfl, rfl, HS.out, own_drewN (by simpa using HO.out) _, hbl'.trans (Go.Joins.below_draws _ _ _)⟩
      case measure => simp [intOf]; omega
    · obtain rfl : y = 0 := by omega
      have he := cont_end hl.out
      have HE := Lib.hid he
      clear he
      have HO := Lib.hid hown
      clear hown
      go_wp2
      go_ret
      rw [← HE.out]
      exact madeI_of HO.out hbl

end Go.Proofs.Ytiecjmnaphfeaaa
