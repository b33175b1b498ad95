/-
  TrainRatio, TurnsOf and LeastWhole of impl and of spec: what each returns for all trains of at most 1048576 gears. The train is read; new blocks alone are made.
-/
import Derived.Test.YtiecjmnaphfeaaaGearS
import Derived.Test.YtiecjmnaphfeaaaGear
namespace Go.Proofs.Ytiecjmnaphfeaaa
open Go.RowKit


theorem gcd_i (a b : Int) (w : World) (ha : 0 ≤ a) (ha2 : a ≤ 4000000000000000000) (hb : 0 ≤ b) (hb2 : b ≤ 4000000000000000000) :
    Calls Try.prog 57 #[.int .i64 a, .int .i64 b] w fun e w' => e = .returned (.int .i64 (gcdZ a b)) ∧ Below w.heap.size w w' := by
  go_enter Try.func57, Try.ntmps57
  go_wp2
  go_loopw [0, 1] (fun p q wr => ∃ x y : Int, 0 ≤ x ∧ x ≤ 4000000000000000000 ∧ 0 ≤ y ∧ y ≤ 4000000000000000000 ∧ p = .int .i64 x ∧ q = .int .i64 y ∧ Hid (gcdZ x y = gcdZ a b) ∧ Below w.heap.size w wr) (fun _ q _ => (intOf q).toNat)
  case atStart => exact ⟨a, b, ha, ha2, hb, hb2, rfl, rfl, rfl, Below.refl _ _⟩
  case round =>
    obtain ⟨x, y, x0, x1, y0, y1, rfl, rfl, hg, hbl⟩ := hrel
    by_cases hy : 0 < y
    · have m0 := Int.emod_nonneg x (show y ≠ 0 by omega)
      have m1 := Int.emod_lt_of_pos x hy
      have hs := gcdZ_step x0 hy
      have HS := Lib.hid hs
      clear hs
      go_wp2
      go_quiet (fail)
      go_wp2
      go_roundw
      case rel => exact ⟨y, x % y, y0, y1, m0, by omega, rfl, rfl, HS.out.trans hg.out, hbl.trans (Go.Joins.below_draws _ _ _)⟩
      case measure => simp [intOf]; omega
    · obtain rfl : y = 0 := by omega
      go_wp2
      go_ret
      exact ⟨by rw [← hg.out, gcdZ_zero x x0]; rfl, hbl⟩

theorem gcd_s (a b : Int) (w : World) (ha : 0 ≤ a) (ha2 : a ≤ 4000000000000000000) (hb : 0 ≤ b) (hb2 : b ≤ 4000000000000000000) :
    Calls Try.prog 56 #[.int .i64 a, .int .i64 b] w fun e w' => e = .returned (.int .i64 (gcdZ a b)) ∧ Below w.heap.size w w' := by
  go_enter Try.func56, Try.ntmps56
  go_wp2
  go_loopw [0, 1] (fun p q wr => ∃ x y : Int, 0 ≤ x ∧ x ≤ 4000000000000000000 ∧ 0 ≤ y ∧ y ≤ 4000000000000000000 ∧ p = .int .i64 x ∧ q = .int .i64 y ∧ Hid (gcdZ x y = gcdZ a b) ∧ Below w.heap.size w wr) (fun _ q _ => (intOf q).toNat)
  case atStart => exact ⟨a, b, ha, ha2, hb, hb2, rfl, rfl, rfl, Below.refl _ _⟩
  case round =>
    obtain ⟨x, y, x0, x1, y0, y1, rfl, rfl, hg, hbl⟩ := hrel
    by_cases hy : 0 < y
    · have m0 := Int.emod_nonneg x (show y ≠ 0 by omega)
      have m1 := Int.emod_lt_of_pos x hy
      have hs := gcdZ_step x0 hy
      have HS := Lib.hid hs
      clear hs
      go_wp2
      go_quiet (fail)
      go_wp2
      go_roundw
      case rel => exact ⟨y, x % y, y0, y1, m0, by omega, rfl, rfl, HS.out.trans hg.out, hbl.trans (Go.Joins.below_draws _ _ _)⟩
      case measure => simp [intOf]; omega
    · obtain rfl : y = 0 := by omega
      go_wp2
      go_ret
      exact ⟨by rw [← hg.out, gcdZ_zero x x0]; rfl, hbl⟩

theorem take_pair {xs : List (Int × Int)} {k : Nat} {p : Int × Int} (h : xs[k]? = some p) : xs.take (k + 1) = xs.take k ++ [p] := by
  obtain ⟨hk, rfl⟩ := List.getElem?_eq_some_iff.1 h
  rw [List.take_succ_eq_append_getElem hk]
theorem take_gears {xs : List (Int × Int)} {k : Nat} {p : Int × Int} (h : xs[k]? = some p) (hp : gearB p.1 p.2 = true) (ha : ∀ g ∈ xs.take k, gearB g.1 g.2 = true) : ∀ g ∈ xs.take (k + 1), gearB g.1 g.2 = true := by
  rw [take_pair h]
  intro g hg
  rcases List.mem_append.1 hg with hg | hg
  · exact ha g hg
  · rw [List.mem_singleton.1 hg]; exact hp
theorem take_bd {xs : List (Int × Int)} {k : Nat} (hk : k ≤ 4) (ha : ∀ g ∈ xs.take k, gearB g.1 g.2 = true) : 1 ≤ topP (xs.take k) ∧ topP (xs.take k) ≤ 207360000 ∧ 1 ≤ botP (xs.take k) ∧ botP (xs.take k) ≤ 207360000 :=
  train_bd ha (by simp; omega)

def ratV (xs : List (Int × Int)) : Value := .tuple #[.int .i64 (ratTop xs), .int .i64 (ratBot xs)]
theorem rat_not {xs : List (Int × Int)} (h : trainB xs = false) : ratV xs = .tuple #[.int .i64 0, .int .i64 0] := by
  obtain ⟨a, b⟩ := rat_no h
  unfold ratV
  rw [a, b]
theorem rat_yes {xs : List (Int × Int)} (h : trainB xs = true) : ratV xs = .tuple #[.int .i64 (topP xs / gcdZ (topP xs) (botP xs)), .int .i64 (botP xs / gcdZ (topP xs) (botP xs))] := by
  unfold ratV ratTop ratBot
  rw [if_pos h, if_pos h]

set_option maxHeartbeats 800000 in
theorem iTrainRatio (A : Option Addr) (n c : Nat) (xs : List (Int × Int)) (w : World) (h : Rd w w.heap.size 2 A n (pc xs)) (hn : n ≤ 1048576) :
    Calls Try.prog 22 #[.slice A n c] w fun e w' => e = .returned (ratV xs) ∧ Below w.heap.size w w' := by
  have hlen := h.pair
  by_cases h4 : (n : Int) ≤ 4
  case neg =>
    have e := rat_not (xs := xs) (by rw [Bool.eq_false_iff]; intro hh; have := (trainB_iff.1 hh).1; omega)
    rw [e]
    have HL := Lib.hid hlen
    clear hlen e h
    go_enter Try.func22, Try.ntmps22
    go_wp2
    go_ret2
    exact ⟨rfl, by (repeat (first | exact Below.refl _ _ | assumption | refine Below.alloc ?_ (by first | omega | (simp <;> omega)) _ | refine Below.setCell ?_ (by first | omega | (simp <;> omega)) _ | refine Below.drew ?_ | refine Below.trans ?_ (Below.mono (by assumption) (by first | omega | (simp <;> omega)))))⟩
  have H := Lib.hid h
  have HL := Lib.hid hlen
  clear h hlen
  go_enter Try.func22, Try.ntmps22
  go_wp2
  go_loopw [4, 5, 14] (fun t b i wr => ∃ k : Nat, k ≤ n ∧ i = .int .i64 k ∧ t = .int .i64 (topP (xs.take k)) ∧ b = .int .i64 (botP (xs.take k)) ∧ Hid (∀ g ∈ xs.take k, gearB g.1 g.2 = true) ∧ Below w.heap.size w wr) (fun _ _ i _ => n - (intOf i).toNat)
  case atStart => exact ⟨0, Nat.zero_le _, rfl, rfl, rfl, by simp [Hid], by (repeat (first | exact Below.refl _ _ | assumption | refine Below.alloc ?_ (by first | omega | (simp <;> omega)) _ | refine Below.setCell ?_ (by first | omega | (simp <;> omega)) _ | refine Below.drew ?_ | refine Below.trans ?_ (Below.mono (by assumption) (by first | omega | (simp <;> omega)))))⟩
  case round =>
    obtain ⟨k, hk, rfl, rfl, rfl, hall, hbl⟩ := hrel
    have hbd := take_bd (by omega) hall.out
    have hszr := hbl.size
    by_cases hlt : (k : Int) < n
    case pos =>
      obtain ⟨b, o, rfl, hbB, hcell⟩ := H.out.pairAt (by omega)
      obtain ⟨⟨x, y⟩, hx⟩ : ∃ p, xs[k]? = some p := ⟨_, List.getElem?_eq_getElem (by rw [HL.out]; omega)⟩
      obtain ⟨g0, g1⟩ := hcell k _ hx
      have c0 : wr.cell? ⟨b, o + k * 2, none⟩ = some (.int .i64 x) := (hbl.cell (p := ⟨b, o + k * 2, none⟩) hbB).trans g0
      have c1 : wr.cell? ⟨b, o + k * 2 + 1, none⟩ = some (.int .i64 y) := (hbl.cell (p := ⟨b, o + k * 2 + 1, none⟩) hbB).trans g1
      have HX := Lib.hid hx
      have hbs : b < wr.heap.size := by have := hbl.size; omega
      have T1 := topP_snoc (xs.take k) (x, y)
      have B1 := botP_snoc (xs.take k) (x, y)
      rw [← take_pair hx] at T1 B1
      have HT := Lib.hid T1
      have HBt := Lib.hid B1
      clear hx g0 g1 hcell T1 B1
      generalize hP : topP (xs.take k) = P at *
      generalize hQ : botP (xs.take k) = Q at *
      have HPe := Lib.hid hP
      have HQe := Lib.hid hQ
      clear hP hQ
      cases hg : gearB x y
      case false =>
        have e := rat_not (xs := xs) (by rw [Bool.eq_false_iff]; intro hh; have := (trainB_iff.1 hh).2 _ (List.mem_of_getElem? HX.out); rw [hg] at this; cases this)
        have E := Lib.hid e
        clear e
        go_wp2_with (go_at_call 18; refine (iGearOkE _ _ _).mono ?_; rintro e w' ⟨rfl, rfl⟩; rw [hg])
        go_ret2
        exact ⟨by rw [E.out]; rfl, by (repeat (first | exact Below.refl _ _ | assumption | refine Below.alloc ?_ (by first | omega | (simp <;> omega)) _ | refine Below.setCell ?_ (by first | omega | (simp <;> omega)) _ | refine Below.drew ?_ | refine Below.trans ?_ (Below.mono (by assumption) (by first | omega | (simp <;> omega)))))⟩
      case true =>
        have gg := gearB_iff.1 hg
        have m1 : 0 ≤ P * x := Int.mul_nonneg (by omega) (by omega)
        have m2 : P * x ≤ 207360000 * 120 := Int.mul_le_mul (by omega) (by omega) (by omega) (by omega)
        have m3 : 0 ≤ Q * y := Int.mul_nonneg (by omega) (by omega)
        have m4 : Q * y ≤ 207360000 * 120 := Int.mul_le_mul (by omega) (by omega) (by omega) (by omega)
        go_wp2_with (go_at_call 18; refine (iGearOkE _ _ _).mono ?_; rintro e w' ⟨rfl, rfl⟩; rw [hg])
        go_roundw
        case rel => exact ⟨k + 1, by omega, by go_num, by rw [HT.out], by rw [HBt.out], take_gears HX.out hg hall.out, by (repeat (first | exact Below.refl _ _ | assumption | refine Below.alloc ?_ (by first | omega | (simp <;> omega)) _ | refine Below.setCell ?_ (by first | omega | (simp <;> omega)) _ | refine Below.drew ?_ | refine Below.trans ?_ (Below.mono (by assumption) (by first | omega | (simp <;> omega)))))⟩
        case measure => simp [intOf]; omega
    case neg =>
      obtain rfl : k = n := by omega
      have ht : trainB xs = true := by
        rw [trainB_iff]
        refine ⟨by rw [HL.out]; omega, ?_⟩
        have := hall.out
        rwa [List.take_of_length_le (by rw [HL.out]; omega)] at this
      have e := rat_yes ht
      have E := Lib.hid e
      rw [List.take_of_length_le (by rw [HL.out]; omega)] at hbd ⊢
      clear ht e
      have hg1 := gcdZ_pos (b := botP xs) (show 0 < topP xs by omega)
      generalize hP : topP xs = P at *
      generalize hQ : botP xs = Q at *
      have HPe := Lib.hid hP
      have HQe := Lib.hid hQ
      clear hP hQ
      go_wp2_with fail
      refine (gcd_i _ _ _ (by omega) (by omega) (by omega) (by omega)).mono ?_
      rintro e w1 ⟨rfl, hb1⟩
      generalize hG : gcdZ P Q = G at *
      have HG := Lib.hid hG
      clear hG
      go_wp2_with fail
      go_quiet (fail)
      go_wp2
      go_ret2
      exact ⟨by rw [E.out]; rfl, (hbl.trans (hb1.mono hbl.size)).trans (Go.Joins.below_draws _ _ _)⟩
set_option maxHeartbeats 800000 in
theorem sTrainRatio (A : Option Addr) (n c : Nat) (xs : List (Int × Int)) (w : World) (h : Rd w w.heap.size 2 A n (pc xs)) (hn : n ≤ 1048576) :
    Calls Try.prog 20 #[.slice A n c] w fun e w' => e = .returned (ratV xs) ∧ Below w.heap.size w w' := by
  have hlen := h.pair
  by_cases h4 : (n : Int) ≤ 4
  case neg =>
    have e := rat_not (xs := xs) (by rw [Bool.eq_false_iff]; intro hh; have := (trainB_iff.1 hh).1; omega)
    rw [e]
    have HL := Lib.hid hlen
    clear hlen e h
    go_enter Try.func20, Try.ntmps20
    go_wp2
    go_ret2
    exact ⟨rfl, by (repeat (first | exact Below.refl _ _ | assumption | refine Below.alloc ?_ (by first | omega | (simp <;> omega)) _ | refine Below.setCell ?_ (by first | omega | (simp <;> omega)) _ | refine Below.drew ?_ | refine Below.trans ?_ (Below.mono (by assumption) (by first | omega | (simp <;> omega)))))⟩
  have H := Lib.hid h
  have HL := Lib.hid hlen
  clear h hlen
  go_enter Try.func20, Try.ntmps20
  go_wp2
  go_loopw [4, 5, 6] (fun t b i wr => ∃ k : Nat, k ≤ n ∧ i = .int .i64 k ∧ t = .int .i64 (topP (xs.take k)) ∧ b = .int .i64 (botP (xs.take k)) ∧ Hid (∀ g ∈ xs.take k, gearB g.1 g.2 = true) ∧ Below w.heap.size w wr) (fun _ _ i _ => n - (intOf i).toNat)
  case atStart => exact ⟨0, Nat.zero_le _, rfl, rfl, rfl, by simp [Hid], by (repeat (first | exact Below.refl _ _ | assumption | refine Below.alloc ?_ (by first | omega | (simp <;> omega)) _ | refine Below.setCell ?_ (by first | omega | (simp <;> omega)) _ | refine Below.drew ?_ | refine Below.trans ?_ (Below.mono (by assumption) (by first | omega | (simp <;> omega)))))⟩
  case round =>
    obtain ⟨k, hk, rfl, rfl, rfl, hall, hbl⟩ := hrel
    have hbd := take_bd (by omega) hall.out
    have hszr := hbl.size
    by_cases hlt : (k : Int) < n
    case pos =>
      obtain ⟨b, o, rfl, hbB, hcell⟩ := H.out.pairAt (by omega)
      obtain ⟨⟨x, y⟩, hx⟩ : ∃ p, xs[k]? = some p := ⟨_, List.getElem?_eq_getElem (by rw [HL.out]; omega)⟩
      obtain ⟨g0, g1⟩ := hcell k _ hx
      have c0 : wr.cell? ⟨b, o + k * 2, none⟩ = some (.int .i64 x) := (hbl.cell (p := ⟨b, o + k * 2, none⟩) hbB).trans g0
      have c1 : wr.cell? ⟨b, o + k * 2 + 1, none⟩ = some (.int .i64 y) := (hbl.cell (p := ⟨b, o + k * 2 + 1, none⟩) hbB).trans g1
      have HX := Lib.hid hx
      have hbs : b < wr.heap.size := by have := hbl.size; omega
      have T1 := topP_snoc (xs.take k) (x, y)
      have B1 := botP_snoc (xs.take k) (x, y)
      rw [← take_pair hx] at T1 B1
      have HT := Lib.hid T1
      have HBt := Lib.hid B1
      clear hx g0 g1 hcell T1 B1
      generalize hP : topP (xs.take k) = P at *
      generalize hQ : botP (xs.take k) = Q at *
      have HPe := Lib.hid hP
      have HQe := Lib.hid hQ
      clear hP hQ
      cases hg : gearB x y
      case false =>
        have e := rat_not (xs := xs) (by rw [Bool.eq_false_iff]; intro hh; have := (trainB_iff.1 hh).2 _ (List.mem_of_getElem? HX.out); rw [hg] at this; cases this)
        have E := Lib.hid e
        clear e
        go_wp2_with (go_at_call 16; refine (sGearOkE _ _ _).mono ?_; rintro e w' ⟨rfl, rfl⟩; rw [hg])
        go_ret2
        exact ⟨by rw [E.out]; rfl, by (repeat (first | exact Below.refl _ _ | assumption | refine Below.alloc ?_ (by first | omega | (simp <;> omega)) _ | refine Below.setCell ?_ (by first | omega | (simp <;> omega)) _ | refine Below.drew ?_ | refine Below.trans ?_ (Below.mono (by assumption) (by first | omega | (simp <;> omega)))))⟩
      case true =>
        have gg := gearB_iff.1 hg
        have m1 : 0 ≤ P * x := Int.mul_nonneg (by omega) (by omega)
        have m2 : P * x ≤ 207360000 * 120 := Int.mul_le_mul (by omega) (by omega) (by omega) (by omega)
        have m3 : 0 ≤ Q * y := Int.mul_nonneg (by omega) (by omega)
        have m4 : Q * y ≤ 207360000 * 120 := Int.mul_le_mul (by omega) (by omega) (by omega) (by omega)
        go_wp2_with (go_at_call 16; refine (sGearOkE _ _ _).mono ?_; rintro e w' ⟨rfl, rfl⟩; rw [hg])
        go_roundw
        case rel => exact ⟨k + 1, by omega, by go_num, by rw [HT.out], by rw [HBt.out], take_gears HX.out hg hall.out, by (repeat (first | exact Below.refl _ _ | assumption | refine Below.alloc ?_ (by first | omega | (simp <;> omega)) _ | refine Below.setCell ?_ (by first | omega | (simp <;> omega)) _ | refine Below.drew ?_ | refine Below.trans ?_ (Below.mono (by assumption) (by first | omega | (simp <;> omega)))))⟩
        case measure => simp [intOf]; omega
    case neg =>
      obtain rfl : k = n := by omega
      have ht : trainB xs = true := by
        rw [trainB_iff]
        refine ⟨by rw [HL.out]; omega, ?_⟩
        have := hall.out
        rwa [List.take_of_length_le (by rw [HL.out]; omega)] at this
      have e := rat_yes ht
      have E := Lib.hid e
      rw [List.take_of_length_le (by rw [HL.out]; omega)] at hbd ⊢
      clear ht e
      have hg1 := gcdZ_pos (b := botP xs) (show 0 < topP xs by omega)
      generalize hP : topP xs = P at *
      generalize hQ : botP xs = Q at *
      have HPe := Lib.hid hP
      have HQe := Lib.hid hQ
      clear hP hQ
      go_wp2_with fail
      refine (gcd_s _ _ _ (by omega) (by omega) (by omega) (by omega)).mono ?_
      rintro e w1 ⟨rfl, hb1⟩
      generalize hG : gcdZ P Q = G at *
      have HG := Lib.hid hG
      clear hG
      go_wp2_with fail
      go_quiet (fail)
      go_wp2
      go_ret2
      exact ⟨by rw [E.out]; rfl, (hbl.trans (hb1.mono hbl.size)).trans (Go.Joins.below_draws _ _ _)⟩


/-- turns·top / bottom where that is whole and all is in range -/
def TurnsB (xs : List (Int × Int)) (k : Int) : Bool := trainB xs && inB k 0 1000000 && decide (k * ratTop xs % ratBot xs = 0)
def turnsV (xs : List (Int × Int)) (k : Int) : Value := if TurnsB xs k = true then .tuple #[.int .i64 (k * ratTop xs / ratBot xs), .bool true] else .tuple #[.int .i64 0, .bool false]

theorem iTurnsOf (A : Option Addr) (n c : Nat) (xs : List (Int × Int)) (k : Int) (w : World) (h : Rd w w.heap.size 2 A n (pc xs)) (hn : n ≤ 1048576) :
    Calls Try.prog 25 #[.slice A n c, .int .i64 k] w fun e w' => e = .returned (turnsV xs k) ∧ Below w.heap.size w w' := by
  have T := Lib.hid (iTrainRatio A n c xs w h hn)
  clear h
  unfold ratV at T
  cases ht : trainB xs
  · obtain ⟨r1, r2⟩ := rat_no ht
    rw [r1, r2] at T
    have e : turnsV xs k = .tuple #[.int .i64 0, .bool false] := by unfold turnsV; rw [if_neg (by simp [TurnsB, ht])]
    rw [e]
    clear r1 r2 e
    go_enter Try.func25, Try.ntmps25
    go_wp2_with (first | (go_at_call 22; refine (T.out).mono ?_; rintro e w1 ⟨rfl, hb1⟩) | (go_at_call 55; refine (within_any _ _ _ _).mono ?_; rintro e w' ⟨rfl, rfl⟩))
    go_ret2
    exact ⟨rfl, hb1⟩
  obtain ⟨r1, r2, r3, r4⟩ := rat_pos ht
  cases hk : inB k 0 1000000
  · have e : turnsV xs k = .tuple #[.int .i64 0, .bool false] := by unfold turnsV; rw [if_neg (by simp [TurnsB, hk])]
    rw [e]
    clear e
    generalize ratTop xs = P at *
    generalize ratBot xs = Q at *
    have hq : (P == 0) = false := by simp; omega
    go_enter Try.func25, Try.ntmps25
    go_wp2_with (first | (go_at_call 22; refine (T.out).mono ?_; rintro e w1 ⟨rfl, hb1⟩) | (go_at_call 55; refine (within_any _ _ _ _).mono ?_; rintro e w' ⟨rfl, rfl⟩))
    go_ret2
    exact ⟨rfl, hb1⟩
  have hkb := inB_iff.1 hk
  have m1 : 0 ≤ k * ratTop xs := Int.mul_nonneg (by omega) (by omega)
  have m2 : k * ratTop xs ≤ 1000000 * 207360000 := Int.mul_le_mul (by omega) (by omega) (by omega) (by omega)
  have hm0 := Int.emod_nonneg (k * ratTop xs) (show ratBot xs ≠ 0 by omega)
  by_cases hd : k * ratTop xs % ratBot xs = 0
  · have e : turnsV xs k = .tuple #[.int .i64 (k * ratTop xs / ratBot xs), .bool true] := by unfold turnsV; rw [if_pos (by simp [TurnsB, ht, hk, hd])]
    rw [e]
    have hd1 : k * ratTop xs % ratBot xs ≤ 0 := by omega
    clear e hd ht
    generalize ratTop xs = P at *
    generalize ratBot xs = Q at *
    have hq : (P == 0) = false := by simp; omega
    go_enter Try.func25, Try.ntmps25
    go_wp2_with (first | (go_at_call 22; refine (T.out).mono ?_; rintro e w1 ⟨rfl, hb1⟩) | (go_at_call 55; refine (within_any _ _ _ _).mono ?_; rintro e w' ⟨rfl, rfl⟩))
    go_ret2
    exact ⟨rfl, hb1⟩
  · have e : turnsV xs k = .tuple #[.int .i64 0, .bool false] := by unfold turnsV; rw [if_neg (by simp [TurnsB, hd])]
    rw [e]
    have hd1 : 0 < k * ratTop xs % ratBot xs := by omega
    clear e hd ht
    generalize ratTop xs = P at *
    generalize ratBot xs = Q at *
    have hq : (P == 0) = false := by simp; omega
    go_enter Try.func25, Try.ntmps25
    go_wp2_with (first | (go_at_call 22; refine (T.out).mono ?_; rintro e w1 ⟨rfl, hb1⟩) | (go_at_call 55; refine (within_any _ _ _ _).mono ?_; rintro e w' ⟨rfl, rfl⟩))
    go_ret2
    exact ⟨rfl, hb1⟩

theorem iLeastWhole (A : Option Addr) (n c : Nat) (xs : List (Int × Int)) (w : World) (h : Rd w w.heap.size 2 A n (pc xs)) (hn : n ≤ 1048576) :
    Calls Try.prog 27 #[.slice A n c] w fun e w' => e = .returned (.int .i64 (ratBot xs)) ∧ Below w.heap.size w w' := by
  have T := Lib.hid (iTrainRatio A n c xs w h hn)
  clear h
  unfold ratV at T
  go_enter Try.func27, Try.ntmps27
  go_wp2_with (go_at_call 22; refine (T.out).mono ?_; rintro e w1 ⟨rfl, hb1⟩)
  go_ret
  exact ⟨rfl, hb1⟩
theorem sTurnsOf (A : Option Addr) (n c : Nat) (xs : List (Int × Int)) (k : Int) (w : World) (h : Rd w w.heap.size 2 A n (pc xs)) (hn : n ≤ 1048576) :
    Calls Try.prog 24 #[.slice A n c, .int .i64 k] w fun e w' => e = .returned (turnsV xs k) ∧ Below w.heap.size w w' := by
  have T := Lib.hid (sTrainRatio A n c xs w h hn)
  clear h
  unfold ratV at T
  cases ht : trainB xs
  · obtain ⟨r1, r2⟩ := rat_no ht
    rw [r1, r2] at T
    have e : turnsV xs k = .tuple #[.int .i64 0, .bool false] := by unfold turnsV; rw [if_neg (by simp [TurnsB, ht])]
    rw [e]
    clear r1 r2 e
    go_enter Try.func24, Try.ntmps24
    go_wp2_with (first | (go_at_call 20; refine (T.out).mono ?_; rintro e w1 ⟨rfl, hb1⟩) | (go_at_call 54; refine (l01In_any _ _ _ _).mono ?_; rintro e w' ⟨rfl, rfl⟩))
    go_ret2
    exact ⟨rfl, hb1⟩
  obtain ⟨r1, r2, r3, r4⟩ := rat_pos ht
  cases hk : inB k 0 1000000
  · have e : turnsV xs k = .tuple #[.int .i64 0, .bool false] := by unfold turnsV; rw [if_neg (by simp [TurnsB, hk])]
    rw [e]
    clear e
    generalize ratTop xs = P at *
    generalize ratBot xs = Q at *
    have hq : (P == 0) = false := by simp; omega
    go_enter Try.func24, Try.ntmps24
    go_wp2_with (first | (go_at_call 20; refine (T.out).mono ?_; rintro e w1 ⟨rfl, hb1⟩) | (go_at_call 54; refine (l01In_any _ _ _ _).mono ?_; rintro e w' ⟨rfl, rfl⟩))
    go_ret2
    exact ⟨rfl, hb1⟩
  have hkb := inB_iff.1 hk
  have m1 : 0 ≤ k * ratTop xs := Int.mul_nonneg (by omega) (by omega)
  have m2 : k * ratTop xs ≤ 1000000 * 207360000 := Int.mul_le_mul (by omega) (by omega) (by omega) (by omega)
  have hm0 := Int.emod_nonneg (k * ratTop xs) (show ratBot xs ≠ 0 by omega)
  by_cases hd : k * ratTop xs % ratBot xs = 0
  · have e : turnsV xs k = .tuple #[.int .i64 (k * ratTop xs / ratBot xs), .bool true] := by unfold turnsV; rw [if_pos (by simp [TurnsB, ht, hk, hd])]
    rw [e]
    have hd1 : k * ratTop xs % ratBot xs ≤ 0 := by omega
    clear e hd ht
    generalize ratTop xs = P at *
    generalize ratBot xs = Q at *
    have hq : (P == 0) = false := by simp; omega
    go_enter Try.func24, Try.ntmps24
    go_wp2_with (first | (go_at_call 20; refine (T.out).mono ?_; rintro e w1 ⟨rfl, hb1⟩) | (go_at_call 54; refine (l01In_any _ _ _ _).mono ?_; rintro e w' ⟨rfl, rfl⟩))
    go_ret2
    exact ⟨rfl, hb1⟩
  · have e : turnsV xs k = .tuple #[.int .i64 0, .bool false] := by unfold turnsV; rw [if_neg (by simp [TurnsB, hd])]
    rw [e]
    have hd1 : 0 < k * ratTop xs % ratBot xs := by omega
    clear e hd ht
    generalize ratTop xs = P at *
    generalize ratBot xs = Q at *
    have hq : (P == 0) = false := by simp; omega
    go_enter Try.func24, Try.ntmps24
    go_wp2_with (first | (go_at_call 20; refine (T.out).mono ?_; rintro e w1 ⟨rfl, hb1⟩) | (go_at_call 54; refine (l01In_any _ _ _ _).mono ?_; rintro e w' ⟨rfl, rfl⟩))
    go_ret2
    exact ⟨rfl, hb1⟩

theorem sLeastWhole (A : Option Addr) (n c : Nat) (xs : List (Int × Int)) (w : World) (h : Rd w w.heap.size 2 A n (pc xs)) (hn : n ≤ 1048576) :
    Calls Try.prog 26 #[.slice A n c] w fun e w' => e = .returned (.int .i64 (ratBot xs)) ∧ Below w.heap.size w w' := by
  have T := Lib.hid (sTrainRatio A n c xs w h hn)
  clear h
  unfold ratV at T
  go_enter Try.func26, Try.ntmps26
  go_wp2_with (go_at_call 20; refine (T.out).mono ?_; rintro e w1 ⟨rfl, hb1⟩)
  go_ret
  exact ⟨rfl, hb1⟩

end Go.Proofs.Ytiecjmnaphfeaaa
