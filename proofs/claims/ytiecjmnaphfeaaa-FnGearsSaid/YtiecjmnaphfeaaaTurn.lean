/-
  TurnTrain of impl and of spec: the train turned around, as a slice of their own.
-/
import Derived.Test.YtiecjmnaphfeaaaTrain
import Derived.Test.YtiecjmnaphfeaaaMarkGear
import Derived.Deep.RegionHeld3
namespace Go.Proofs.Ytiecjmnaphfeaaa
open Go.RowKit

def turnV (xs : List (Int × Int)) : List (Int × Int) := if trainB xs = true then swapL xs else []
theorem fnExactTurnTrain_small {xs : List (Int × Int)} : (turnV xs).length ≤ 1048576 := by
  unfold turnV
  split
  · rename_i h
    have := (trainB_iff.1 h).1
    simp [swapL]
    omega
  · simp
theorem turnV_no {xs : List (Int × Int)} (h : trainB xs = false) : turnV xs = [] := by simp [turnV, h]
theorem turnV_yes {xs : List (Int × Int)} (h : trainB xs = true) : turnV xs = swapL xs := by simp [turnV, h]
theorem swap_drop {xs : List (Int × Int)} {k : Nat} {x y : Int} (h : xs[k]? = some (x, y)) : swapL (xs.drop k) = swapL (xs.drop (k + 1)) ++ [(y, x)] := by
  obtain ⟨hk, he⟩ := List.getElem?_eq_some_iff.1 h
  rw [List.drop_eq_getElem_cons hk, he]
  simp [swapL]

set_option maxHeartbeats 1000000 in
theorem iTurnTrain (A : Option Addr) (n c : Nat) (xs : List (Int × Int)) (w : World) (h : Rd w w.heap.size 2 A n (pc xs)) (hn : n ≤ 1048576) :
    Calls Try.prog 29 #[.slice A n c] w (MadeP w (turnV xs)) := by
  have hlen := h.pair
  have H := Lib.hid h
  have HL := Lib.hid hlen
  clear h hlen
  cases hq : trainB xs
  · rw [turnV_no hq]
    have RV := Lib.hid (rat_not hq)
    have hn1 : (1 : Int) ≤ n := by
      have := HL.out
      by_cases e : n = 0
      · obtain rfl : xs = [] := List.eq_nil_of_length_eq_zero (by omega)
        simp [trainB] at hq
      · omega
    clear hq
    go_enter Try.func29, Try.ntmps29
    go_wp2_with (go_at_call 22; refine (iTrainRatio _ _ _ _ _ H.out hn).mono ?_; rintro e w1 ⟨rfl, hb1⟩; rw [RV.out])
    go_ret
    exact madeP_nil _ _ hb1
  rw [turnV_yes hq]
  have hp := rat_pos hq
  have h4 : (n : Int) ≤ 4 := by have := (trainB_iff.1 hq).1; have := HL.out; omega
  obtain ⟨a, b, hv, ha, ha2⟩ : ∃ a b, ratV xs = .tuple #[.int .i64 a, .int .i64 b] ∧ 1 ≤ a ∧ a ≤ 207360000 := ⟨_, _, rfl, hp.1, hp.2.1⟩
  have RV := Lib.hid hv
  have ha3 : (a == 0) = false := by simp; omega
  clear hv hp hq
  go_enter Try.func29, Try.ntmps29
  go_wp2_with (go_at_call 22; refine (iTrainRatio _ _ _ _ _ H.out hn).mono ?_; rintro e w1 ⟨rfl, hb1⟩; rw [RV.out])
  go_loopw [5, 6] (fun v i wr => ∃ k : Nat, k ≤ n ∧ i = .int .i64 ((k : Int) - 1) ∧ wr.ownsRow w.heap.size 25 2 v (n - k) (pc (swapL (xs.drop k))) ∧ Below w.heap.size w wr) (fun _ i _ => (intOf i + 1).toNat)
  case atStart => exact ⟨n, Nat.le_refl _, rfl, by rw [List.drop_of_length_le (by rw [HL.out]; omega)]; simpa [swapL, pc] using World.ownsRow_made w1 #[] 0 hb1.size (by unfold maxLen; omega) (by simp), hb1.alloc hb1.size _⟩
  case round =>
    obtain ⟨k, hk, rfl, hown, hbl⟩ := hrel
    by_cases hlt : (1 : Int) ≤ k
    · obtain ⟨j, rfl⟩ : ∃ j, k = j + 1 := ⟨k - 1, by omega⟩
      obtain ⟨bb, o, rfl, hbB, hcell⟩ := H.out.pairAt (by omega)
      obtain ⟨⟨x, y⟩, hx⟩ : ∃ p, xs[j]? = some p := ⟨_, List.getElem?_eq_getElem (by rw [HL.out]; omega)⟩
      obtain ⟨g0, g1⟩ := hcell j _ hx
      have c0 : wr.cell? ⟨bb, o + j * 2, none⟩ = some (.int .i64 x) := (hbl.cell (p := ⟨bb, o + j * 2, none⟩) hbB).trans g0
      have c1 : wr.cell? ⟨bb, o + j * 2 + 1, none⟩ = some (.int .i64 y) := (hbl.cell (p := ⟨bb, o + j * 2 + 1, none⟩) hbB).trans g1
      have HS := Lib.hid (swap_drop hx)
      have hj : ((j + 1 : Nat) : Int) - 1 = j := by omega
      rw [hj]
      have hjn : (j : Int) < n := by omega
      have G0 := Lib.hid g0
      have G1 := Lib.hid g1
      clear hcell g0 g1 hx hj
      have HO := Lib.hid hown
      clear hown
      go_wp2
      have n0 := World.new_ne wr _ c0
      have n1 := World.new_ne wr _ c1
      go_region_held3 (fun w' => w'.cell? ⟨bb, o + j * 2, none⟩ = some (.int .i64 x) ∧ w'.cell? ⟨bb, o + j * 2 + 1, none⟩ = some (.int .i64 y)) (first | go_keep | exact ⟨k0, k1⟩) ((refine step_app_Gear (w := wr) (W := w) (by rfl) (.tmp 22) (.tmp 34) (by rfl) w.heap.size _ _ _ y x (by rfl) HO.out (by rfl) (by omega) hbl.size hbl ?_; intro v' w' hown' hg' hbl'; have k0 := (hbl'.cell (p := ⟨bb, o + j * 2, none⟩) hbB).trans G0.out; have k1 := (hbl'.cell (p := ⟨bb, o + j * 2 + 1, none⟩) hbB).trans G1.out))
      go_wp2
      have HO' := Lib.hid hown'
      clear hown' hg'
      go_roundw
      case rel => exact ⟨j, by omega, by go_num, by rw [HS.out, show n - j = n - (j + 1) + 1 by omega]; exact HO'.out, hbl'⟩
      case measure => simp [intOf] <;> omega
    · obtain rfl : k = 0 := by omega
      have HO := Lib.hid hown
      clear hown
      go_wp2
      go_ret
      exact madeP_of (by simpa using HO.out) hbl
set_option maxHeartbeats 1000000 in
theorem sTurnTrain (A : Option Addr) (n c : Nat) (xs : List (Int × Int)) (w : World) (h : Rd w w.heap.size 2 A n (pc xs)) (hn : n ≤ 1048576) :
    Calls Try.prog 28 #[.slice A n c] w (MadeP w (turnV xs)) := by
  have hlen := h.pair
  have H := Lib.hid h
  have HL := Lib.hid hlen
  clear h hlen
  cases hq : trainB xs
  · rw [turnV_no hq]
    have RV := Lib.hid (rat_not hq)
    have hn1 : (1 : Int) ≤ n := by
      have := HL.out
      by_cases e : n = 0
      · obtain rfl : xs = [] := List.eq_nil_of_length_eq_zero (by omega)
        simp [trainB] at hq
      · omega
    clear hq
    go_enter Try.func28, Try.ntmps28
    go_wp2_with fail
    have H1 := Lib.hid ((H.out.alloc (Nat.le_refl _) (.cells #[] 25)).more (B' := (w.alloc (.cells #[] 25)).heap.size) (by simp))
    refine (sTrainRatio _ _ _ _ _ H1.out hn).mono ?_
    rintro e w1 ⟨rfl, hb1⟩
    rw [RV.out]
    have OE := Lib.hid (own_below (own_empty w 25 2 w.heap.size (Nat.le_refl _)) hb1)
    go_wp2
    refine wp_loop_rounds 1 ?_
    rw [rounds_succ]
    go_wp2
    go_ret
    exact madeP_of (l := []) OE.out (((Below.refl _ _).alloc (Nat.le_refl _) _).trans (hb1.mono (by simp)))
  rw [turnV_yes hq]
  have hp := rat_pos hq
  have h4 : (n : Int) ≤ 4 := by have := (trainB_iff.1 hq).1; have := HL.out; omega
  obtain ⟨a, b, hv, ha, ha2⟩ : ∃ a b, ratV xs = .tuple #[.int .i64 a, .int .i64 b] ∧ 1 ≤ a ∧ a ≤ 207360000 := ⟨_, _, rfl, hp.1, hp.2.1⟩
  have RV := Lib.hid hv
  have ha3 : (a == 0) = false := by simp; omega
  clear hv hp hq
  go_enter Try.func28, Try.ntmps28
  go_wp2_with fail
  have H1 := Lib.hid ((H.out.alloc (Nat.le_refl _) (.cells #[] 25)).more (B' := (w.alloc (.cells #[] 25)).heap.size) (by simp))
  refine (sTrainRatio _ _ _ _ _ H1.out hn).mono ?_
  rintro e w1 ⟨rfl, hb1⟩
  rw [RV.out]
  have OE := Lib.hid (own_below (own_empty w 25 2 w.heap.size (Nat.le_refl _)) hb1)
  go_wp2
  go_loopw [3, 6] (fun v i wr => ∃ k : Nat, k ≤ n ∧ i = .int .i64 ((k : Int) - 1) ∧ wr.ownsRow w.heap.size 25 2 v (n - k) (pc (swapL (xs.drop k))) ∧ Below w.heap.size w wr) (fun _ i _ => (intOf i + 1).toNat)
  case atStart => exact ⟨n, Nat.le_refl _, rfl, by rw [List.drop_of_length_le (by rw [HL.out]; omega)]; simpa [swapL, pc] using OE.out, ((Below.refl _ _).alloc (Nat.le_refl _) _).trans (hb1.mono (by simp))⟩
  case round =>
    obtain ⟨k, hk, rfl, hown, hbl⟩ := hrel
    by_cases hlt : (1 : Int) ≤ k
    · obtain ⟨j, rfl⟩ : ∃ j, k = j + 1 := ⟨k - 1, by omega⟩
      obtain ⟨bb, o, rfl, hbB, hcell⟩ := H.out.pairAt (by omega)
      obtain ⟨⟨x, y⟩, hx⟩ : ∃ p, xs[j]? = some p := ⟨_, List.getElem?_eq_getElem (by rw [HL.out]; omega)⟩
      obtain ⟨g0, g1⟩ := hcell j _ hx
      have c0 : wr.cell? ⟨bb, o + j * 2, none⟩ = some (.int .i64 x) := (hbl.cell (p := ⟨bb, o + j * 2, none⟩) hbB).trans g0
      have c1 : wr.cell? ⟨bb, o + j * 2 + 1, none⟩ = some (.int .i64 y) := (hbl.cell (p := ⟨bb, o + j * 2 + 1, none⟩) hbB).trans g1
      have HS := Lib.hid (swap_drop hx)
      have hj : ((j + 1 : Nat) : Int) - 1 = j := by omega
      rw [hj]
      have hjn : (j : Int) < n := by omega
      have G0 := Lib.hid g0
      have G1 := Lib.hid g1
      clear hcell g0 g1 hx hj
      have HO := Lib.hid hown
      clear hown
      go_wp2
      have n0 := World.new_ne wr _ c0
      have n1 := World.new_ne wr _ c1
      go_region_held3 (fun w' => w'.cell? ⟨bb, o + j * 2, none⟩ = some (.int .i64 x) ∧ w'.cell? ⟨bb, o + j * 2 + 1, none⟩ = some (.int .i64 y)) (first | go_keep | exact ⟨k0, k1⟩) ((refine step_app_Gear (w := wr) (W := w) (by rfl) (.tmp 24) (.tmp 36) (by rfl) w.heap.size _ _ _ y x (by rfl) HO.out (by rfl) (by omega) hbl.size hbl ?_; intro v' w' hown' hg' hbl'; have k0 := (hbl'.cell (p := ⟨bb, o + j * 2, none⟩) hbB).trans G0.out; have k1 := (hbl'.cell (p := ⟨bb, o + j * 2 + 1, none⟩) hbB).trans G1.out))
      go_wp2
      have HO' := Lib.hid hown'
      clear hown' hg'
      go_roundw
      case rel => exact ⟨j, by omega, by go_num, by rw [HS.out, show n - j = n - (j + 1) + 1 by omega]; exact HO'.out, hbl'⟩
      case measure => simp [intOf] <;> omega
    · obtain rfl : k = 0 := by omega
      have HO := Lib.hid hown
      clear hown
      go_wp2
      go_ret
      exact madeP_of (by simpa using HO.out) hbl

end Go.Proofs.Ytiecjmnaphfeaaa
