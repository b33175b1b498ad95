/-
  The reference's moving of a valid tune whose moved notes are a valid tune too: l03Move, Slower, Later, Higher.
-/
import Derived.Test.YteidigbjllicpaaTuneDraw
import Derived.Deep.RegionHeld3
namespace Go.Proofs.Yteidigbjllicpaa
open Go.RowKit

def mvP (a b c : Int) (p : Int × Int) : Int × Int := (p.1 * a + b, p.2 + c)
def moveL (xs : List (Int × Int)) (a b c : Int) : List (Int × Int) := xs.map (mvP a b c)
theorem moveL_len (xs : List (Int × Int)) (a b c : Int) : (moveL xs a b c).length = xs.length := by simp [moveL]
theorem move_take {xs : List (Int × Int)} {k : Nat} {p : Int × Int} (a b c : Int) (h : xs[k]? = some p) : moveL (xs.take (k + 1)) a b c = moveL (xs.take k) a b c ++ [mvP a b c p] := by
  rw [take_note h]
  simp [moveL]
theorem nt_move {xs : List (Int × Int)} {k : Nat} (a b c : Int) (h : k < xs.length) : nt (moveL xs a b c) k = mvP a b c (nt xs k) := by
  unfold nt moveL
  rw [List.getD_eq_getElem?_getD, List.getElem?_map, List.getD_eq_getElem?_getD, List.getElem?_eq_getElem h]
  rfl
theorem move_tune {xs : List (Int × Int)} {a b c : Int} (h : tuneB xs = true) (ha : 1 ≤ a) (hb : ∀ p ∈ xs, 0 ≤ p.1 * a + b ∧ p.1 * a + b ≤ 1000 ∧ 0 ≤ p.2 + c ∧ p.2 + c ≤ 60) : tuneB (moveL xs a b c) = true := by
  unfold tuneB tuneTo
  rw [decide_eq_true (by rw [moveL_len]; exact tune_len h), Bool.and_true, List.all_eq_true]
  intro k hk
  have hk := List.mem_range.1 hk
  rw [moveL_len] at hk
  have hm := hb _ (List.getElem_mem hk)
  have e0 : nt xs k = xs[k] := nt_of (List.getElem?_eq_getElem hk)
  have e : (moveL xs a b c).getD k (0, 0) = mvP a b c xs[k] := (nt_move a b c hk).trans (by rw [e0])
  unfold stepN
  rw [e]
  unfold mvP
  simp only
  rw [inB_true ⟨hm.1, hm.2.1⟩, inB_true ⟨hm.2.2.1, hm.2.2.2⟩]
  by_cases h0 : k = 0
  · simp [h0]
  · obtain ⟨j, rfl⟩ : ∃ j, k = j + 1 := ⟨k - 1, by omega⟩
    have hl := tune_less h hk
    have e' : (moveL xs a b c).getD j (0, 0) = mvP a b c (nt xs j) := nt_move a b c (by omega)
    rw [show j + 1 - 1 = j by omega, e']
    rw [e0] at hl
    generalize nt xs j = p at *
    generalize xs[j + 1] = q at *
    simp only [lessN, decide_eq_true_eq] at hl
    unfold lessN mvP
    rw [Bool.true_and, Bool.true_and, Bool.or_eq_true, decide_eq_true_eq]
    simp only
    right
    rcases hl with h1 | ⟨h1, h2⟩
    · left
      have := Int.mul_lt_mul_of_pos_right h1 (show 0 < a by omega)
      omega
    · right
      rw [h1]
      exact ⟨rfl, by omega⟩

/-- a slice of notes that a call made, and true -/
def MadeT (w : World) (l : List (Int × Int)) (E : Ending) (w' : World) : Prop := ∃ A c, E = .returned (.tuple #[.slice A l.length c, .bool true]) ∧ w'.ownsRow w.heap.size 48 2 (.slice A l.length c) l.length (pc l) ∧ Below w.heap.size w w'

set_option maxHeartbeats 1000000 in
theorem l03Move_yes (A : Option Addr) (n cp : Nat) (xs : List (Int × Int)) (a b c : Int) (w : World) (h : Rd w w.heap.size 2 A n (pc xs)) (ht : tuneB xs = true) (ht2 : tuneB (moveL xs a b c) = true) (hb : -1000 ≤ b ∧ b ≤ 1000) (hc : -60 ≤ c ∧ c ≤ 60) :
    Calls Try.prog 49 #[.slice A n cp, .int .i64 a, .int .i64 b, .int .i64 c] w (MadeT w (moveL xs a b c)) := by
  have hlen := h.pair
  have hn40 : n ≤ 40 := by rw [← hlen]; exact tune_len ht
  have H := Lib.hid h
  have HL := Lib.hid hlen
  have HT := Lib.hid (ht)
  have HT2 := Lib.hid ht2
  obtain ⟨hb0, hb1⟩ := hb
  obtain ⟨hc0, hc1⟩ := hc
  have TH := Lib.hid (fun w h => ((sTuneOk A n cp xs w h (by omega)).mono fun e w' (h : _ ∧ _) => (⟨by rw [h.1, ht], h.2⟩ : e = .returned (.bool true) ∧ Below w.heap.size w w')))
  clear h hlen ht ht2
  go_enter Try.func49, Try.ntmps49
  go_wp2_with (go_at_call 41; refine (TH.out _ H.out).mono ?_; rintro e w1 ⟨rfl, hb1'⟩)
  have OE := Lib.hid (own_empty w1 48 2 w.heap.size hb1'.size)
  have BE := Lib.hid (hb1'.alloc hb1'.size (.cells #[] 48))
  have hni : (n : Int) ≤ 40 := by omega
  clear hb1'
  go_loopw [10, 11] (fun v i wr => ∃ k : Nat, k ≤ n ∧ i = .int .i64 k ∧ wr.ownsRow w.heap.size 48 2 v k (pc (moveL (xs.take k) a b c)) ∧ Below w.heap.size w wr) (fun _ i _ => n - (intOf i).toNat)
  case atStart => exact ⟨0, Nat.zero_le _, rfl, OE.out, BE.out⟩
  case round =>
    obtain ⟨k, hk, rfl, hown, hbl⟩ := hrel
    by_cases hlt : (k : Int) < n
    · obtain ⟨bb, o, rfl, hbB, hcell⟩ := H.out.pairAt (by omega)
      obtain ⟨⟨x, y⟩, hx⟩ : ∃ p, xs[k]? = some p := ⟨_, List.getElem?_eq_getElem (by rw [HL.out]; omega)⟩
      obtain ⟨g0, g1⟩ := hcell k _ hx
      have hst := move_take a b c hx
      have a1 := tune_at HT.out (show k < xs.length by rw [HL.out]; omega)
      rw [nt_of hx] at a1
      have a2 := tune_at HT2.out (show k < (moveL xs a b c).length by rw [moveL_len, HL.out]; omega)
      rw [nt_move _ _ _ (by rw [HL.out]; omega), nt_of hx] at a2
      obtain ⟨a10, a11, a12, a13⟩ := a1
      obtain ⟨a20, a21, a22, a23⟩ := a2
      simp only [mvP] at a10 a11 a12 a13 a20 a21 a22 a23
      have hw1 : IntKind.i64.wrap (x * a) = x * a := IntWalk.i64_in _ (by omega)
      have hw2 : IntKind.i64.wrap (x * a + b) = x * a + b := IntWalk.i64_in _ (by omega)
      have hw3 : IntKind.i64.wrap (y + c) = y + c := IntWalk.i64_in _ (by omega)
      have G0 := Lib.hid g0
      have G1 := Lib.hid g1
      have c0 : wr.cell? ⟨bb, o + k * 2, none⟩ = some (.int .i64 x) := (hbl.cell (p := ⟨bb, o + k * 2, none⟩) hbB).trans g0
      have c1 : wr.cell? ⟨bb, o + k * 2 + 1, none⟩ = some (.int .i64 y) := (hbl.cell (p := ⟨bb, o + k * 2 + 1, none⟩) hbB).trans g1
      have n0 := World.new_ne wr _ c0
      have n1 := World.new_ne wr _ c1
      have HST := Lib.hid hst
      have HO := Lib.hid hown
      clear hx hst g0 g1 hcell hown
      go_wp2
      go_region_held3 (fun w' => w'.cell? ⟨bb, o + k * 2, none⟩ = some (.int .i64 x) ∧ w'.cell? ⟨bb, o + k * 2 + 1, none⟩ = some (.int .i64 y)) (first | go_keep | exact ⟨k0, k1⟩) ((refine step_app_Note (w := wr) (W := w) (by rfl) (.tmp 24) (.tmp 42) (by rfl) w.heap.size _ _ _ (x * a + b) (y + c) (by rfl) HO.out (by rfl) (by omega) hbl.size hbl ?_; intro v' w' hown' hg' hbl'; have k0 := (hbl'.cell (p := ⟨bb, o + k * 2, none⟩) hbB).trans G0.out; have k1 := (hbl'.cell (p := ⟨bb, o + k * 2 + 1, none⟩) hbB).trans G1.out))
      go_wp2
      have HO' := Lib.hid hown'
      clear hown' hg'
      go_roundw
      case rel => exact ⟨k + 1, by omega, by go_num, by rw [HST.out]; exact HO'.out, hbl'⟩
      case measure => simp [intOf] <;> omega
    · obtain rfl : k = n := by omega
      have e : moveL (xs.take k) a b c = moveL xs a b c := by rw [List.take_of_length_le (by rw [HL.out]; omega)]
      rw [e] at hown
      obtain ⟨A', c', rfl⟩ := own_shape hown
      have HO := Lib.hid hown
      have hk := moveL_len xs a b c
      rw [HL.out] at hk
      have HK := Lib.hid hk
      have hz := hbl.size
      clear hown e hk
      go_wp2_with fail
      refine ((sTuneOk _ _ _ (moveL xs a b c) _ (Rd.of_own HO.out) (by omega))).mono ?_
      rintro e w2 ⟨rfl, hb2⟩
      rw [HT2.out]
      have O2 := Lib.hid (own_below HO.out hb2)
      have b2 := hbl.trans (hb2.mono hz)
      go_wp2
      go_ret2
      refine ⟨A', c', ?_, ?_, b2⟩
      · rw [HK.out]
        rfl
      · rw [HK.out]; exact O2.out

end Go.Proofs.Yteidigbjllicpaa
