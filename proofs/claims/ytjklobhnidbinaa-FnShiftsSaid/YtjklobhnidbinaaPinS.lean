/-
  The laws' own helpers on slices of Pin: a copy, a comparison of two that hold the same, the bound on the length. A slice of at most 1048576 elements.
-/
import Derived.Test.YtjklobhnidbinaaPairs
import Derived.Deep.RegionWith
namespace Go.Proofs.Ytjklobhnidbinaa
open Go.RowKit

theorem to1Pin (a b : Int) (w : World) :
    Calls Try.prog 47 #[.agg #[.int .i64 a, .int .i64 b]] w fun e w' => e = .returned (.agg #[.int .i64 a, .int .i64 b]) ∧ Below w.heap.size w w' := by
  go_enter Try.func47, Try.ntmps47
  go_wp2
  refine bodyPost_ret (v := .agg #[.int .i64 a, .int .i64 b]) (by simp [results, Try.results47, go_sem]) rfl ⟨rfl, ?_⟩
  (repeat (first | exact Below.refl _ _ | assumption | refine Below.alloc ?_ (by first | omega | (simp <;> omega)) _ | refine Below.setCell ?_ (by first | omega | (simp <;> omega)) _ | refine Below.drew ?_ | refine Below.trans ?_ (Below.mono (by assumption) (by first | omega | (simp <;> omega)))))
theorem eq1Pin (a b : Int) (w : World) :
    Calls Try.prog 48 #[.agg #[.int .i64 a, .int .i64 b], .agg #[.int .i64 a, .int .i64 b]] w fun e w' => e = .returned (.bool true) ∧ Below w.heap.size w w' := by
  go_enter Try.func48, Try.ntmps48
  go_wp2
  go_ret
  exact ⟨rfl, by (repeat (first | exact Below.refl _ _ | assumption | refine Below.alloc ?_ (by first | omega | (simp <;> omega)) _ | refine Below.setCell ?_ (by first | omega | (simp <;> omega)) _ | refine Below.drew ?_ | refine Below.trans ?_ (Below.mono (by assumption) (by first | omega | (simp <;> omega)))))⟩

theorem infoPin : (Try.prog.info? 50).map (fun i => (i.zero, i.size, i.bytes)) = some (some (.agg #[.int .i64 0, .int .i64 0]), 2, 16) := by kernel_rfl

theorem make_Pin (n : Nat) (hn : n ≤ 1048576) (w : World) :
    (Instr.makeSlice 26 (.int .i64 (n : Int)) (.int .i64 (n : Int))).run Try.prog w = .ok (.slice (some ⟨w.heap.size, 0, none⟩) n n) (w.alloc (.cells (madeCells #[.int .i64 0, .int .i64 0] (n * 2)) 50)) := by
  obtain ⟨i0, hi, hz0, hz1, hz2⟩ := info_parts infoPin
  have hr := run_make (P := Try.prog) w 26 50 i0 _ Try.underlying26 hi hz0 .i64 .i64 n n (by omega) (by omega) (by rw [hz2]; omega) (by omega)
  simp only [Int.toNat_natCast] at hr
  rw [hr, hz1]
  rfl

set_option maxHeartbeats 400000 in
theorem toPinS_any (A : Option Addr) (n c : Nat) (xs : List (Int × Int)) (w : World) (h : Rd w w.heap.size 2 A n (pc xs)) (hn : n ≤ 1048576) :
    Calls Try.prog 32 #[.slice A n c] w (MadeS w 50 2 n (pc xs)) := by
  have hlen := h.pair
  have hmk := make_Pin n hn
  have H := Lib.hid h
  have HL := Lib.hid hlen
  clear h hlen
  go_enter Try.func32, Try.ntmps32
  go_wp2
  clear hmk
  go_loopw [4] (fun i wr => ∃ (k : Nat) (cs : Array Value), k ≤ n ∧ i = .int .i64 k ∧ Blk wr w.heap.size 50 cs ∧ cs.size = n * 2 ∧ Hid (∀ j, j < k * 2 → cs[j]? = (pc xs)[j]?) ∧ Below w.heap.size w wr) (fun i _ => n - (intOf i).toNat)
  case atStart => exact ⟨0, _, Nat.zero_le _, rfl, Blk.new _ _ _, by simp [madeCells], fun j hj => by omega, (Below.refl _ _).alloc (Nat.le_refl _) _⟩
  case round =>
    obtain ⟨k, cs, hk, rfl, hB, hs, hall, hbl⟩ := hrel
    have HB := Lib.hid hB
    have HS := Lib.hid hs
    clear hB hs
    by_cases hlt : (k : Int) < n
    · obtain ⟨b, o, rfl, hbB, hcell⟩ := H.out.pairAt (by omega)
      obtain ⟨⟨x, y⟩, hx⟩ : ∃ p, xs[k]? = some p := ⟨_, List.getElem?_eq_getElem (by rw [HL.out]; omega)⟩
      obtain ⟨g0, g1⟩ := hcell k _ hx
      have c0 : wr.cell? ⟨b, o + k * 2, none⟩ = some (.int .i64 x) := (hbl.cell (p := ⟨b, o + k * 2, none⟩) hbB).trans g0
      have c1 : wr.cell? ⟨b, o + k * 2 + 1, none⟩ = some (.int .i64 y) := (hbl.cell (p := ⟨b, o + k * 2 + 1, none⟩) hbB).trans g1
      have HX := Lib.hid hx
      have hz := HB.out.lt
      clear hx g0 g1 hcell
      go_wp2_with fail
      refine (to1Pin _ _ _).mono ?_
      rintro e w1 ⟨rfl, hb1⟩
      have kb := HB.out.below hb1 hz
      have d0 : ∃ u, w1.cell? ⟨w.heap.size, k * 2, none⟩ = some u := ⟨cs[k * 2]'(by rw [HS.out]; omega), by rw [kb.cell (k * 2)]; simp⟩
      have d1 : ∃ u, w1.cell? ⟨w.heap.size, k * 2 + 1, none⟩ = some u := ⟨cs[k * 2 + 1]'(by rw [HS.out]; omega), by rw [kb.cell (k * 2 + 1)]; simp⟩
      obtain ⟨u0, d0⟩ := d0
      obtain ⟨u1, d1⟩ := d1
      have f0 := kb.frozen (k * 2)
      have f1 := kb.frozen (k * 2 + 1)
      have KB := Lib.hid kb
      have bb := hbl.trans (hb1.mono hbl.size)
      clear kb
      go_wp2
      go_roundw
      case rel =>
        refine ⟨k + 1, _, by omega, by go_num, (KB.out.set_ (k * 2) _).set_ (k * 2 + 1) _, by simp [HS.out], fun j hj => ?_, (bb.setCell (Nat.le_refl _) _).setCell (Nat.le_refl _) _⟩
        obtain ⟨p0, p1⟩ := pc_get xs k _ HX.out
        by_cases e1 : j = k * 2 + 1
        · subst e1
          rw [p1, Array.getElem?_setIfInBounds_self_of_lt (by simp [HS.out]; omega)]
        · rw [Array.getElem?_setIfInBounds_ne (by omega)]
          by_cases e0 : j = k * 2
          · subst e0
            rw [p0, Array.getElem?_setIfInBounds_self_of_lt (by rw [HS.out]; omega)]
          · rw [Array.getElem?_setIfInBounds_ne (by omega)]
            exact hall.out j (by omega)
      case measure => simp [intOf]; omega
    · obtain rfl : k = n := by omega
      go_wp2
      go_ret
      refine ⟨_, _, rfl, own_of_blk HB.out (by rw [HS.out]) (by unfold maxLen; omega) (Nat.le_refl _) ?_, hbl⟩
      apply List.ext_getElem?
      intro j
      by_cases hj : j < k * 2
      · rw [Array.getElem?_toList]
        exact hall.out j hj
      · rw [List.getElem?_eq_none (by simp [HS.out]; omega), List.getElem?_eq_none (by rw [pc_length, HL.out]; omega)]

set_option maxHeartbeats 400000 in
theorem eqPinS_same (A A' : Option Addr) (n c c' : Nat) (xs : List (Int × Int)) (w : World) (h : Rd w w.heap.size 2 A n (pc xs)) (h' : Rd w w.heap.size 2 A' n (pc xs)) (hn : n ≤ 4611686018427387904) :
    Calls Try.prog 34 #[.slice A n c, .slice A' n c'] w fun e w' => e = .returned (.bool true) ∧ Below w.heap.size w w' := by
  have hlen := h.pair
  have H := Lib.hid h
  have H' := Lib.hid h'
  have HL := Lib.hid hlen
  clear h hlen h'
  go_enter Try.func34, Try.ntmps34
  go_wp2
  go_loopw [5] (fun i wr => ∃ k : Nat, k ≤ n ∧ i = .int .i64 k ∧ Below w.heap.size w wr) (fun i _ => n - (intOf i).toNat)
  case atStart => exact ⟨0, Nat.zero_le _, rfl, Below.refl _ _⟩
  case round =>
    obtain ⟨k, hk, rfl, hbl⟩ := hrel
    by_cases hlt : (k : Int) < n
    · obtain ⟨b, o, rfl, hbB, hcell⟩ := H.out.pairAt (by omega)
      obtain ⟨b', o', rfl, hbB', hcell'⟩ := H'.out.pairAt (by omega)
      obtain ⟨⟨x, y⟩, hx⟩ : ∃ p, xs[k]? = some p := ⟨_, List.getElem?_eq_getElem (by rw [HL.out]; omega)⟩
      obtain ⟨g0, g1⟩ := hcell k _ hx
      obtain ⟨g2, g3⟩ := hcell' k _ hx
      have c0 : wr.cell? ⟨b, o + k * 2, none⟩ = some (.int .i64 x) := (hbl.cell (p := ⟨b, o + k * 2, none⟩) hbB).trans g0
      have c1 : wr.cell? ⟨b, o + k * 2 + 1, none⟩ = some (.int .i64 y) := (hbl.cell (p := ⟨b, o + k * 2 + 1, none⟩) hbB).trans g1
      have c2 : wr.cell? ⟨b', o' + k * 2, none⟩ = some (.int .i64 x) := (hbl.cell (p := ⟨b', o' + k * 2, none⟩) hbB').trans g2
      have c3 : wr.cell? ⟨b', o' + k * 2 + 1, none⟩ = some (.int .i64 y) := (hbl.cell (p := ⟨b', o' + k * 2 + 1, none⟩) hbB').trans g3
      clear hx g0 g1 g2 g3 hcell hcell'
      go_wp2
      go_region_with ((go_at_call 48; refine (eq1Pin _ _ _).mono ?_; rintro e w1 ⟨rfl, hb1⟩))
      all_goals
        go_wp2
        go_roundw
        case rel => exact ⟨k + 1, by omega, by go_num, hbl.drew.trans (hb1.mono hbl.size)⟩
        case measure => simp [intOf]; omega
    · obtain rfl : k = n := by omega
      go_wp2
      go_ret
      exact ⟨rfl, hbl⟩

/-- the length taken off; -1 where it is too great -/
theorem szPinS_any (A : Option Addr) (n c : Nat) (m : Nat) (w : World) (hn : n ≤ 9223372036854775807) (hm : m ≤ 1048576) :
    Calls Try.prog 29 #[.slice A n c, .int .i64 m] w fun e w' => e = .returned (.int .i64 (if n ≤ m then (m : Int) - n else -1)) ∧ w = w' := by
  by_cases h : n ≤ m
  · rw [if_pos h]
    have hi : (n : Int) ≤ m := by omega
    clear h
    go_enter Try.func29, Try.ntmps29
    go_wp2
    go_ret
    exact ⟨rfl, rfl⟩
  · rw [if_neg h]
    have hi : (m : Int) < n := by omega
    clear h
    go_enter Try.func29, Try.ntmps29
    go_wp2
    go_ret
    exact ⟨rfl, rfl⟩

end Go.Proofs.Ytjklobhnidbinaa
