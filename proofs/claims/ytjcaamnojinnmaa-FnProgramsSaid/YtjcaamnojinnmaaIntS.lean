/-
  The laws' own helpers on slices of int: a copy, and a comparison of two that hold the same numbers. A slice of at most 1048576 elements.
-/
import Derived.Test.YtjcaamnojinnmaaAid
import Derived.Test.YtjcaamnojinnmaaNum
namespace Go.Proofs.Ytjcaamnojinnmaa
open Go.RowKit

theorem infoInt : (Try.prog.info? 3).map (fun i => (i.zero, i.size, i.bytes)) = some (some (.int .i64 0), 1, 8) := by kernel_rfl

set_option maxHeartbeats 400000 in
theorem toIntS_any (A : Option Addr) (n c : Nat) (xs : List Int) (w : World) (h : Rd w w.heap.size 1 A n (xs.map (Value.int .i64))) (hn : n ≤ 1048576) :
    Calls Try.prog 11 #[.slice A n c] w (MadeS w 3 1 n (xs.map (Value.int .i64))) := by
  have hlen : xs.length = n := by simpa using h.1
  have hmk := run_make_row' (P := Try.prog) 23 3 (.int .i64 0) 8 Try.underlying23 infoInt rfl .i64 .i64 n (by omega) (by omega)
  have H := Lib.hid h
  have HL := Lib.hid hlen
  clear h hlen
  go_enter Try.func11, Try.ntmps11
  go_wp2
  clear hmk
  go_loopw [4] (fun i wr => ∃ (k : Nat) (cs : Array Value), k ≤ n ∧ i = .int .i64 k ∧ Blk wr w.heap.size 3 cs ∧ cs.size = n ∧ Hid (∀ j, j < k → cs[j]? = (xs.map (Value.int .i64))[j]?) ∧ Below w.heap.size w wr) (fun i _ => n - (intOf i).toNat)
  case atStart => exact ⟨0, _, Nat.zero_le _, rfl, Blk.new _ _ _, by simp [madeCells], fun j hj => by omega, (Below.refl _ _).alloc (Nat.le_refl _) _⟩
  case round =>
    obtain ⟨k, cs, hk, rfl, hB, hs, hall, hbl⟩ := hrel
    have HB := Lib.hid hB
    have HS := Lib.hid hs
    clear hB hs
    by_cases hlt : k < n
    · obtain ⟨b, o, rfl, hbB, hcell⟩ := H.out.cell (by omega)
      have hx : (xs.map (Value.int .i64))[k]? = some (.int .i64 (xs[k]'(by rw [HL.out]; exact hlt))) := by simp
      obtain ⟨x, hxe⟩ : ∃ x, x = xs[k]'(by rw [HL.out]; exact hlt) := ⟨_, rfl⟩
      rw [← hxe] at hx
      have c1 : wr.cell? ⟨b, o + k, none⟩ = some (.int .i64 x) := (hbl.cell (p := ⟨b, o + k, none⟩) hbB).trans (hcell k _ hx)
      have c2 : ∃ u, wr.cell? ⟨w.heap.size, k, none⟩ = some u := ⟨cs[k]'(by rw [HS.out]; exact hlt), by rw [HB.out.cell k]; simp⟩
      obtain ⟨u, c2⟩ := c2
      have f2 := HB.out.frozen k
      have HX := Lib.hid hx
      have hz := HB.out.lt
      clear hx hxe hcell
      go_wp2
      go_roundw
      case rel =>
        refine ⟨k + 1, _, by omega, by go_num, HB.out.set_ k _, by simp [HS.out], fun j hj => ?_, hbl.setCell (Nat.le_refl _) _⟩
        by_cases hjk : j = k
        · subst hjk
          rw [HX.out, Array.getElem?_setIfInBounds_self_of_lt (by rw [HS.out]; exact hlt)]
        · rw [Array.getElem?_setIfInBounds_ne (by omega)]
          exact hall.out j (by omega)
      case measure => simp [intOf]; omega
    · obtain rfl : k = n := by omega
      go_wp2
      go_ret
      refine ⟨_, _, rfl, own_of_blk HB.out (by rw [HS.out]; omega) (by unfold maxLen; omega) (Nat.le_refl _) ?_, hbl⟩
      apply List.ext_getElem?
      intro j
      by_cases hj : j < k
      · rw [Array.getElem?_toList]
        exact hall.out j hj
      · rw [List.getElem?_eq_none (by simp [HS.out]; omega), List.getElem?_eq_none (by simp [HL.out]; omega)]

set_option maxHeartbeats 400000 in
theorem eqIntS_same (A A' : Option Addr) (n c c' : Nat) (xs : List Int) (w : World) (h : Rd w w.heap.size 1 A n (xs.map (Value.int .i64))) (h' : Rd w w.heap.size 1 A' n (xs.map (Value.int .i64))) (hn : n ≤ 9223372036854775807) :
    Calls Try.prog 14 #[.slice A n c, .slice A' n c'] w fun e w' => e = .returned (.bool true) ∧ Below w.heap.size w w' := by
  have hlen : xs.length = n := by simpa using h.1
  have H := Lib.hid h
  have H' := Lib.hid h'
  have HL := Lib.hid hlen
  clear h hlen h'
  go_enter Try.func14, Try.ntmps14
  go_wp2
  go_loopw [5] (fun i wr => ∃ k : Nat, k ≤ n ∧ i = .int .i64 k ∧ Below w.heap.size w wr) (fun i _ => n - (intOf i).toNat)
  case atStart => exact ⟨0, Nat.zero_le _, rfl, Below.refl _ _⟩
  case round =>
    obtain ⟨k, hk, rfl, hbl⟩ := hrel
    by_cases hlt : k < n
    · obtain ⟨b, o, rfl, hbB, hcell⟩ := H.out.cell (by omega)
      obtain ⟨b', o', rfl, hbB', hcell'⟩ := H'.out.cell (by omega)
      have hx : (xs.map (Value.int .i64))[k]? = some (.int .i64 (xs[k]'(by rw [HL.out]; exact hlt))) := by simp
      obtain ⟨x, hxe⟩ : ∃ x, x = xs[k]'(by rw [HL.out]; exact hlt) := ⟨_, rfl⟩
      rw [← hxe] at hx
      have c1 : wr.cell? ⟨b, o + k, none⟩ = some (.int .i64 x) := (hbl.cell (p := ⟨b, o + k, none⟩) hbB).trans (hcell k _ hx)
      have c2 : wr.cell? ⟨b', o' + k, none⟩ = some (.int .i64 x) := (hbl.cell (p := ⟨b', o' + k, none⟩) hbB').trans (hcell' k _ hx)
      have hi : (k : Int) < (n : Int) := by omega
      clear hx hxe hcell hcell'
      go_wp2
      go_quiet (fail)
      go_wp2
      go_roundw
      case rel => exact ⟨k + 1, by omega, by go_num, hbl.trans (Go.Joins.below_draws _ _ _)⟩
      case measure => simp [intOf]; omega
    · obtain rfl : k = n := by omega
      go_wp2
      go_ret
      exact ⟨rfl, hbl⟩

end Go.Proofs.Ytjcaamnojinnmaa
