/-
  The laws' own helpers markIntS and heldIntS: the one writes k, k+1, .. into a row, the other finds them there. A row of at most 1048576 elements.
-/
import Derived.Test.YtjcaamnojinnmaaIntS
import Derived.Test.YtjcaamnojinnmaaOwnAid
namespace Go.Proofs.Ytjcaamnojinnmaa
open Go.RowKit

def marks (k : Int) (n : Nat) : List Int := (List.range n).map fun i : Nat => k + (i : Int)
theorem marks_length (k : Int) (n : Nat) : (marks k n).length = n := by simp [marks]
theorem marks_get {k : Int} {n i : Nat} (h : i < n) : (marks k n)[i]? = some (k + (i : Int)) := by simp [marks, h]

set_option maxHeartbeats 400000 in
theorem markIntS_any (A : Option Addr) (n c base : Nat) (k0 : Int) (xs : List Int) (w : World) (h : w.ownsRow base 3 1 (.slice A n c) n (xs.map (Value.int .i64))) (hn : n ≤ 1048576) (hk : 0 ≤ k0 ∧ k0 ≤ 1000000000) :
    Calls Try.prog 18 #[.slice A n c, .int .i64 k0] w fun e w' => e = .returned (.int .i64 (k0 + n)) ∧ w'.ownsRow base 3 1 (.slice A n c) n ((marks k0 n).map (Value.int .i64)) ∧ w.grownBy w' (Value.ownBlock (.slice A n c)) := by
  by_cases hn0 : (0 : Int) < n
  case neg =>
    obtain rfl : n = 0 := by omega
    have H := Lib.hid h
    clear h
    go_enter Try.func18, Try.ntmps18
    go_wp2
    go_loopw [1, 5] (fun s i wr => i = .int .i64 0 ∧ s = .int .i64 k0 ∧ wr = w) (fun _ i _ => 0)
    case atStart => exact ⟨rfl, rfl, rfl⟩
    case round =>
      obtain ⟨rfl, rfl, rfl⟩ := hrel
      go_wp2
      go_ret
      refine ⟨ret_int (by omega), ?_, grown_refl1 _ _⟩
      have := H.out
      rw [show xs.map (Value.int .i64) = (marks k0 0).map (Value.int .i64) by have := this.1; simp at this; subst this; rfl] at this
      exact this
  obtain ⟨g, cur, rfl, hbg, hB, hnc, hcm, hs, ht⟩ := own_get h (by omega)
  obtain ⟨hk0, hk1⟩ := hk
  have HB := Lib.hid hB
  have HS := Lib.hid (show cur.size = c by omega)
  have HT := Lib.hid ht
  have HC := Lib.hid hcm
  have hni : (n : Int) ≤ 1048576 := by omega
  clear hB hs ht h hcm
  go_enter Try.func18, Try.ntmps18
  go_wp2
  go_loopw [1, 5] (fun s i wr => ∃ (k : Nat) (cs : Array Value), k ≤ n ∧ i = .int .i64 k ∧ s = .int .i64 (k0 + k) ∧ Blk wr g 3 cs ∧ cs.size = c ∧ Hid (∀ j, cs[j]? = if j < k then some (.int .i64 (k0 + (j : Int))) else cur[j]?) ∧ w.grownBy wr (some g)) (fun _ i _ => n - (intOf i).toNat)
  case atStart => exact ⟨0, cur, Nat.zero_le _, rfl, by simp, HB.out, HS.out, fun j => by simp, grown_refl1 _ _⟩
  case round =>
    obtain ⟨k, cs, hk, rfl, rfl, hB, hs, hall, hgr⟩ := hrel
    have KB := Lib.hid hB
    have KS := Lib.hid hs
    clear hB hs
    by_cases hlt : (k : Int) < n
    · have c2 : ∃ u, wr.cell? ⟨g, k, none⟩ = some u := ⟨cs[k]'(by rw [KS.out]; omega), by rw [KB.out.cell k]; simp⟩
      obtain ⟨u, c2⟩ := c2
      have f2 := KB.out.frozen k
      go_wp2
      go_roundw
      case rel =>
        refine ⟨k + 1, _, by omega, by go_num, by go_num, KB.out.set_ k _, by simp [KS.out], fun j => ?_, grown_trans hgr (grown_set1 _)⟩
        by_cases e : j = k
        · subst e
          rw [Array.getElem?_setIfInBounds_self_of_lt (by rw [KS.out]; omega), if_pos (by omega)]
        · rw [Array.getElem?_setIfInBounds_ne (by omega), hall.out j]
          by_cases h : j < k
          · rw [if_pos h, if_pos (by omega)]
          · rw [if_neg h, if_neg (by omega)]
      case measure => simp [intOf]; omega
    · obtain rfl : k = n := by omega
      go_wp2
      go_ret
      refine ⟨rfl, ⟨by simp [marks_length], Or.inr ⟨g, c, cs, rfl, hbg, KB.out, hnc, HC.out, by rw [KS.out]; omega, ?_⟩⟩, hgr⟩
      apply List.ext_getElem?
      intro j
      rw [List.getElem?_take]
      by_cases hj : j < k * 1
      · rw [if_pos hj, Array.getElem?_toList, hall.out j, if_pos (by omega), List.getElem?_map, marks_get (by omega)]
        rfl
      · rw [if_neg hj, List.getElem?_eq_none (by simp [marks_length]; omega)]

set_option maxHeartbeats 400000 in
theorem heldIntS_any (A : Option Addr) (n c : Nat) (k0 : Int) (w : World) (h : Rd w w.heap.size 1 A n ((marks k0 n).map (Value.int .i64))) (hn : n ≤ 1048576) (hk : 0 ≤ k0 ∧ k0 ≤ 1000000000) :
    Calls Try.prog 19 #[.slice A n c, .int .i64 k0] w fun e w' => e = .returned (.int .i64 (k0 + n)) ∧ Below w.heap.size w w' := by
  obtain ⟨hk0, hk1⟩ := hk
  have H := Lib.hid h
  have hni : (n : Int) ≤ 1048576 := by omega
  clear h
  go_enter Try.func19, Try.ntmps19
  go_wp2
  go_loopw [1, 5] (fun s i wr => ∃ (k : Nat), k ≤ n ∧ i = .int .i64 k ∧ s = .int .i64 (k0 + k) ∧ Below w.heap.size w wr) (fun _ i _ => n - (intOf i).toNat)
  case atStart => exact ⟨0, Nat.zero_le _, rfl, by simp, by (repeat (first | exact Below.refl _ _ | assumption | refine Below.alloc ?_ (by first | omega | (simp <;> omega)) _ | refine Below.setCell ?_ (by first | omega | (simp <;> omega)) _ | refine Below.drew ?_ | refine Below.trans ?_ (Below.mono (by assumption) (by first | omega | (simp <;> omega)))))⟩
  case round =>
    obtain ⟨k, hk, rfl, rfl, hbl⟩ := hrel
    by_cases hlt : (k : Int) < n
    · obtain ⟨b, o, rfl, hbB, hcell⟩ := H.out.cell (by omega)
      have c1 : wr.cell? ⟨b, o + k, none⟩ = some (.int .i64 (k0 + k)) := (hbl.cell (p := ⟨b, o + k, none⟩) hbB).trans (hcell k _ (by simp [marks_get (show k < n by omega)]))
      clear hcell
      go_wp2
      go_roundw
      case rel => exact ⟨k + 1, by omega, by go_num, by go_num, hbl⟩
      case measure => simp [intOf]; omega
    · obtain rfl : k = n := by omega
      go_wp2
      go_ret
      exact ⟨rfl, hbl⟩

end Go.Proofs.Ytjcaamnojinnmaa
