/-
  The laws' own helpers on slices of Pin: markPinS writes k, k+1, .. into a row, heldPinS finds them there. A row of at most 1048576 elements.
-/
import Derived.Test.YtjklobhnidbinaaMkPin
namespace Go.Proofs.Ytjklobhnidbinaa
open Go.RowKit

set_option maxHeartbeats 400000 in
theorem heldPinS_any (A : Option Addr) (n c : Nat) (k0 : Int) (w : World) (h : Rd w w.heap.size 2 A n (pc (marksP k0 n))) (hn : n ≤ 1048576) (hk : 0 ≤ k0 ∧ k0 ≤ 1000000000) :
    Calls Try.prog 36 #[.slice A n c, .int .i64 k0] w fun e w' => e = .returned (.int .i64 (k0 + 2 * n)) ∧ Below w.heap.size w w' := by
  obtain ⟨hk0, hk1⟩ := hk
  have H := Lib.hid h
  have hni : (n : Int) ≤ 1048576 := by omega
  clear h
  go_enter Try.func36, Try.ntmps36
  go_wp2
  go_loopw [1, 5] (fun s i wr => ∃ (k : Nat), k ≤ n ∧ i = .int .i64 k ∧ s = .int .i64 (k0 + 2 * k) ∧ Below w.heap.size w wr) (fun _ i _ => n - (intOf i).toNat)
  case atStart => exact ⟨0, Nat.zero_le _, rfl, by simp, by (repeat (first | exact Below.refl _ _ | assumption | refine Below.alloc ?_ (by first | omega | (simp <;> omega)) _ | refine Below.setCell ?_ (by first | omega | (simp <;> omega)) _ | refine Below.drew ?_ | refine Below.trans ?_ (Below.mono (by assumption) (by first | omega | (simp <;> omega)))))⟩
  case round =>
    obtain ⟨k, hk, rfl, rfl, hbl⟩ := hrel
    by_cases hlt : (k : Int) < n
    · obtain ⟨b, o, rfl, hbB, hcell⟩ := H.out.pairAt (by omega)
      obtain ⟨g0, g1⟩ := hcell k _ (marksP_get (show k < n by omega))
      have c0 : wr.cell? ⟨b, o + k * 2, none⟩ = some (.int .i64 (k0 + 2 * k)) := (hbl.cell (p := ⟨b, o + k * 2, none⟩) hbB).trans g0
      have c1 : wr.cell? ⟨b, o + k * 2 + 1, none⟩ = some (.int .i64 (k0 + 2 * k + 1)) := (hbl.cell (p := ⟨b, o + k * 2 + 1, none⟩) hbB).trans g1
      clear hcell g0 g1
      go_wp2
      go_roundw
      case rel => exact ⟨k + 1, by omega, by go_num, by go_num, hbl⟩
      case measure => simp [intOf]; omega
    · obtain rfl : k = n := by omega
      go_wp2
      go_ret
      exact ⟨rfl, hbl⟩

end Go.Proofs.Ytjklobhnidbinaa
