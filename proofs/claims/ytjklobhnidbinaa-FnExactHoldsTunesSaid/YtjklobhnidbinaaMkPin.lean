/-
  The laws' own helper on slices of Pin: markPinS writes k, k+1, .. into a row of at most 1048576 elements.
-/
import Derived.Test.YtjklobhnidbinaaAppPin
namespace Go.Proofs.Ytjklobhnidbinaa
open Go.RowKit

def marksP (k : Int) (n : Nat) : List (Int × Int) := (List.range n).map fun i : Nat => (k + 2 * (i : Int), k + 2 * (i : Int) + 1)
theorem marksP_length (k : Int) (n : Nat) : (marksP k n).length = n := by simp [marksP]
theorem marksP_get {k : Int} {n i : Nat} (h : i < n) : (marksP k n)[i]? = some (k + 2 * (i : Int), k + 2 * (i : Int) + 1) := by simp [marksP, h]
set_option maxHeartbeats 400000 in
theorem markPinS_any (A : Option Addr) (n c base : Nat) (k0 : Int) (xs : List (Int × Int)) (w : World) (h : w.ownsRow base 50 2 (.slice A n c) n (pc xs)) (hn : n ≤ 1048576) (hk : 0 ≤ k0 ∧ k0 ≤ 1000000000) :
    Calls Try.prog 35 #[.slice A n c, .int .i64 k0] w fun e w' => e = .returned (.int .i64 (k0 + 2 * n)) ∧ w'.ownsRow base 50 2 (.slice A n c) n (pc (marksP k0 n)) ∧ w.grownBy w' (Value.ownBlock (.slice A n c)) := by
  by_cases hn0 : (0 : Int) < n
  case neg =>
    obtain rfl : n = 0 := by omega
    have H := Lib.hid h
    clear h
    go_enter Try.func35, Try.ntmps35
    go_wp2
    go_loopw [1, 5] (fun s i wr => i = .int .i64 0 ∧ s = .int .i64 k0 ∧ wr = w) (fun _ i _ => 0)
    case atStart => exact ⟨rfl, rfl, rfl⟩
    case round =>
      obtain ⟨rfl, rfl, rfl⟩ := hrel
      go_wp2
      go_ret
      refine ⟨ret_int (by omega), ?_, grown_refl1 _ _⟩
      have := H.out
      rw [show pc xs = pc (marksP k0 0) by have := own_pair_len this; simp at this; subst this; rfl] at this
      exact this
  obtain ⟨g, cur, rfl, hbg, hB, hnc, hcm, hs, ht⟩ := own_get h (by omega)
  obtain ⟨hk0, hk1⟩ := hk
  have HB := Lib.hid hB
  have HS := Lib.hid hs
  have HT := Lib.hid ht
  have HC := Lib.hid hcm
  have hni : (n : Int) ≤ 1048576 := by omega
  clear hB hs ht h hcm
  go_enter Try.func35, Try.ntmps35
  go_wp2
  go_loopw [1, 5] (fun s i wr => ∃ (k : Nat) (cs : Array Value), k ≤ n ∧ i = .int .i64 k ∧ s = .int .i64 (k0 + 2 * k) ∧ Blk wr g 50 cs ∧ cs.size = c * 2 ∧ Hid (∀ j, j < k * 2 → cs[j]? = (pc (marksP k0 n))[j]?) ∧ w.grownBy wr (some g)) (fun _ i _ => n - (intOf i).toNat)
  case atStart => exact ⟨0, cur, Nat.zero_le _, rfl, by simp, HB.out, HS.out, fun j hj => by omega, grown_refl1 _ _⟩
  case round =>
    obtain ⟨k, cs, hk, rfl, rfl, hB, hs, hall, hgr⟩ := hrel
    have KB := Lib.hid hB
    have KS := Lib.hid hs
    clear hB hs
    by_cases hlt : (k : Int) < n
    · have c2 : ∃ u, wr.cell? ⟨g, k * 2, none⟩ = some u := ⟨cs[k * 2]'(by rw [KS.out]; omega), by rw [KB.out.cell (k * 2)]; simp⟩
      obtain ⟨u, c2⟩ := c2
      have f2 := KB.out.frozen (k * 2)
      have c3 : ∃ u, wr.cell? ⟨g, k * 2 + 1, none⟩ = some u := ⟨cs[k * 2 + 1]'(by rw [KS.out]; omega), by rw [KB.out.cell (k * 2 + 1)]; simp⟩
      obtain ⟨u3, c3⟩ := c3
      have f3 := KB.out.frozen (k * 2 + 1)
      go_wp2
      go_roundw
      case rel =>
        refine ⟨k + 1, _, by omega, by go_num, by go_num, (KB.out.set_ (k * 2) _).set_ (k * 2 + 1) _, by simp [KS.out], fun j hj => ?_, grown_trans (grown_trans hgr (grown_set1 _)) (grown_set1 _)⟩
        obtain ⟨p0, p1⟩ := pc_get (marksP k0 n) k _ (marksP_get (by omega))
        by_cases e1 : j = k * 2 + 1
        · subst e1
          rw [p1, Array.getElem?_setIfInBounds_self_of_lt (by simp [KS.out]; omega)]
        · rw [Array.getElem?_setIfInBounds_ne (by omega)]
          by_cases e0 : j = k * 2
          · subst e0
            rw [p0, Array.getElem?_setIfInBounds_self_of_lt (by rw [KS.out]; omega)]
          · rw [Array.getElem?_setIfInBounds_ne (by omega)]
            exact hall.out j (by omega)
      case measure => simp [intOf]; omega
    · obtain rfl : k = n := by omega
      go_wp2
      go_ret
      refine ⟨rfl, ⟨by rw [pc_length, marksP_length], Or.inr ⟨g, c, cs, rfl, hbg, KB.out, hnc, HC.out, KS.out, ?_⟩⟩, hgr⟩
      apply List.ext_getElem?
      intro j
      rw [List.getElem?_take]
      by_cases hj : j < k * 2
      · rw [if_pos hj, Array.getElem?_toList, hall.out j hj]
      · rw [if_neg hj, List.getElem?_eq_none (by rw [pc_length, marksP_length]; omega)]

end Go.Proofs.Ytjklobhnidbinaa
