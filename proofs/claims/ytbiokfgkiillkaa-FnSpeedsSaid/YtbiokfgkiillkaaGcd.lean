/-
  The greatest common divisor, impl.gcd and spec.l10Gcd: what they return for two numbers from 0 on; they only draw.
-/
import Derived.Test.YtbiokfgkiillkaaAid
import Derived.Test.YtbiokfgkiillkaaNum
import Derived.Test.YtbiokfgkiillkaaGearMath
namespace Go.Proofs.Ytbiokfgkiillkaa
open Go.RowKit

theorem gcdq_i (a b : Int) (w : World) (ha : 0 ≤ a) (ha2 : a ≤ 4000000000000000000) (hb : 0 ≤ b) (hb2 : b ≤ 4000000000000000000) :
    Calls Try.prog 39 #[.int .i64 a, .int .i64 b] w fun e w' => e = .returned (.int .i64 (gcdZ a b)) ∧ ∃ m, w' = w.drewN m := by
  go_enter Try.func39, Try.ntmps39
  go_wp2
  go_loopw [0, 1] (fun p q wr => ∃ (x y : Int) (m : Nat), 0 ≤ x ∧ x ≤ 4000000000000000000 ∧ 0 ≤ y ∧ y ≤ 4000000000000000000 ∧ p = .int .i64 x ∧ q = .int .i64 y ∧ Hid (gcdZ x y = gcdZ a b) ∧ wr = w.drewN m) (fun _ q _ => (intOf q).toNat)
  case atStart => exact ⟨a, b, 0, ha, ha2, hb, hb2, rfl, rfl, rfl, rfl⟩
  case round =>
    obtain ⟨x, y, m, x0, x1, y0, y1, rfl, rfl, hg, rfl⟩ := hrel
    by_cases hy : 0 < y
    · have m0 := Int.emod_nonneg x (show y ≠ 0 by omega)
      have m1 := Int.emod_lt_of_pos x hy
      have hs := gcdZ_step x0 hy
      have HS := Lib.hid hs
      clear hs
      go_wp2
      go_quiet (fail)
      go_wp2
      go_roundw
      case rel => exact ⟨y, x % y, _, y0, y1, m0, by omega, rfl, rfl, HS.out.trans hg.out, World.drewN_drewN ..⟩
      case measure => simp [intOf]; omega
    · obtain rfl : y = 0 := by omega
      go_wp2
      go_ret
      exact ⟨by rw [← hg.out, gcdZ_zero x x0]; rfl, m, rfl⟩

theorem gcdq_s (a b : Int) (w : World) (ha : 0 ≤ a) (ha2 : a ≤ 4000000000000000000) (hb : 0 ≤ b) (hb2 : b ≤ 4000000000000000000) :
    Calls Try.prog 36 #[.int .i64 a, .int .i64 b] w fun e w' => e = .returned (.int .i64 (gcdZ a b)) ∧ ∃ m, w' = w.drewN m := by
  go_enter Try.func36, Try.ntmps36
  go_wp2
  go_loopw [0, 1] (fun p q wr => ∃ (x y : Int) (m : Nat), 0 ≤ x ∧ x ≤ 4000000000000000000 ∧ 0 ≤ y ∧ y ≤ 4000000000000000000 ∧ p = .int .i64 x ∧ q = .int .i64 y ∧ Hid (gcdZ x y = gcdZ a b) ∧ wr = w.drewN m) (fun _ q _ => (intOf q).toNat)
  case atStart => exact ⟨a, b, 0, ha, ha2, hb, hb2, rfl, rfl, rfl, rfl⟩
  case round =>
    obtain ⟨x, y, m, x0, x1, y0, y1, rfl, rfl, hg, rfl⟩ := hrel
    by_cases hy : 0 < y
    · have m0 := Int.emod_nonneg x (show y ≠ 0 by omega)
      have m1 := Int.emod_lt_of_pos x hy
      have hs := gcdZ_step x0 hy
      have HS := Lib.hid hs
      clear hs
      go_wp2
      go_quiet (fail)
      go_wp2
      go_roundw
      case rel => exact ⟨y, x % y, _, y0, y1, m0, by omega, rfl, rfl, HS.out.trans hg.out, World.drewN_drewN ..⟩
      case measure => simp [intOf]; omega
    · obtain rfl : y = 0 := by omega
      go_wp2
      go_ret
      exact ⟨by rw [← hg.out, gcdZ_zero x x0]; rfl, m, rfl⟩

theorem gcdZ_bd {a b n : Int} (ha : 0 ≤ a) (hb : 0 ≤ b) (h : a ≤ n) (h' : b ≤ n) : 0 ≤ gcdZ a b ∧ gcdZ a b ≤ n := by
  refine ⟨gcdZ_nn a b, ?_⟩
  by_cases h0 : 0 < a
  · have := gcdZ_le (b := b) h0
    omega
  · obtain rfl : a = 0 := by omega
    rw [gcdZ_comm, gcdZ_zero b hb]
    exact h'

end Go.Proofs.Ytbiokfgkiillkaa
