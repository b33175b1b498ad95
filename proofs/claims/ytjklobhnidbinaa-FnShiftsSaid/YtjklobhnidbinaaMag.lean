/-
  impl.magnitude: what it returns for all numbers but the least; it leaves the world alone.
-/
import Derived.Test.YtjklobhnidbinaaWithin
namespace Go.Proofs.Ytjklobhnidbinaa
open Go.RowKit

def absZ (n : Int) : Int := max n (-n)
theorem magnitude_any (n : Int) (w : World) (h0 : -9000000000000000000 ≤ n) (h1 : n ≤ 9000000000000000000) :
    Calls Try.prog 51 #[.int .i64 n] w fun e w' => e = .returned (.int .i64 (absZ n)) ∧ w = w' := by
  by_cases h : n < 0
  · rw [show absZ n = -n by unfold absZ; omega]
    go_enter Try.func51, Try.ntmps51
    go_wp2
    go_ret
    exact ⟨rfl, rfl⟩
  · rw [show absZ n = n by unfold absZ; omega]
    go_enter Try.func51, Try.ntmps51
    go_wp2
    go_ret
    exact ⟨rfl, rfl⟩
end Go.Proofs.Ytjklobhnidbinaa
