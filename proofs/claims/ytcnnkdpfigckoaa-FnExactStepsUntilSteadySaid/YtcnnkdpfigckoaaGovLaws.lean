/-
  The walks of the laws on the governor that say 'the program gives what the reference gives': each returns true and leaves the world alone.
-/
import Derived.Test.YtcnnkdpfigckoaaGov
namespace Go.Proofs.Ytcnnkdpfigckoaa
open Go.RowKit

theorem fnExactNextSpeed_walk (v : Int) (_hv : I64 v) (f : Int) (_hf : I64 f) (b : Int) (_hb : I64 b) (w : World) :
    Calls Try.prog 10 #[.int .i64 v, .int .i64 f, .int .i64 b] w fun e w' => e = .returned (.bool true) ∧ Below w.heap.size w w' := by
  go_enter Try.func10, Try.ntmps10
  go_wp2_with (first | (go_at_call 33; refine (sNextSpeed _ _ _ _).mono ?_; rintro e w' ⟨rfl, rfl⟩) | (go_at_call 34; refine (iNextSpeed _ _ _ _).mono ?_; rintro e w' ⟨rfl, rfl⟩))
  go_ret
  exact ⟨rfl, Below.refl _ _⟩

theorem fnExactSpeedAfter_walk (v : Int) (_hv : I64 v) (f : Int) (_hf : I64 f) (b : Int) (_hb : I64 b) (n : Int) (_hn : I64 n) (w : World) :
    Calls Try.prog 11 #[.int .i64 v, .int .i64 f, .int .i64 b, .int .i64 n] w fun e w' => e = .returned (.bool true) ∧ Below w.heap.size w w' := by
  go_enter Try.func11, Try.ntmps11
  go_wp2_with (first | (go_at_call 35; refine (sSpeedAfter _ _ _ _ _).mono ?_; rintro e w' ⟨rfl, rfl⟩) | (go_at_call 36; refine (iSpeedAfter _ _ _ _ _).mono ?_; rintro e w' ⟨rfl, rfl⟩))
  go_ret
  exact ⟨rfl, Below.refl _ _⟩

theorem fnExactSteadySpeed_walk (f : Int) (_hf : I64 f) (b : Int) (_hb : I64 b) (w : World) :
    Calls Try.prog 12 #[.int .i64 f, .int .i64 b] w fun e w' => e = .returned (.bool true) ∧ Below w.heap.size w w' := by
  go_enter Try.func12, Try.ntmps12
  go_wp2_with (go_at_call 37; refine (sSteadySpeed _ _ _).mono ?_; rintro e w' ⟨r, rfl, hr, rfl⟩)
  go_wp2_with (go_at_call 38; refine (iSteadySpeed _ _ _).mono ?_; rintro e w' ⟨r', rfl, hr', rfl⟩; obtain rfl := hr.one hr')
  go_ret
  exact ⟨rfl, Below.refl _ _⟩

theorem fnExactStepsUntilSteady_walk (v : Int) (_hv : I64 v) (f : Int) (_hf : I64 f) (b : Int) (_hb : I64 b) (w : World) :
    Calls Try.prog 13 #[.int .i64 v, .int .i64 f, .int .i64 b] w fun e w' => e = .returned (.bool true) ∧ Below w.heap.size w w' := by
  go_enter Try.func13, Try.ntmps13
  go_wp2_with (go_at_call 39; refine (sStepsUntilSteady _ _ _ _).mono ?_; rintro e w' ⟨r, rfl, hr, rfl⟩)
  go_wp2_with (go_at_call 40; refine (iStepsUntilSteady _ _ _ _).mono ?_; rintro e w' ⟨r', rfl, hr', rfl⟩; obtain rfl := hr.one hr')
  go_ret
  exact ⟨rfl, Below.refl _ _⟩

end Go.Proofs.Ytcnnkdpfigckoaa
