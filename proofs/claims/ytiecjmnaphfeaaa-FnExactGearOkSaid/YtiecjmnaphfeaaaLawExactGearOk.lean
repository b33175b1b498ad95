/-
  The law FnExactGearOk, whole: for every input it returns true and leaves its arguments as they were. No condition.
-/
import Derived.Test.YtiecjmnaphfeaaaGearLaws
namespace Go.Proofs.Ytiecjmnaphfeaaa
open Go.ChangeShapes Go.WideShapes Go.ChangeAt Go.RowKit Go.Joins Go.Deep
set_option linter.unusedVariables false

theorem fnExactGearOk_own : ownKnob Try.prog.godebug = none := by kernel_rfl
theorem fnExactGearOk_laid : laidOutB Try.prog = true := by kernel_rfl

set_option maxRecDepth 100000 in
theorem fnExactGearOk_lifted (os : Os) (started : os.Started) (H : Type) (enc : TypeId × Value → H) :
    ReturnsInHanded {} Try.checked os 3 .any (Rows.fnExactGearOkSpec.pre6 enc Try.prog Try.f3 Rows.fnExactGearOkRow.domain false) (Rows.fnExactGearOkSpec.post enc Try.prog Try.f3 false true false false) := by
  refine returnsInHanded_of_change (C := Try.checked) fnExactGearOk_own started (by kernel_rfl) Try.func3
    (ChangeSpec.witness6 (enc := enc) (C := Try.checked) false ⟨#[], #[.agg #[.int .i64 0, .int .i64 0]], []⟩ 8 (by kernel_rfl) (by kernel_rfl) (by kernel_rfl) (by kernel_rfl)) ?_
  intro W base args ds gs before hval0 hW hcnd _
  have hval : ∀ (j : Nat) t v, Try.f3.params[j]? = some t → args[j]? = some v → Value.okWide Try.prog W .any base t v := hval0
  have hW' := hW
  obtain ⟨p, q, hA0, hV, rfl, hfz, hnd⟩ := hW
  have hA : DataW.TrodAll enc Try.prog W 0 (fun _ => true) true Try.f3.params.toList args.toList ds p := hA0
  rw [Try.params3] at hA hval
  obtain ⟨v0, vs0, d0, ds0, p0, q0, hargs, rfl, rfl, h0, rr0⟩ := trodAll_cons hA
  obtain ⟨rfl, rfl, rfl⟩ := trodAll_nil rr0
  obtain rfl : args = #[v0] := by cases args; simp_all
  obtain ⟨rfl, rfl⟩ := trodVars_none hV
  clear hA0 hval0 hA
  obtain ⟨a0, b0, rfl, wa0, wb0⟩ := opn_agg2 Try.underlying23 Try.underlying3 rfl rfl (by kernel_rfl) (by kernel_rfl) (hval 0 23 v0 rfl rfl) h0
  refine (fnExactGearOk_walk a0 b0 wa0 wb0 W).mono fun e W' ⟨he, bel⟩ => ?_
  subst he
  exact ⟨_, rfl, law_end fnExactGearOk_laid rfl (by kernel_rfl) rfl Try.underlying4 hW' rfl bel⟩

theorem fnExactGearOk_over : Rows.fnExactGearOkRow.holds Try.pinned (OpenSpec.ofChange Rows.fnExactGearOkSpec) :=
  OpenClaim.holds_of_wide 3 Try.f3 rfl rfl rfl rfl rfl rfl rfl ⟨rfl, rfl, rfl, rfl, rfl⟩ rfl rfl rfl rfl rfl (by kernel_rfl) Try.func3 (by kernel_rfl)
    (of_decide_eq_true (by kernel_rfl)) (by unfold Func.isWrapper; rw [if_neg (of_decide_eq_false (by kernel_rfl))]; exact ⟨rfl, rfl⟩)
    (fun os started H enc _ => fnExactGearOk_lifted os started H enc)

theorem fnExactGearOk_holds : Rows.FnExactGearOkSaid := fnExactGearOk_over
#print axioms fnExactGearOk_holds
end Go.Proofs.Ytiecjmnaphfeaaa
