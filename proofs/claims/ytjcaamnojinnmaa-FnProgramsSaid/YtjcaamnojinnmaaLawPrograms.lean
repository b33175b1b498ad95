/-
  The law FnPrograms, whole: for every input it returns true and leaves its arguments as they were. No condition.
-/
import Derived.Test.YtjcaamnojinnmaaProgF
namespace Go.Proofs.Ytjcaamnojinnmaa
open Go.ChangeShapes Go.WideShapes Go.ChangeAt Go.RowKit Go.Joins Go.Deep
set_option linter.unusedVariables false

theorem fnPrograms_own : ownKnob Try.prog.godebug = none := by kernel_rfl
theorem fnPrograms_laid : laidOutB Try.prog = true := by kernel_rfl

set_option maxRecDepth 100000 in
theorem fnPrograms_lifted (os : Os) (started : os.Started) (H : Type) (enc : TypeId × Value → H) :
    ReturnsInHanded {} Try.checked os 7 .any (Rows.fnProgramsSpec.pre6 enc Try.prog Try.f7 Rows.fnProgramsRow.domain false) (Rows.fnProgramsSpec.post enc Try.prog Try.f7 false true false false) := by
  refine returnsInHanded_of_change (C := Try.checked) fnPrograms_own started (by kernel_rfl) Try.func7
    (ChangeSpec.witness6 (enc := enc) (C := Try.checked) false ⟨#[], #[.slice none 0 0], []⟩ 8 (by kernel_rfl) (by kernel_rfl) (by kernel_rfl) (by kernel_rfl)) ?_
  intro W base args ds gs before hval0 hW hcnd _
  have hval : ∀ (j : Nat) t v, Try.f7.params[j]? = some t → args[j]? = some v → Value.okWide Try.prog W .any base t v := hval0
  have hW' := hW
  obtain ⟨p, q, hA0, hV, rfl, hfz, hnd⟩ := hW
  have hA : DataW.TrodAll enc Try.prog W 0 (fun _ => true) true Try.f7.params.toList args.toList ds p := hA0
  rw [Try.params7] at hA hval
  obtain ⟨v0, vs0, d0, ds0, p0, q0, hargs, rfl, rfl, h0, rr0⟩ := trodAll_cons hA
  obtain ⟨rfl, rfl, rfl⟩ := trodAll_nil rr0
  obtain rfl : args = #[v0] := by cases args; simp_all
  obtain ⟨rfl, rfl⟩ := trodVars_none hV
  clear hA0 hval0 hA
  obtain ⟨A0, n0, c0, xs0, rfl, r0, l0, nc0, nm0, w0⟩ := opn_ints Try.underlying40 Try.underlying5 (by kernel_rfl) (hval 0 40 v0 rfl rfl) h0
  refine (fnPrograms_walk W A0 n0 c0 xs0 r0 l0 nc0 nm0 w0).mono fun e W' ⟨he, bel⟩ => ?_
  subst he
  exact ⟨_, rfl, law_end fnPrograms_laid rfl (by kernel_rfl) rfl Try.underlying4 hW' rfl bel⟩

theorem fnPrograms_over : Rows.fnProgramsRow.holds Try.pinned (OpenSpec.ofChange Rows.fnProgramsSpec) :=
  OpenClaim.holds_of_wide 7 Try.f7 rfl rfl rfl rfl rfl rfl rfl ⟨rfl, rfl, rfl, rfl, rfl⟩ rfl rfl rfl rfl rfl (by kernel_rfl) Try.func7 (by kernel_rfl)
    (of_decide_eq_true (by kernel_rfl)) (by unfold Func.isWrapper; rw [if_neg (of_decide_eq_false (by kernel_rfl))]; exact ⟨rfl, rfl⟩)
    (fun os started H enc _ => fnPrograms_lifted os started H enc)

theorem fnPrograms_holds : Rows.FnProgramsSaid := fnPrograms_over
#print axioms fnPrograms_holds
end Go.Proofs.Ytjcaamnojinnmaa
