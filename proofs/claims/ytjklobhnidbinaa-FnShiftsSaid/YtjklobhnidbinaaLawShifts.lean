/-
  The law FnShifts, whole: for every input it returns true and leaves its arguments as they were. No condition.
-/
import Derived.Test.YtjklobhnidbinaaShiftsF
namespace Go.Proofs.Ytjklobhnidbinaa
open Go.ChangeShapes Go.WideShapes Go.ChangeAt Go.RowKit Go.Joins Go.Deep
set_option linter.unusedVariables false

theorem fnShifts_own : ownKnob Try.prog.godebug = none := by kernel_rfl
theorem fnShifts_laid : laidOutB Try.prog = true := by kernel_rfl

set_option maxRecDepth 100000 in
theorem fnShifts_lifted (os : Os) (started : os.Started) (H : Type) (enc : TypeId × Value → H) :
    ReturnsInHanded {} Try.checked os 7 .any (Rows.fnShiftsSpec.pre6 enc Try.prog Try.f7 Rows.fnShiftsRow.domain false) (Rows.fnShiftsSpec.post enc Try.prog Try.f7 false true false false) := by
  refine returnsInHanded_of_change (C := Try.checked) fnShifts_own started (by kernel_rfl) Try.func7
    (ChangeSpec.witness6 (enc := enc) (C := Try.checked) false ⟨#[], #[.slice none 0 0], []⟩ 8 (by kernel_rfl) (by kernel_rfl) (by kernel_rfl) (by kernel_rfl)) ?_
  intro W base args ds gs before hval0 hW hcnd _
  have hval : ∀ (j : Nat) t v, Try.f7.params[j]? = some t → args[j]? = some v → Value.okWide Try.prog W .any base t v := hval0
  have hW' := hW
  obtain ⟨p, q, hA0, hV, rfl, hfz, hnd⟩ := hW
  have hA : DataW.TrodAll enc Try.prog W 0 (fun _ => true) true Try.f7.params.toList args.toList ds p := hA0
  rw [Try.params7] at hA hval
  obtain ⟨v0, vs0, d0, ds0, p0, q0, hargs, rfl, rfl, h0, rr0⟩ := trodAll_cons hA
  obtain ⟨rfl, rfl, rfl⟩ := trodAll_nil rr0
  obtain rfl : args = #[v0] := by cases args; simp_all
  obtain ⟨rfl, rfl⟩ := trodVars_none hV
  clear hA0 hval0 hA
  obtain ⟨A0, n0, c0, xs0, rfl, r0, l0, nc0, nm0, w0⟩ := opn_ints Try.underlying45 Try.underlying5 (by kernel_rfl) (hval 0 45 v0 rfl rfl) h0
  refine (fnShifts_walk W A0 n0 c0 xs0 r0 l0 nc0 nm0 w0).mono fun e W' ⟨he, bel⟩ => ?_
  subst he
  exact ⟨_, rfl, law_end fnShifts_laid rfl (by kernel_rfl) rfl Try.underlying4 hW' rfl bel⟩

theorem fnShifts_over : Rows.fnShiftsRow.holds Try.pinned (OpenSpec.ofChange Rows.fnShiftsSpec) :=
  OpenClaim.holds_of_wide 7 Try.f7 rfl rfl rfl rfl rfl rfl rfl ⟨rfl, rfl, rfl, rfl, rfl⟩ rfl rfl rfl rfl rfl (by kernel_rfl) Try.func7 (by kernel_rfl)
    (of_decide_eq_true (by kernel_rfl)) (by unfold Func.isWrapper; rw [if_neg (of_decide_eq_false (by kernel_rfl))]; exact ⟨rfl, rfl⟩)
    (fun os started H enc _ => fnShifts_lifted os started H enc)

theorem fnShifts_holds : Rows.FnShiftsSaid := fnShifts_over
#print axioms fnShifts_holds
end Go.Proofs.Ytjklobhnidbinaa
