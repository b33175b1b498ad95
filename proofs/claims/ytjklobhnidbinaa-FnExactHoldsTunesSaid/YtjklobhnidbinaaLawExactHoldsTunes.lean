/-
  The law FnExactHoldsTunes, whole: for every input it returns true and leaves its arguments as they were. No condition.
-/
import Derived.Test.YtjklobhnidbinaaHoldsLaw
import Derived.Test.YtjklobhnidbinaaCylsOpn
namespace Go.Proofs.Ytjklobhnidbinaa
open Go.ChangeShapes Go.WideShapes Go.ChangeAt Go.RowKit Go.Joins Go.Deep
set_option linter.unusedVariables false

theorem fnExactHoldsTunes_own : ownKnob Try.prog.godebug = none := by kernel_rfl
theorem fnExactHoldsTunes_laid : laidOutB Try.prog = true := by kernel_rfl

set_option maxRecDepth 100000 in
theorem fnExactHoldsTunes_lifted (os : Os) (started : os.Started) (H : Type) (enc : TypeId × Value → H) :
    ReturnsInHanded {} Try.checked os 6 .any (Rows.fnExactHoldsTunesSpec.pre6 enc Try.prog Try.f6 Rows.fnExactHoldsTunesRow.domain false) (Rows.fnExactHoldsTunesSpec.post enc Try.prog Try.f6 false true false false) := by
  refine returnsInHanded_of_change (C := Try.checked) fnExactHoldsTunes_own started (by kernel_rfl) Try.func6
    (ChangeSpec.witness6 (enc := enc) (C := Try.checked) false ⟨#[], #[.slice none 0 0, .int .i64 0], []⟩ 8 (by kernel_rfl) (by kernel_rfl) (by kernel_rfl) (by kernel_rfl)) ?_
  intro W base args ds gs before hval0 hW hcnd _
  have hval : ∀ (j : Nat) t v, Try.f6.params[j]? = some t → args[j]? = some v → Value.okWide Try.prog W .any base t v := hval0
  have hW' := hW
  obtain ⟨p, q, hA0, hV, rfl, hfz, hnd⟩ := hW
  have hA : DataW.TrodAll enc Try.prog W 0 (fun _ => true) true Try.f6.params.toList args.toList ds p := hA0
  rw [Try.params6] at hA hval
  obtain ⟨v0, vs0, d0, ds0, p0, q0, hargs, rfl, rfl, h0, rr0⟩ := trodAll_cons hA
  obtain ⟨v1, vs1, d1, ds1, p1, q1, rfl, rfl, rfl, h1, rr1⟩ := trodAll_cons rr0
  obtain ⟨rfl, rfl, rfl⟩ := trodAll_nil rr1
  obtain rfl : args = #[v0, v1] := by cases args; simp_all
  obtain ⟨rfl, rfl⟩ := trodVars_none hV
  clear hA0 hval0 hA
  obtain ⟨A0, n0, c0, hs0, cs0, rfl, r0, nc0, nm0⟩ := opn_cyls Try.underlying37 Try.underlying24 Try.underlying22 Try.underlying70 Try.underlying3 rfl rfl rfl rfl rfl rfl rfl rfl rfl rfl (by kernel_rfl) (by kernel_rfl) (by kernel_rfl) (by kernel_rfl) (hval 0 37 v0 rfl rfl) h0
  obtain ⟨a1, rfl, w1⟩ := opn_int Try.underlying3 (hval 1 3 v1 rfl rfl) h1
  refine (fnExactHoldsTunes_walk W A0 n0 c0 hs0 cs0 r0 nc0 nm0 a1 w1).mono fun e W' ⟨he, bel⟩ => ?_
  subst he
  exact ⟨_, rfl, law_end fnExactHoldsTunes_laid rfl (by kernel_rfl) rfl Try.underlying4 hW' rfl bel⟩

theorem fnExactHoldsTunes_over : Rows.fnExactHoldsTunesRow.holds Try.pinned (OpenSpec.ofChange Rows.fnExactHoldsTunesSpec) :=
  OpenClaim.holds_of_wide 6 Try.f6 rfl rfl rfl rfl rfl rfl rfl ⟨rfl, rfl, rfl, rfl, rfl⟩ rfl rfl rfl rfl rfl (by kernel_rfl) Try.func6 (by kernel_rfl)
    (of_decide_eq_true (by kernel_rfl)) (by unfold Func.isWrapper; rw [if_neg (of_decide_eq_false (by kernel_rfl))]; exact ⟨rfl, rfl⟩)
    (fun os started H enc _ => fnExactHoldsTunes_lifted os started H enc)

theorem fnExactHoldsTunes_holds : Rows.FnExactHoldsTunesSaid := fnExactHoldsTunes_over
#print axioms fnExactHoldsTunes_holds
end Go.Proofs.Ytjklobhnidbinaa
