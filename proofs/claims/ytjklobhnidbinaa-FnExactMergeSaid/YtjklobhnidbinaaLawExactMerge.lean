/-
  The law FnExactMerge, whole: for every input it returns true and leaves its arguments as they were. No condition.
-/
import Derived.Test.YtjklobhnidbinaaMergeLaw
import Derived.Test.YtjklobhnidbinaaCylOpn
namespace Go.Proofs.Ytjklobhnidbinaa
open Go.ChangeShapes Go.WideShapes Go.ChangeAt Go.RowKit Go.Joins Go.Deep
set_option linter.unusedVariables false

theorem fnExactMerge_own : ownKnob Try.prog.godebug = none := by kernel_rfl
theorem fnExactMerge_laid : laidOutB Try.prog = true := by kernel_rfl

set_option maxRecDepth 100000 in
theorem fnExactMerge_lifted (os : Os) (started : os.Started) (H : Type) (enc : TypeId × Value → H) :
    ReturnsInHanded {} Try.checked os 5 .any (Rows.fnExactMergeSpec.pre6 enc Try.prog Try.f5 Rows.fnExactMergeRow.domain false) (Rows.fnExactMergeSpec.post enc Try.prog Try.f5 false true false false) := by
  refine returnsInHanded_of_change (C := Try.checked) fnExactMerge_own started (by kernel_rfl) Try.func5
    (ChangeSpec.witness6 (enc := enc) (C := Try.checked) false ⟨#[], #[.agg #[.int .i64 0, .int .i64 0, .slice none 0 0], .agg #[.int .i64 0, .int .i64 0, .slice none 0 0]], []⟩ 8 (by kernel_rfl) (by kernel_rfl) (by kernel_rfl) (by kernel_rfl)) ?_
  intro W base args ds gs before hval0 hW hcnd _
  have hval : ∀ (j : Nat) t v, Try.f5.params[j]? = some t → args[j]? = some v → Value.okWide Try.prog W .any base t v := hval0
  have hW' := hW
  obtain ⟨p, q, hA0, hV, rfl, hfz, hnd⟩ := hW
  have hA : DataW.TrodAll enc Try.prog W 0 (fun _ => true) true Try.f5.params.toList args.toList ds p := hA0
  rw [Try.params5] at hA hval
  obtain ⟨v0, vs0, d0, ds0, p0, q0, hargs, rfl, rfl, h0, rr0⟩ := trodAll_cons hA
  obtain ⟨v1, vs1, d1, ds1, p1, q1, rfl, rfl, rfl, h1, rr1⟩ := trodAll_cons rr0
  obtain ⟨rfl, rfl, rfl⟩ := trodAll_nil rr1
  obtain rfl : args = #[v0, v1] := by cases args; simp_all
  obtain ⟨rfl, rfl⟩ := trodVars_none hV
  clear hA0 hval0 hA
  obtain ⟨s0, t0, A0, n0, c0, xs0, rfl, r0, l0, nc0, nm0, ws0, wt0⟩ := opn_cyl Try.underlying24 Try.underlying22 Try.underlying70 Try.underlying3 rfl rfl rfl rfl rfl rfl rfl (by kernel_rfl) (by kernel_rfl) (by kernel_rfl) (by kernel_rfl) (hval 0 24 v0 rfl rfl) h0
  obtain ⟨s1, t1, A1, n1, c1, xs1, rfl, r1, l1, nc1, nm1, ws1, wt1⟩ := opn_cyl Try.underlying24 Try.underlying22 Try.underlying70 Try.underlying3 rfl rfl rfl rfl rfl rfl rfl (by kernel_rfl) (by kernel_rfl) (by kernel_rfl) (by kernel_rfl) (hval 1 24 v1 rfl rfl) h1
  refine (fnExactMerge_walk W s0 t0 A0 n0 c0 xs0 r0 l0 nc0 nm0 s1 t1 A1 n1 c1 xs1 r1 l1 nc1 nm1).mono fun e W' ⟨he, bel⟩ => ?_
  subst he
  exact ⟨_, rfl, law_end fnExactMerge_laid rfl (by kernel_rfl) rfl Try.underlying4 hW' rfl bel⟩

theorem fnExactMerge_over : Rows.fnExactMergeRow.holds Try.pinned (OpenSpec.ofChange Rows.fnExactMergeSpec) :=
  OpenClaim.holds_of_wide 5 Try.f5 rfl rfl rfl rfl rfl rfl rfl ⟨rfl, rfl, rfl, rfl, rfl⟩ rfl rfl rfl rfl rfl (by kernel_rfl) Try.func5 (by kernel_rfl)
    (of_decide_eq_true (by kernel_rfl)) (by unfold Func.isWrapper; rw [if_neg (of_decide_eq_false (by kernel_rfl))]; exact ⟨rfl, rfl⟩)
    (fun os started H enc _ => fnExactMerge_lifted os started H enc)

theorem fnExactMerge_holds : Rows.FnExactMergeSaid := fnExactMerge_over
#print axioms fnExactMerge_holds
end Go.Proofs.Ytjklobhnidbinaa
