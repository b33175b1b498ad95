/-
  The law FnExactShiftedTracks, whole: for every input it returns true and leaves its arguments as they were. No condition.
-/
import Derived.Test.YtjklobhnidbinaaShiftedTracksLaw
import Derived.Test.YtjklobhnidbinaaCylOpn
namespace Go.Proofs.Ytjklobhnidbinaa
open Go.ChangeShapes Go.WideShapes Go.ChangeAt Go.RowKit Go.Joins Go.Deep
set_option linter.unusedVariables false

theorem fnExactShiftedTracks_own : ownKnob Try.prog.godebug = none := by kernel_rfl
theorem fnExactShiftedTracks_laid : laidOutB Try.prog = true := by kernel_rfl

set_option maxRecDepth 100000 in
theorem fnExactShiftedTracks_lifted (os : Os) (started : os.Started) (H : Type) (enc : TypeId × Value → H) :
    ReturnsInHanded {} Try.checked os 4 .any (Rows.fnExactShiftedTracksSpec.pre6 enc Try.prog Try.f4 Rows.fnExactShiftedTracksRow.domain false) (Rows.fnExactShiftedTracksSpec.post enc Try.prog Try.f4 false true false false) := by
  refine returnsInHanded_of_change (C := Try.checked) fnExactShiftedTracks_own started (by kernel_rfl) Try.func4
    (ChangeSpec.witness6 (enc := enc) (C := Try.checked) false ⟨#[], #[.agg #[.int .i64 0, .int .i64 0, .slice none 0 0], .int .i64 0, .int .i64 0], []⟩ 8 (by kernel_rfl) (by kernel_rfl) (by kernel_rfl) (by kernel_rfl)) ?_
  intro W base args ds gs before hval0 hW hcnd _
  have hval : ∀ (j : Nat) t v, Try.f4.params[j]? = some t → args[j]? = some v → Value.okWide Try.prog W .any base t v := hval0
  have hW' := hW
  obtain ⟨p, q, hA0, hV, rfl, hfz, hnd⟩ := hW
  have hA : DataW.TrodAll enc Try.prog W 0 (fun _ => true) true Try.f4.params.toList args.toList ds p := hA0
  rw [Try.params4] at hA hval
  obtain ⟨v0, vs0, d0, ds0, p0, q0, hargs, rfl, rfl, h0, rr0⟩ := trodAll_cons hA
  obtain ⟨v1, vs1, d1, ds1, p1, q1, rfl, rfl, rfl, h1, rr1⟩ := trodAll_cons rr0
  obtain ⟨v2, vs2, d2, ds2, p2, q2, rfl, rfl, rfl, h2, rr2⟩ := trodAll_cons rr1
  obtain ⟨rfl, rfl, rfl⟩ := trodAll_nil rr2
  obtain rfl : args = #[v0, v1, v2] := by cases args; simp_all
  obtain ⟨rfl, rfl⟩ := trodVars_none hV
  clear hA0 hval0 hA
  obtain ⟨s0, t0, A0, n0, c0, xs0, rfl, r0, l0, nc0, nm0, ws0, wt0⟩ := opn_cyl Try.underlying24 Try.underlying22 Try.underlying70 Try.underlying3 rfl rfl rfl rfl rfl rfl rfl (by kernel_rfl) (by kernel_rfl) (by kernel_rfl) (by kernel_rfl) (hval 0 24 v0 rfl rfl) h0
  obtain ⟨a1, rfl, w1⟩ := opn_int Try.underlying3 (hval 1 3 v1 rfl rfl) h1
  obtain ⟨a2, rfl, w2⟩ := opn_int Try.underlying3 (hval 2 3 v2 rfl rfl) h2
  refine (fnExactShiftedTracks_walk W s0 t0 A0 n0 c0 xs0 r0 l0 nc0 nm0 a1 w1 a2 w2).mono fun e W' ⟨he, bel⟩ => ?_
  subst he
  exact ⟨_, rfl, law_end fnExactShiftedTracks_laid rfl (by kernel_rfl) rfl Try.underlying4 hW' rfl bel⟩

theorem fnExactShiftedTracks_over : Rows.fnExactShiftedTracksRow.holds Try.pinned (OpenSpec.ofChange Rows.fnExactShiftedTracksSpec) :=
  OpenClaim.holds_of_wide 4 Try.f4 rfl rfl rfl rfl rfl rfl rfl ⟨rfl, rfl, rfl, rfl, rfl⟩ rfl rfl rfl rfl rfl (by kernel_rfl) Try.func4 (by kernel_rfl)
    (of_decide_eq_true (by kernel_rfl)) (by unfold Func.isWrapper; rw [if_neg (of_decide_eq_false (by kernel_rfl))]; exact ⟨rfl, rfl⟩)
    (fun os started H enc _ => fnExactShiftedTracks_lifted os started H enc)

theorem fnExactShiftedTracks_holds : Rows.FnExactShiftedTracksSaid := fnExactShiftedTracks_over
#print axioms fnExactShiftedTracks_holds
end Go.Proofs.Ytjklobhnidbinaa
