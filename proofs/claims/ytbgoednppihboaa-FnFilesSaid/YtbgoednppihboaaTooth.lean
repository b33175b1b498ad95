/-
  The walks of a tooth that is filed: what each function of impl and of spec returns, for all arguments. They make new blocks alone.
-/
import Derived.Test.YtbgoednppihboaaMag
import Derived.Test.YtbgoednppihboaaFileMath
namespace Go.Proofs.Ytbgoednppihboaa
open Go.RowKit

theorem iToothOkE (z t r : Int) (w : World) :
    Calls Try.prog 11 #[.agg #[.int .i64 z, .int .i64 t, .int .i64 r]] w fun e w' => e = .returned (.bool (tooB z t r)) ∧ w.alloc (.cells #[.int .i64 z, .int .i64 t, .int .i64 r] 25) = w' := by
  have e : tooB z t r = (inB z 0 6000 && inB t 0 20 && inB r 0 20) := by
    rw [Bool.eq_iff_iff, tooB_iff]; simp [inB]; omega
  rw [e]
  go_enter Try.func11, Try.ntmps11
  cases h1 : inB z 0 6000 <;> cases h2 : inB t 0 20 <;> cases h3 : inB r 0 20
  all_goals
    go_wp2_with (go_at_call 25; refine (within_any _ _ _ _).mono ?_; rintro e w' ⟨rfl, rfl⟩)
    go_ret
    exact ⟨rfl, rfl⟩
theorem iToothOk (z t r : Int) (w : World) :
    Calls Try.prog 11 #[.agg #[.int .i64 z, .int .i64 t, .int .i64 r]] w fun e w' => e = .returned (.bool (tooB z t r)) ∧ Below w.heap.size w w' :=
  (iToothOkE z t r w).mono fun _ _ ⟨he, hw⟩ => ⟨he, by rw [← hw]; exact (Below.refl _ _).alloc (Nat.le_refl _) _⟩
theorem sToothOkE (z t r : Int) (w : World) :
    Calls Try.prog 9 #[.agg #[.int .i64 z, .int .i64 t, .int .i64 r]] w fun e w' => e = .returned (.bool (tooB z t r)) ∧ w.alloc (.cells #[.int .i64 z, .int .i64 t, .int .i64 r] 25) = w' := by
  have e : tooB z t r = (inB z 0 6000 && inB t 0 20 && inB r 0 20) := by
    rw [Bool.eq_iff_iff, tooB_iff]; simp [inB]; omega
  rw [e]
  go_enter Try.func9, Try.ntmps9
  cases h1 : inB z 0 6000 <;> cases h2 : inB t 0 20 <;> cases h3 : inB r 0 20
  all_goals
    go_wp2_with (go_at_call 24; refine (l01In_any _ _ _ _).mono ?_; rintro e w' ⟨rfl, rfl⟩)
    go_ret
    exact ⟨rfl, rfl⟩
theorem sToothOk (z t r : Int) (w : World) :
    Calls Try.prog 9 #[.agg #[.int .i64 z, .int .i64 t, .int .i64 r]] w fun e w' => e = .returned (.bool (tooB z t r)) ∧ Below w.heap.size w w' :=
  (sToothOkE z t r w).mono fun _ _ ⟨he, hw⟩ => ⟨he, by rw [← hw]; exact (Below.refl _ _).alloc (Nat.le_refl _) _⟩

/-- a tip filed, a root filed: the new tooth, and whether it was done -/
def tipB (z t r : Int) : Bool := tooB z t r && tooB (z + 7) (t - 1) r
def rootB (z t r : Int) : Bool := tooB z t r && tooB (z - 11) t (r - 1)
def TipT (z t r : Int) : Int × Int × Int × Bool := if tipB z t r = true then (z + 7, t - 1, r, true) else (z, t, r, false)
def RootT (z t r : Int) : Int × Int × Int × Bool := if rootB z t r = true then (z - 11, t, r - 1, true) else (z, t, r, false)
theorem tip_iff {z t r : Int} (h : tooB z t r = true) : tipB z t r = true ↔ ¬ t = 0 ∧ z + 7 ≤ 6000 := by
  have := tooB_iff.1 h
  unfold tipB
  rw [h, Bool.true_and, tooB_iff]
  omega
theorem root_iff {z t r : Int} (h : tooB z t r = true) : rootB z t r = true ↔ ¬ r = 0 ∧ 11 ≤ z := by
  have := tooB_iff.1 h
  unfold rootB
  rw [h, Bool.true_and, tooB_iff]
  omega
def tup4 (x : Int × Int × Int × Bool) : Value := .tuple #[.agg #[.int .i64 x.1, .int .i64 x.2.1, .int .i64 x.2.2.1], .bool x.2.2.2]

theorem iFileTip (z t r : Int) (w : World) :
    Calls Try.prog 13 #[.agg #[.int .i64 z, .int .i64 t, .int .i64 r]] w fun e w' => e = .returned (tup4 (TipT z t r)) ∧ Below w.heap.size w w' := by
  cases h : tooB z t r
  · have e : tup4 (TipT z t r) = .tuple #[.agg #[.int .i64 z, .int .i64 t, .int .i64 r], .bool false] := by unfold TipT; rw [if_neg (by simp [tipB, h])]; rfl
    rw [e]
    go_enter Try.func13, Try.ntmps13
    go_wp2_with (go_at_call 11; refine (iToothOkE _ _ _ _).mono ?_; rintro e w' ⟨rfl, rfl⟩; rw [h])
    refine bodyPost_ret (v := .tuple #[.agg #[.int .i64 z, .int .i64 t, .int .i64 r], .bool false]) (by simp [results, Try.results13, go_sem]) rfl ⟨rfl, ?_⟩
    (repeat (first | exact Below.refl _ _ | assumption | refine Below.alloc ?_ (by first | omega | (simp <;> omega)) _ | refine Below.setCell ?_ (by first | omega | (simp <;> omega)) _ | refine Below.drew ?_ | refine Below.trans ?_ (Below.mono (by assumption) (by first | omega | (simp <;> omega)))))
  have hb := tooB_iff.1 h
  cases h2 : tooB (z + 7) (t - 1) r
  · have e : tup4 (TipT z t r) = .tuple #[.agg #[.int .i64 z, .int .i64 t, .int .i64 r], .bool false] := by unfold TipT; rw [if_neg (by simp [tipB, h2])]; rfl
    rw [e]
    have H := Lib.hid h
    have H2 := Lib.hid h2
    clear h h2 e
    go_enter Try.func13, Try.ntmps13
    go_wp2_with fail
    refine (iToothOkE _ _ _ _).mono ?_
    rintro e w' ⟨rfl, rfl⟩
    rw [H.out]
    go_wp2_with fail
    refine (iToothOkE _ _ _ _).mono ?_
    rintro e w' ⟨rfl, rfl⟩
    rw [H2.out]
    go_wp2_with fail
    refine bodyPost_ret (v := .tuple #[.agg #[.int .i64 z, .int .i64 t, .int .i64 r], .bool false]) (by simp [results, Try.results13, go_sem]) rfl ⟨rfl, ?_⟩
    (repeat (first | exact Below.refl _ _ | assumption | refine Below.alloc ?_ (by first | omega | (simp <;> omega)) _ | refine Below.setCell ?_ (by first | omega | (simp <;> omega)) _ | refine Below.drew ?_ | refine Below.trans ?_ (Below.mono (by assumption) (by first | omega | (simp <;> omega)))))
  · have e : tup4 (TipT z t r) = .tuple #[.agg #[.int .i64 (z + 7), .int .i64 (t - 1), .int .i64 r], .bool true] := by unfold TipT; rw [if_pos (by simp [tipB, h, h2])]; rfl
    rw [e]
    have H := Lib.hid h
    have H2 := Lib.hid h2
    clear h h2 e
    go_enter Try.func13, Try.ntmps13
    go_wp2_with fail
    refine (iToothOkE _ _ _ _).mono ?_
    rintro e w' ⟨rfl, rfl⟩
    rw [H.out]
    go_wp2_with fail
    refine (iToothOkE _ _ _ _).mono ?_
    rintro e w' ⟨rfl, rfl⟩
    rw [H2.out]
    go_wp2_with fail
    refine bodyPost_ret (v := .tuple #[.agg #[.int .i64 (z + 7), .int .i64 (t - 1), .int .i64 r], .bool true]) (by simp [results, Try.results13, go_sem]) rfl ⟨rfl, ?_⟩
    (repeat (first | exact Below.refl _ _ | assumption | refine Below.alloc ?_ (by first | omega | (simp <;> omega)) _ | refine Below.setCell ?_ (by first | omega | (simp <;> omega)) _ | refine Below.drew ?_ | refine Below.trans ?_ (Below.mono (by assumption) (by first | omega | (simp <;> omega)))))

theorem iFileRoot (z t r : Int) (w : World) :
    Calls Try.prog 16 #[.agg #[.int .i64 z, .int .i64 t, .int .i64 r]] w fun e w' => e = .returned (tup4 (RootT z t r)) ∧ Below w.heap.size w w' := by
  cases h : tooB z t r
  · have e : tup4 (RootT z t r) = .tuple #[.agg #[.int .i64 z, .int .i64 t, .int .i64 r], .bool false] := by unfold RootT; rw [if_neg (by simp [rootB, h])]; rfl
    rw [e]
    go_enter Try.func16, Try.ntmps16
    go_wp2_with (go_at_call 11; refine (iToothOkE _ _ _ _).mono ?_; rintro e w' ⟨rfl, rfl⟩; rw [h])
    refine bodyPost_ret (v := .tuple #[.agg #[.int .i64 z, .int .i64 t, .int .i64 r], .bool false]) (by simp [results, Try.results16, go_sem]) rfl ⟨rfl, ?_⟩
    (repeat (first | exact Below.refl _ _ | assumption | refine Below.alloc ?_ (by first | omega | (simp <;> omega)) _ | refine Below.setCell ?_ (by first | omega | (simp <;> omega)) _ | refine Below.drew ?_ | refine Below.trans ?_ (Below.mono (by assumption) (by first | omega | (simp <;> omega)))))
  have hb := tooB_iff.1 h
  cases h2 : tooB (z - 11) t (r - 1)
  · have e : tup4 (RootT z t r) = .tuple #[.agg #[.int .i64 z, .int .i64 t, .int .i64 r], .bool false] := by unfold RootT; rw [if_neg (by simp [rootB, h2])]; rfl
    rw [e]
    have H := Lib.hid h
    have H2 := Lib.hid h2
    clear h h2 e
    go_enter Try.func16, Try.ntmps16
    go_wp2_with fail
    refine (iToothOkE _ _ _ _).mono ?_
    rintro e w' ⟨rfl, rfl⟩
    rw [H.out]
    go_wp2_with fail
    refine (iToothOkE _ _ _ _).mono ?_
    rintro e w' ⟨rfl, rfl⟩
    rw [H2.out]
    go_wp2_with fail
    refine bodyPost_ret (v := .tuple #[.agg #[.int .i64 z, .int .i64 t, .int .i64 r], .bool false]) (by simp [results, Try.results16, go_sem]) rfl ⟨rfl, ?_⟩
    (repeat (first | exact Below.refl _ _ | assumption | refine Below.alloc ?_ (by first | omega | (simp <;> omega)) _ | refine Below.setCell ?_ (by first | omega | (simp <;> omega)) _ | refine Below.drew ?_ | refine Below.trans ?_ (Below.mono (by assumption) (by first | omega | (simp <;> omega)))))
  · have e : tup4 (RootT z t r) = .tuple #[.agg #[.int .i64 (z - 11), .int .i64 t, .int .i64 (r - 1)], .bool true] := by unfold RootT; rw [if_pos (by simp [rootB, h, h2])]; rfl
    rw [e]
    have H := Lib.hid h
    have H2 := Lib.hid h2
    clear h h2 e
    go_enter Try.func16, Try.ntmps16
    go_wp2_with fail
    refine (iToothOkE _ _ _ _).mono ?_
    rintro e w' ⟨rfl, rfl⟩
    rw [H.out]
    go_wp2_with fail
    refine (iToothOkE _ _ _ _).mono ?_
    rintro e w' ⟨rfl, rfl⟩
    rw [H2.out]
    go_wp2_with fail
    refine bodyPost_ret (v := .tuple #[.agg #[.int .i64 (z - 11), .int .i64 t, .int .i64 (r - 1)], .bool true]) (by simp [results, Try.results16, go_sem]) rfl ⟨rfl, ?_⟩
    (repeat (first | exact Below.refl _ _ | assumption | refine Below.alloc ?_ (by first | omega | (simp <;> omega)) _ | refine Below.setCell ?_ (by first | omega | (simp <;> omega)) _ | refine Below.drew ?_ | refine Below.trans ?_ (Below.mono (by assumption) (by first | omega | (simp <;> omega)))))

theorem sFileTip (z t r : Int) (w : World) :
    Calls Try.prog 12 #[.agg #[.int .i64 z, .int .i64 t, .int .i64 r]] w fun e w' => e = .returned (tup4 (TipT z t r)) ∧ Below w.heap.size w w' := by
  cases h : tooB z t r
  · have e : tup4 (TipT z t r) = .tuple #[.agg #[.int .i64 z, .int .i64 t, .int .i64 r], .bool false] := by unfold TipT; rw [if_neg (by simp [tipB, h])]; rfl
    rw [e]
    go_enter Try.func12, Try.ntmps12
    go_wp2_with (go_at_call 9; refine (sToothOkE _ _ _ _).mono ?_; rintro e w' ⟨rfl, rfl⟩; rw [h])
    refine bodyPost_ret (v := .tuple #[.agg #[.int .i64 z, .int .i64 t, .int .i64 r], .bool false]) (by simp [results, Try.results12, go_sem]) rfl ⟨rfl, ?_⟩
    (repeat (first | exact Below.refl _ _ | assumption | refine Below.alloc ?_ (by first | omega | (simp <;> omega)) _ | refine Below.setCell ?_ (by first | omega | (simp <;> omega)) _ | refine Below.drew ?_ | refine Below.trans ?_ (Below.mono (by assumption) (by first | omega | (simp <;> omega)))))
  have hb := tooB_iff.1 h
  have hi := tip_iff h
  by_cases h1 : t = 0
  · have e : tup4 (TipT z t r) = .tuple #[.agg #[.int .i64 z, .int .i64 t, .int .i64 r], .bool false] := by unfold TipT; rw [if_neg (by rw [hi]; omega)]; rfl
    rw [e]
    subst h1
    clear hi e
    go_enter Try.func12, Try.ntmps12
    go_wp2_with (go_at_call 9; refine (sToothOkE _ _ _ _).mono ?_; rintro e w' ⟨rfl, rfl⟩; rw [h])
    refine bodyPost_ret (v := .tuple #[.agg #[.int .i64 z, .int .i64 0, .int .i64 r], .bool false]) (by simp [results, Try.results12, go_sem]) rfl ⟨rfl, ?_⟩
    (repeat (first | exact Below.refl _ _ | assumption | refine Below.alloc ?_ (by first | omega | (simp <;> omega)) _ | refine Below.setCell ?_ (by first | omega | (simp <;> omega)) _ | refine Below.drew ?_ | refine Below.trans ?_ (Below.mono (by assumption) (by first | omega | (simp <;> omega)))))
  have hq : (t == 0) = false := by simp [h1]
  by_cases h2 : 6000 < z + 7
  · have e : tup4 (TipT z t r) = .tuple #[.agg #[.int .i64 z, .int .i64 t, .int .i64 r], .bool false] := by unfold TipT; rw [if_neg (by rw [hi]; omega)]; rfl
    rw [e]
    clear hi e
    go_enter Try.func12, Try.ntmps12
    go_wp2_with (go_at_call 9; refine (sToothOkE _ _ _ _).mono ?_; rintro e w' ⟨rfl, rfl⟩; rw [h])
    refine bodyPost_ret (v := .tuple #[.agg #[.int .i64 z, .int .i64 t, .int .i64 r], .bool false]) (by simp [results, Try.results12, go_sem]) rfl ⟨rfl, ?_⟩
    (repeat (first | exact Below.refl _ _ | assumption | refine Below.alloc ?_ (by first | omega | (simp <;> omega)) _ | refine Below.setCell ?_ (by first | omega | (simp <;> omega)) _ | refine Below.drew ?_ | refine Below.trans ?_ (Below.mono (by assumption) (by first | omega | (simp <;> omega)))))
  · have e : tup4 (TipT z t r) = .tuple #[.agg #[.int .i64 (z + 7), .int .i64 (t - 1), .int .i64 r], .bool true] := by unfold TipT; rw [if_pos (hi.2 (by omega))]; rfl
    rw [e]
    clear hi e
    go_enter Try.func12, Try.ntmps12
    go_wp2_with (go_at_call 9; refine (sToothOkE _ _ _ _).mono ?_; rintro e w' ⟨rfl, rfl⟩; rw [h])
    refine bodyPost_ret (v := .tuple #[.agg #[.int .i64 (z + 7), .int .i64 (t - 1), .int .i64 r], .bool true]) (by simp [results, Try.results12, go_sem]) rfl ⟨rfl, ?_⟩
    (repeat (first | exact Below.refl _ _ | assumption | refine Below.alloc ?_ (by first | omega | (simp <;> omega)) _ | refine Below.setCell ?_ (by first | omega | (simp <;> omega)) _ | refine Below.drew ?_ | refine Below.trans ?_ (Below.mono (by assumption) (by first | omega | (simp <;> omega)))))

theorem sFileRoot (z t r : Int) (w : World) :
    Calls Try.prog 15 #[.agg #[.int .i64 z, .int .i64 t, .int .i64 r]] w fun e w' => e = .returned (tup4 (RootT z t r)) ∧ Below w.heap.size w w' := by
  cases h : tooB z t r
  · have e : tup4 (RootT z t r) = .tuple #[.agg #[.int .i64 z, .int .i64 t, .int .i64 r], .bool false] := by unfold RootT; rw [if_neg (by simp [rootB, h])]; rfl
    rw [e]
    go_enter Try.func15, Try.ntmps15
    go_wp2_with (go_at_call 9; refine (sToothOkE _ _ _ _).mono ?_; rintro e w' ⟨rfl, rfl⟩; rw [h])
    refine bodyPost_ret (v := .tuple #[.agg #[.int .i64 z, .int .i64 t, .int .i64 r], .bool false]) (by simp [results, Try.results15, go_sem]) rfl ⟨rfl, ?_⟩
    (repeat (first | exact Below.refl _ _ | assumption | refine Below.alloc ?_ (by first | omega | (simp <;> omega)) _ | refine Below.setCell ?_ (by first | omega | (simp <;> omega)) _ | refine Below.drew ?_ | refine Below.trans ?_ (Below.mono (by assumption) (by first | omega | (simp <;> omega)))))
  have hb := tooB_iff.1 h
  have hi := root_iff h
  by_cases h1 : r = 0
  · have e : tup4 (RootT z t r) = .tuple #[.agg #[.int .i64 z, .int .i64 t, .int .i64 r], .bool false] := by unfold RootT; rw [if_neg (by rw [hi]; omega)]; rfl
    rw [e]
    subst h1
    clear hi e
    go_enter Try.func15, Try.ntmps15
    go_wp2_with (go_at_call 9; refine (sToothOkE _ _ _ _).mono ?_; rintro e w' ⟨rfl, rfl⟩; rw [h])
    refine bodyPost_ret (v := .tuple #[.agg #[.int .i64 z, .int .i64 t, .int .i64 0], .bool false]) (by simp [results, Try.results15, go_sem]) rfl ⟨rfl, ?_⟩
    (repeat (first | exact Below.refl _ _ | assumption | refine Below.alloc ?_ (by first | omega | (simp <;> omega)) _ | refine Below.setCell ?_ (by first | omega | (simp <;> omega)) _ | refine Below.drew ?_ | refine Below.trans ?_ (Below.mono (by assumption) (by first | omega | (simp <;> omega)))))
  have hq : (r == 0) = false := by simp [h1]
  by_cases h2 : z < 11
  · have e : tup4 (RootT z t r) = .tuple #[.agg #[.int .i64 z, .int .i64 t, .int .i64 r], .bool false] := by unfold RootT; rw [if_neg (by rw [hi]; omega)]; rfl
    rw [e]
    clear hi e
    go_enter Try.func15, Try.ntmps15
    go_wp2_with (go_at_call 9; refine (sToothOkE _ _ _ _).mono ?_; rintro e w' ⟨rfl, rfl⟩; rw [h])
    refine bodyPost_ret (v := .tuple #[.agg #[.int .i64 z, .int .i64 t, .int .i64 r], .bool false]) (by simp [results, Try.results15, go_sem]) rfl ⟨rfl, ?_⟩
    (repeat (first | exact Below.refl _ _ | assumption | refine Below.alloc ?_ (by first | omega | (simp <;> omega)) _ | refine Below.setCell ?_ (by first | omega | (simp <;> omega)) _ | refine Below.drew ?_ | refine Below.trans ?_ (Below.mono (by assumption) (by first | omega | (simp <;> omega)))))
  · have e : tup4 (RootT z t r) = .tuple #[.agg #[.int .i64 (z - 11), .int .i64 t, .int .i64 (r - 1)], .bool true] := by unfold RootT; rw [if_pos (hi.2 (by omega))]; rfl
    rw [e]
    clear hi e
    go_enter Try.func15, Try.ntmps15
    go_wp2_with (go_at_call 9; refine (sToothOkE _ _ _ _).mono ?_; rintro e w' ⟨rfl, rfl⟩; rw [h])
    refine bodyPost_ret (v := .tuple #[.agg #[.int .i64 (z - 11), .int .i64 t, .int .i64 (r - 1)], .bool true]) (by simp [results, Try.results15, go_sem]) rfl ⟨rfl, ?_⟩
    (repeat (first | exact Below.refl _ _ | assumption | refine Below.alloc ?_ (by first | omega | (simp <;> omega)) _ | refine Below.setCell ?_ (by first | omega | (simp <;> omega)) _ | refine Below.drew ?_ | refine Below.trans ?_ (Below.mono (by assumption) (by first | omega | (simp <;> omega)))))

theorem toTooth_any (t m f : Int) (w : World) :
    Calls Try.prog 10 #[.agg #[.int .i64 t, .int .i64 m, .int .i64 f]] w fun e w' => e = .returned (.agg #[.int .i64 t, .int .i64 m, .int .i64 f]) ∧ Below w.heap.size w w' := by
  go_enter Try.func10, Try.ntmps10
  go_wp2
  refine bodyPost_ret (v := .agg #[.int .i64 t, .int .i64 m, .int .i64 f]) (by simp [results, Try.results10, go_sem]) rfl ⟨rfl, ?_⟩
  (repeat (first | exact Below.refl _ _ | assumption | refine Below.alloc ?_ (by first | omega | (simp <;> omega)) _ | refine Below.setCell ?_ (by first | omega | (simp <;> omega)) _ | refine Below.drew ?_ | refine Below.trans ?_ (Below.mono (by assumption) (by first | omega | (simp <;> omega)))))

theorem eqTooth_same (t m f : Int) (w : World) :
    Calls Try.prog 14 #[.agg #[.int .i64 t, .int .i64 m, .int .i64 f], .agg #[.int .i64 t, .int .i64 m, .int .i64 f]] w fun e w' => e = .returned (.bool true) ∧ Below w.heap.size w w' := by
  go_enter Try.func14, Try.ntmps14
  go_wp2
  go_ret
  exact ⟨rfl, by (repeat (first | exact Below.refl _ _ | assumption | refine Below.alloc ?_ (by first | omega | (simp <;> omega)) _ | refine Below.setCell ?_ (by first | omega | (simp <;> omega)) _ | refine Below.drew ?_ | refine Below.trans ?_ (Below.mono (by assumption) (by first | omega | (simp <;> omega)))))⟩
end Go.Proofs.Ytbgoednppihboaa
