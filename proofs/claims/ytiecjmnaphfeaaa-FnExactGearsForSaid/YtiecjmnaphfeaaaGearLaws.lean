/-
  The walks of the laws on single gears that say 'the program gives what the reference gives': each returns true, and makes new blocks alone.
-/
import Derived.Test.YtiecjmnaphfeaaaGearB
namespace Go.Proofs.Ytiecjmnaphfeaaa
open Go.RowKit

theorem fnExactGearOk_walk (a b : Int) (_ha : I64 a) (_hb : I64 b) (w : World) :
    Calls Try.prog 3 #[.agg #[.int .i64 a, .int .i64 b]] w fun e w' => e = .returned (.bool true) ∧ Below w.heap.size w w' := by
  go_enter Try.func3, Try.ntmps3
  go_wp2_with (go_at_call 17; refine (toGear_any _ _ _).mono ?_; rintro e w1 ⟨rfl, hb1⟩; have hk1 := (Blk.new w 23 #[.int .i64 a, .int .i64 b]).below hb1 (by simp))
  go_wp2_with (go_at_call 16; refine (sGearOk _ _ _).mono ?_; rintro e w2 ⟨rfl, hb2⟩; have hk2 := hk1.below hb2 hk1.lt; obtain ⟨k0, k1⟩ := hk2.c2)
  go_wp2_with (go_at_call 17; refine (toGear_any _ _ _).mono ?_; rintro e w3 ⟨rfl, hb3⟩)
  go_wp2_with (go_at_call 18; refine (iGearOk _ _ _).mono ?_; rintro e w4 ⟨rfl, hb4⟩)
  go_ret
  have hl := hk1.lt
  have z1 := hb2.size
  have z2 := hb3.size
  have b1 : Below w.heap.size w w1 := ((Below.refl _ _).alloc (Nat.le_refl _) _).trans (hb1.mono (by simp))
  have b2 := b1.trans (hb2.mono (by omega))
  have b3 := b2.trans (hb3.mono (by omega))
  exact ⟨rfl, b3.trans (hb4.mono (by omega))⟩

theorem fnExactErrorParts_walk (t : Int) (_ht : I64 t) (q : Int) (_hq : I64 q) (a b : Int) (_ha : I64 a) (_hb : I64 b) (w : World) :
    Calls Try.prog 14 #[.int .i64 t, .int .i64 q, .agg #[.int .i64 a, .int .i64 b]] w fun e w' => e = .returned (.bool true) ∧ Below w.heap.size w w' := by
  go_enter Try.func14, Try.ntmps14
  go_wp2_with (go_at_call 17; refine (toGear_any _ _ _).mono ?_; rintro e w1 ⟨rfl, hb1⟩; have hk1 := (Blk.new w 23 #[.int .i64 a, .int .i64 b]).below hb1 (by simp))
  go_wp2_with (go_at_call 49; refine (sErrorParts _ _ _ _ _).mono ?_; rintro e w2 ⟨rfl, hb2⟩; have hk2 := hk1.below hb2 hk1.lt; obtain ⟨k0, k1⟩ := hk2.c2)
  go_wp2_with (go_at_call 17; refine (toGear_any _ _ _).mono ?_; rintro e w3 ⟨rfl, hb3⟩)
  go_wp2_with (go_at_call 50; refine (iErrorParts _ _ _ _ _).mono ?_; rintro e w4 ⟨rfl, hb4⟩)
  go_ret
  have hl := hk1.lt
  have z1 := hb2.size
  have z2 := hb3.size
  have b1 : Below w.heap.size w w1 := ((Below.refl _ _).alloc (Nat.le_refl _) _).trans (hb1.mono (by simp))
  have b2 := b1.trans (hb2.mono (by omega))
  have b3 := b2.trans (hb3.mono (by omega))
  exact ⟨rfl, b3.trans (hb4.mono (by omega))⟩

theorem fnExactCloserOf_walk (t : Int) (_ht : I64 t) (b : Int) (_hb : I64 b) (x : Int) (_hx : I64 x) (y : Int) (_hy : I64 y) (u : Int) (_hu : I64 u) (v : Int) (_hv : I64 v) (w : World) :
    Calls Try.prog 12 #[.int .i64 t, .int .i64 b, .int .i64 x, .int .i64 y, .int .i64 u, .int .i64 v] w fun e w' => e = .returned (.bool true) ∧ Below w.heap.size w w' := by
  go_enter Try.func12, Try.ntmps12
  go_wp2_with (first | (go_at_call 45; refine (sCloserOf _ _ _ _ _ _ _).mono ?_; rintro e w' ⟨rfl, rfl⟩) | (go_at_call 46; refine (iCloserOf _ _ _ _ _ _ _).mono ?_; rintro e w1 ⟨rfl, hb1⟩))
  go_ret
  exact ⟨rfl, hb1⟩

theorem fnExactNearestGear_walk (t : Int) (_ht : I64 t) (b : Int) (_hb : I64 b) (w : World) :
    Calls Try.prog 13 #[.int .i64 t, .int .i64 b] w fun e w' => e = .returned (.bool true) ∧ Below w.heap.size w w' := by
  go_enter Try.func13, Try.ntmps13
  go_wp2_with (go_at_call 47; refine (sNearestGear _ _ _).mono ?_; rintro e w1 ⟨u, v, ok, rfl, hr, hb1⟩)
  go_wp2_with (go_at_call 48; refine (iNearestGear _ _ _).mono ?_; rintro e w2 ⟨u', v', ok', rfl, hr', hb2⟩; obtain ⟨rfl, rfl, rfl⟩ := hr.one hr'; have hk2 := (Blk.new w1 25 #[.int .i64 u, .int .i64 v]).below hb2 (by simp); obtain ⟨k0, k1⟩ := hk2.c2; have hl2 := hk2.lt)
  go_wp2_with (go_at_call 34; refine (eqGear_same _ _ _).mono ?_; rintro e w3 ⟨rfl, hb3⟩)
  go_ret
  have z1 := hb1.size
  have b2 := (hb1.alloc z1 _).trans (hb2.mono (by simp; omega))
  exact ⟨rfl, (b2.alloc b2.size _).trans (hb3.mono (by have := b2.size; simp; omega))⟩

theorem fnExactGearsFor_walk (t : Int) (_ht : I64 t) (b : Int) (_hb : I64 b) (w : World) :
    Calls Try.prog 8 #[.int .i64 t, .int .i64 b] w fun e w' => e = .returned (.bool true) ∧ Below w.heap.size w w' := by
  go_enter Try.func8, Try.ntmps8
  go_wp2_with (go_at_call 32; refine (sGearsFor _ _ _).mono ?_; rintro e w1 ⟨u, v, ok, rfl, hr, hb1⟩)
  go_wp2_with (go_at_call 33; refine (iGearsFor _ _ _).mono ?_; rintro e w2 ⟨u', v', ok', rfl, hr', hb2⟩; obtain ⟨rfl, rfl, rfl⟩ := hr.one hr'; have hk2 := (Blk.new w1 25 #[.int .i64 u, .int .i64 v]).below hb2 (by simp); obtain ⟨k0, k1⟩ := hk2.c2; have hl2 := hk2.lt)
  go_wp2_with (go_at_call 34; refine (eqGear_same _ _ _).mono ?_; rintro e w3 ⟨rfl, hb3⟩)
  go_ret
  have z1 := hb1.size
  have b2 := (hb1.alloc z1 _).trans (hb2.mono (by simp; omega))
  exact ⟨rfl, (b2.alloc b2.size _).trans (hb3.mono (by have := b2.size; simp; omega))⟩

end Go.Proofs.Ytiecjmnaphfeaaa
