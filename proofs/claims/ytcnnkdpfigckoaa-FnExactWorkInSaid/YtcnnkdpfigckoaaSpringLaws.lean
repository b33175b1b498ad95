/-
  The walks of the laws on springs that say 'the program gives what the reference gives': each returns true, and makes new blocks alone.
-/
import Derived.Test.YtcnnkdpfigckoaaSpring
namespace Go.Proofs.Ytcnnkdpfigckoaa
open Go.RowKit

theorem fnExactSpringOk_walk (t m f : Int) (_ht : I64 t) (_hm : I64 m) (_hf : I64 f) (w : World) :
    Calls Try.prog 3 #[.agg #[.int .i64 t, .int .i64 m, .int .i64 f]] w fun e w' => e = .returned (.bool true) ∧ Below w.heap.size w w' := by
  go_enter Try.func3, Try.ntmps3
  go_wp2_with (go_at_call 17; refine (toSpring_any _ _ _ _).mono ?_; rintro e w1 ⟨rfl, hb1⟩; have hk1 := (Blk.new w 23 #[.int .i64 t, .int .i64 m, .int .i64 f]).below hb1 (by simp))
  go_wp2_with (go_at_call 16; refine (sSpringOk _ _ _ _).mono ?_; rintro e w2 ⟨rfl, hb2⟩; have hk2 := hk1.below hb2 hk1.lt; obtain ⟨k0, k1, k2⟩ := hk2.c3)
  go_wp2_with (go_at_call 17; refine (toSpring_any _ _ _ _).mono ?_; rintro e w3 ⟨rfl, hb3⟩)
  go_wp2_with (go_at_call 18; refine (iSpringOk _ _ _ _).mono ?_; rintro e w4 ⟨rfl, hb4⟩)
  go_ret
  have hl := hk1.lt
  have z1 := hb2.size
  have z2 := hb3.size
  have b1 : Below w.heap.size w w1 := ((Below.refl _ _).alloc (Nat.le_refl _) _).trans (hb1.mono (by simp))
  have b2 := b1.trans (hb2.mono (by omega))
  have b3 := b2.trans (hb3.mono (by omega))
  exact ⟨rfl, b3.trans (hb4.mono (by omega))⟩

theorem fnExactForceNow_walk (t m f : Int) (_ht : I64 t) (_hm : I64 m) (_hf : I64 f) (w : World) :
    Calls Try.prog 4 #[.agg #[.int .i64 t, .int .i64 m, .int .i64 f]] w fun e w' => e = .returned (.bool true) ∧ Below w.heap.size w w' := by
  go_enter Try.func4, Try.ntmps4
  go_wp2_with (go_at_call 17; refine (toSpring_any _ _ _ _).mono ?_; rintro e w1 ⟨rfl, hb1⟩; have hk1 := (Blk.new w 23 #[.int .i64 t, .int .i64 m, .int .i64 f]).below hb1 (by simp))
  go_wp2_with (go_at_call 19; refine (sForceNow _ _ _ _).mono ?_; rintro e w2 ⟨rfl, hb2⟩; have hk2 := hk1.below hb2 hk1.lt; obtain ⟨k0, k1, k2⟩ := hk2.c3)
  go_wp2_with (go_at_call 17; refine (toSpring_any _ _ _ _).mono ?_; rintro e w3 ⟨rfl, hb3⟩)
  go_wp2_with (go_at_call 20; refine (iForceNow _ _ _ _).mono ?_; rintro e w4 ⟨rfl, hb4⟩)
  go_ret
  have hl := hk1.lt
  have z1 := hb2.size
  have z2 := hb3.size
  have b1 : Below w.heap.size w w1 := ((Below.refl _ _).alloc (Nat.le_refl _) _).trans (hb1.mono (by simp))
  have b2 := b1.trans (hb2.mono (by omega))
  have b3 := b2.trans (hb3.mono (by omega))
  exact ⟨rfl, b3.trans (hb4.mono (by omega))⟩

theorem fnExactWorkIn_walk (t m f : Int) (_ht : I64 t) (_hm : I64 m) (_hf : I64 f) (w : World) :
    Calls Try.prog 8 #[.agg #[.int .i64 t, .int .i64 m, .int .i64 f]] w fun e w' => e = .returned (.bool true) ∧ Below w.heap.size w w' := by
  go_enter Try.func8, Try.ntmps8
  go_wp2_with (go_at_call 17; refine (toSpring_any _ _ _ _).mono ?_; rintro e w1 ⟨rfl, hb1⟩; have hk1 := (Blk.new w 23 #[.int .i64 t, .int .i64 m, .int .i64 f]).below hb1 (by simp))
  go_wp2_with (go_at_call 28; refine (sWorkIn _ _ _ _).mono ?_; rintro e w2 ⟨rfl, hb2⟩; have hk2 := hk1.below hb2 hk1.lt; obtain ⟨k0, k1, k2⟩ := hk2.c3)
  go_wp2_with (go_at_call 17; refine (toSpring_any _ _ _ _).mono ?_; rintro e w3 ⟨rfl, hb3⟩)
  go_wp2_with (go_at_call 29; refine (iWorkIn _ _ _ _).mono ?_; rintro e w4 ⟨rfl, hb4⟩)
  go_ret
  have hl := hk1.lt
  have z1 := hb2.size
  have z2 := hb3.size
  have b1 : Below w.heap.size w w1 := ((Below.refl _ _).alloc (Nat.le_refl _) _).trans (hb1.mono (by simp))
  have b2 := b1.trans (hb2.mono (by omega))
  have b3 := b2.trans (hb3.mono (by omega))
  exact ⟨rfl, b3.trans (hb4.mono (by omega))⟩

theorem fnExactTurnsWith_walk (t m f : Int) (_ht : I64 t) (_hm : I64 m) (_hf : I64 f) (k : Int) (_hk : I64 k) (w : World) :
    Calls Try.prog 7 #[.agg #[.int .i64 t, .int .i64 m, .int .i64 f], .int .i64 k] w fun e w' => e = .returned (.bool true) ∧ Below w.heap.size w w' := by
  go_enter Try.func7, Try.ntmps7
  go_wp2_with (go_at_call 17; refine (toSpring_any _ _ _ _).mono ?_; rintro e w1 ⟨rfl, hb1⟩; have hk1 := (Blk.new w 23 #[.int .i64 t, .int .i64 m, .int .i64 f]).below hb1 (by simp))
  go_wp2_with (go_at_call 26; refine (sTurnsWith _ _ _ _ _).mono ?_; rintro e w2 ⟨rfl, hb2⟩; have hk2 := hk1.below hb2 hk1.lt; obtain ⟨k0, k1, k2⟩ := hk2.c3)
  go_wp2_with (go_at_call 17; refine (toSpring_any _ _ _ _).mono ?_; rintro e w3 ⟨rfl, hb3⟩)
  go_wp2_with (go_at_call 27; refine (iTurnsWith _ _ _ _ _).mono ?_; rintro e w4 ⟨rfl, hb4⟩)
  go_ret
  have hl := hk1.lt
  have z1 := hb2.size
  have z2 := hb3.size
  have b1 : Below w.heap.size w w1 := ((Below.refl _ _).alloc (Nat.le_refl _) _).trans (hb1.mono (by simp))
  have b2 := b1.trans (hb2.mono (by omega))
  have b3 := b2.trans (hb3.mono (by omega))
  exact ⟨rfl, b3.trans (hb4.mono (by omega))⟩

theorem fnExactWind_walk (t m f : Int) (_ht : I64 t) (_hm : I64 m) (_hf : I64 f) (k : Int) (_hk : I64 k) (w : World) :
    Calls Try.prog 5 #[.agg #[.int .i64 t, .int .i64 m, .int .i64 f], .int .i64 k] w fun e w' => e = .returned (.bool true) ∧ Below w.heap.size w w' := by
  obtain ⟨x, hx⟩ : ∃ x, x = (WindT t m f k).1 := ⟨_, rfl⟩
  obtain ⟨y, hy⟩ : ∃ y, y = (WindT t m f k).2 := ⟨_, rfl⟩
  have s1 := sWind t m f k
  have i1 := iWind t m f k
  rw [← hx, ← hy] at s1 i1
  have S := Lib.hid s1
  have I := Lib.hid i1
  clear s1 i1 hx hy
  go_enter Try.func5, Try.ntmps5
  go_wp2_with (go_at_call 17; refine (toSpring_any _ _ _ _).mono ?_; rintro e w1 ⟨rfl, hb1⟩; have hk1 := (Blk.new w 23 #[.int .i64 t, .int .i64 m, .int .i64 f]).below hb1 (by simp))
  go_wp2_with (go_at_call 21; refine (S.out _).mono ?_; rintro e w2 ⟨rfl, hb2⟩; have hk2 := hk1.below hb2 hk1.lt; obtain ⟨k0, k1, k2⟩ := hk2.c3; have hl2 := hk2.lt)
  go_wp2_with (go_at_call 17; refine (toSpring_any _ _ _ _).mono ?_; rintro e w3 ⟨rfl, hb3⟩; have hr3 := (Blk.new w2 25 #[.int .i64 x, .int .i64 m, .int .i64 f]).below hb3 (by simp))
  go_wp2_with (go_at_call 22; refine (I.out _).mono ?_; rintro e w4 ⟨rfl, hb4⟩; have hr4 := hr3.below hb4 hr3.lt; obtain ⟨r0, r1, r2⟩ := hr4.c3; have hl4 := hr4.lt)
  go_wp2_with (go_at_call 23; refine (eqSpring_same _ _ _ _).mono ?_; rintro e w5 ⟨rfl, hb5⟩)
  go_ret
  have z1 := hb2.size
  have z2 := hb3.size
  have z3 := hb4.size
  simp at z2
  have b1 : Below w.heap.size w w1 := ((Below.refl _ _).alloc (Nat.le_refl _) _).trans (hb1.mono (by simp))
  have b2 := b1.trans (hb2.mono (by have := hk1.lt; omega))
  have b3 := (b2.alloc (by omega) _).trans (hb3.mono (by simp; omega))
  have b4 := b3.trans (hb4.mono (by omega))
  exact ⟨rfl, (b4.alloc (by omega) _).trans (hb5.mono (by simp; omega))⟩

theorem fnExactUnwind_walk (t m f : Int) (_ht : I64 t) (_hm : I64 m) (_hf : I64 f) (k : Int) (_hk : I64 k) (w : World) :
    Calls Try.prog 6 #[.agg #[.int .i64 t, .int .i64 m, .int .i64 f], .int .i64 k] w fun e w' => e = .returned (.bool true) ∧ Below w.heap.size w w' := by
  obtain ⟨x, hx⟩ : ∃ x, x = (UnwindT t m f k).1 := ⟨_, rfl⟩
  obtain ⟨y, hy⟩ : ∃ y, y = (UnwindT t m f k).2 := ⟨_, rfl⟩
  have s1 := sUnwind t m f k
  have i1 := iUnwind t m f k
  rw [← hx, ← hy] at s1 i1
  have S := Lib.hid s1
  have I := Lib.hid i1
  clear s1 i1 hx hy
  go_enter Try.func6, Try.ntmps6
  go_wp2_with (go_at_call 17; refine (toSpring_any _ _ _ _).mono ?_; rintro e w1 ⟨rfl, hb1⟩; have hk1 := (Blk.new w 23 #[.int .i64 t, .int .i64 m, .int .i64 f]).below hb1 (by simp))
  go_wp2_with (go_at_call 24; refine (S.out _).mono ?_; rintro e w2 ⟨rfl, hb2⟩; have hk2 := hk1.below hb2 hk1.lt; obtain ⟨k0, k1, k2⟩ := hk2.c3; have hl2 := hk2.lt)
  go_wp2_with (go_at_call 17; refine (toSpring_any _ _ _ _).mono ?_; rintro e w3 ⟨rfl, hb3⟩; have hr3 := (Blk.new w2 25 #[.int .i64 x, .int .i64 m, .int .i64 f]).below hb3 (by simp))
  go_wp2_with (go_at_call 25; refine (I.out _).mono ?_; rintro e w4 ⟨rfl, hb4⟩; have hr4 := hr3.below hb4 hr3.lt; obtain ⟨r0, r1, r2⟩ := hr4.c3; have hl4 := hr4.lt)
  go_wp2_with (go_at_call 23; refine (eqSpring_same _ _ _ _).mono ?_; rintro e w5 ⟨rfl, hb5⟩)
  go_ret
  have z1 := hb2.size
  have z2 := hb3.size
  have z3 := hb4.size
  simp at z2
  have b1 : Below w.heap.size w w1 := ((Below.refl _ _).alloc (Nat.le_refl _) _).trans (hb1.mono (by simp))
  have b2 := b1.trans (hb2.mono (by have := hk1.lt; omega))
  have b3 := (b2.alloc (by omega) _).trans (hb3.mono (by simp; omega))
  have b4 := b3.trans (hb4.mono (by omega))
  exact ⟨rfl, (b4.alloc (by omega) _).trans (hb5.mono (by simp; omega))⟩
end Go.Proofs.Ytcnnkdpfigckoaa
