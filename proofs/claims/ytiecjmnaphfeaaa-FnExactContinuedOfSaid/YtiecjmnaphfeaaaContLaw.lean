/-
  The law of ContinuedOf, walked.
-/
import Derived.Test.YtiecjmnaphfeaaaCont
namespace Go.Proofs.Ytiecjmnaphfeaaa
open Go.RowKit

theorem fnExactContinuedOf_walk (a : Int) (_wa : I64 a) (b : Int) (_wb : I64 b) (W : World) :
    Calls Try.prog 10 #[.int .i64 a, .int .i64 b] W fun e w' => e = .returned (.bool true) ∧ Below W.heap.size W w' := by
  have S := Lib.hid (fun w => sContinuedOf a b w)
  have I := Lib.hid (fun w => iContinuedOf a b w)
  obtain ⟨ys, hys⟩ : ∃ ys, ys = contV a b := ⟨_, rfl⟩
  rw [← hys] at S I
  have hm2 : ys.length ≤ 1048576 := by rw [hys]; exact fnExactContinuedOf_small
  have hmi : (ys.length : Int) ≤ 1048576 := by omega
  clear hys
  go_enter Try.func10, Try.ntmps10
  go_wp2_with (go_at_call 37; refine (S.out _).mono ?_; rintro e w1 ⟨A1, c1, rfl, ho, hb1⟩)
  have v1 := ho
  clear ho
  have b1 : Below W.heap.size W w1 := hb1
  go_wp2_with (go_at_call 38; refine (I.out _).mono ?_; rintro e w2 ⟨A2, c2, rfl, ho, hb2⟩)
  have g2 := ho
  clear ho
  have b2 : Below W.heap.size W w2 := b1.trans (hb2.mono b1.size)
  have v2 := own_below v1 hb2
  have zg : W.heap.size ≤ w1.heap.size := b1.size
  have APvg := Lib.hid (own_apart v1 g2)
  go_wp2_with (go_at_call 39; refine (eqIntS_same _ _ _ _ _ _ _ (Rd.of_own g2) (Rd.of_own v2) (by omega)).mono ?_; rintro e w3 ⟨rfl, hb3⟩)
  have b3 : Below W.heap.size W w3 := b2.trans (hb3.mono b2.size)
  have v3 := own_below v2 hb3
  have g3 := own_below g2 hb3
  have hlt4 := g3.lt
  go_wp2_with (go_at_call 40; refine (markIntS_any _ _ _ _ 1 _ _ g3 (by omega) (by omega)).mono ?_; rintro e w4 ⟨rfl, ho, hg4⟩)
  have b4 : Below W.heap.size W w4 := b3.grown hg4 b3.size (fun q hq => by have := (hlt4 q hq).1; have := zg; omega)
  have v4 := v3.kept hg4 APvg.out
  have g4 := ho
  clear ho hg4 hlt4
  go_wp2_with (go_at_call 41; refine (heldIntS_any _ _ _ 1 _ (Rd.of_own g4) (by omega) (by omega)).mono ?_; rintro e w5 ⟨rfl, hb5⟩)
  have b5 : Below W.heap.size W w5 := b4.trans (hb5.mono b4.size)
  have v5 := own_below v4 hb5
  have g5 := own_below g4 hb5
  go_wp2_with (go_at_call 38; refine (I.out _).mono ?_; rintro e w6 ⟨A6, c6, rfl, ho, hb6⟩)
  have h6 := ho
  clear ho
  have b6 : Below W.heap.size W w6 := b5.trans (hb6.mono b5.size)
  have v6 := own_below v5 hb6
  have g6 := own_below g5 hb6
  go_wp2_with (go_at_call 39; refine (eqIntS_same _ _ _ _ _ _ _ (Rd.of_own h6) (Rd.of_own v6) (by omega)).mono ?_; rintro e w7 ⟨rfl, hb7⟩)
  have b7 : Below W.heap.size W w7 := b6.trans (hb7.mono b6.size)
  have v7 := own_below v6 hb7
  have g7 := own_below g6 hb7
  have h7 := own_below h6 hb7
  go_wp2_with (go_at_call 41; refine (heldIntS_any _ _ _ 1 _ (Rd.of_own g7) (by omega) (by omega)).mono ?_; rintro e w8 ⟨rfl, hb8⟩)
  have b8 : Below W.heap.size W w8 := b7.trans (hb8.mono b7.size)
  have v8 := own_below v7 hb8
  have g8 := own_below g7 hb8
  have h8 := own_below h7 hb8
  go_ret
  exact ⟨rfl, b8⟩

end Go.Proofs.Ytiecjmnaphfeaaa
