/-
  The law of SweetFor, walked.
-/
import Derived.Test.YteidigbjllicpaaSweetFor
namespace Go.Proofs.Yteidigbjllicpaa
open Go.RowKit

theorem fnExactSweetFor_walk (W : World) (A : Option Addr) (n c : Nat) (xs : List Int) (r : Rd W W.heap.size 1 A n (xs.map (Value.int .i64))) (_l : xs.length = n) (_nc : n ≤ c) (nm : n ≤ 9223372036854775807) (_w : ∀ x ∈ xs, (Lit.int .i64 x).wf = true) (lo : Int) (_wlo : I64 lo) (hi : Int) (_whi : I64 hi) :
    Calls Try.prog 8 #[.slice A n c, .int .i64 lo, .int .i64 hi] W fun e w' => e = .returned (.bool true) ∧ Below W.heap.size W w' := by
  by_cases hn : n ≤ 1048576
  case neg =>
    have R := Lib.hid r
    clear r
    go_enter Try.func8, Try.ntmps8
    go_wp2
    go_ret
    exact ⟨rfl, Below.refl _ _⟩
  have S := Lib.hid (fun A c w h (_hc : n ≤ c) => sSweetFor A n c xs lo hi w h hn)
  have I := Lib.hid (fun A c w h (_hc : n ≤ c) => iSweetFor A n c xs lo hi w h hn)
  obtain ⟨ys, hys⟩ : ∃ ys, ys = sweetV xs lo hi := ⟨_, rfl⟩
  rw [← hys] at S I
  have hm2 : ys.length ≤ 1048576 := by rw [hys]; exact fnExactSweetFor_small
  have hmi : (ys.length : Int) ≤ 1048576 := by omega
  have R := Lib.hid r
  clear r hys
  go_enter Try.func8, Try.ntmps8
  go_wp2_with (go_at_call 15; refine (toIntS_any _ _ _ _ _ R.out hn).mono ?_; rintro e w1 ⟨A1, c1, rfl, ho, hb1⟩)
  have t1 := ho
  clear ho
  have b1 : Below W.heap.size W w1 := hb1
  go_wp2_with (go_at_call 25; refine (S.out _ _ _ (Rd.of_own t1) (own_capS t1)).mono ?_; rintro e w2 ⟨A2, c2, rfl, ho, hb2⟩)
  have v2 := ho
  clear ho
  have b2 : Below W.heap.size W w2 := b1.trans (hb2.mono b1.size)
  have t2 := own_below t1 hb2
  go_wp2_with (go_at_call 15; refine (toIntS_any _ _ _ _ _ ((R.out.below b2).more b2.size) hn).mono ?_; rintro e w3 ⟨A3, c3, rfl, ho, hb3⟩)
  have x3 := ho
  clear ho
  have b3 : Below W.heap.size W w3 := b2.trans (hb3.mono b2.size)
  have v3 := own_below v2 hb3
  have zx : W.heap.size ≤ w2.heap.size := b2.size
  have APvx := Lib.hid (own_apart v2 x3)
  go_wp2_with (go_at_call 26; refine (I.out _ _ _ (Rd.of_own x3) (own_capS x3)).mono ?_; rintro e w4 ⟨A4, c4, rfl, ho, hb4⟩)
  have g4 := ho
  clear ho
  have b4 : Below W.heap.size W w4 := b3.trans (hb4.mono b3.size)
  have v4 := own_below v3 hb4
  have x4 := own_below x3 hb4
  have zg : W.heap.size ≤ w3.heap.size := b3.size
  have APvg := Lib.hid (own_apart v3 g4)
  have APxg := Lib.hid (own_apart x3 g4)
  have APgx := Lib.hid (own_apart' x3 g4)
  go_wp2_with (go_at_call 17; refine (eqIntS_same _ _ _ _ _ _ _ (Rd.of_own g4) (Rd.of_own v4) (by omega)).mono ?_; rintro e w5 ⟨rfl, hb5⟩)
  have b5 : Below W.heap.size W w5 := b4.trans (hb5.mono b4.size)
  have v5 := own_below v4 hb5
  have x5 := own_below x4 hb5
  have g5 := own_below g4 hb5
  go_wp2_with (go_at_call 15; refine (toIntS_any _ _ _ _ _ ((R.out.below b5).more b5.size) hn).mono ?_; rintro e w6 ⟨A6, c6, rfl, ho, hb6⟩)
  have t6 := ho
  clear ho
  have b6 : Below W.heap.size W w6 := b5.trans (hb6.mono b5.size)
  have v6 := own_below v5 hb6
  have x6 := own_below x5 hb6
  have g6 := own_below g5 hb6
  go_wp2_with (go_at_call 17; refine (eqIntS_same _ _ _ _ _ _ _ (Rd.of_own x6) (Rd.of_own t6) (by omega)).mono ?_; rintro e w7 ⟨rfl, hb7⟩)
  have b7 : Below W.heap.size W w7 := b6.trans (hb7.mono b6.size)
  have v7 := own_below v6 hb7
  have x7 := own_below x6 hb7
  have g7 := own_below g6 hb7
  have t7 := own_below t6 hb7
  have hlt8 := x7.lt
  go_wp2_with (go_at_call 27; refine (markIntS_any _ _ _ _ 1 _ _ x7 (by omega) (by omega)).mono ?_; rintro e w8 ⟨rfl, ho, hg8⟩)
  have b8 : Below W.heap.size W w8 := b7.grown hg8 b7.size (fun q hq => by have := (hlt8 q hq).1; have := zx; omega)
  have v8 := v7.kept hg8 APvx.out
  have g8 := g7.kept hg8 APgx.out
  have x8 := ho
  clear ho hg8 hlt8
  go_wp2_with (go_at_call 17; refine (eqIntS_same _ _ _ _ _ _ _ (Rd.of_own g8) (Rd.of_own v8) (by omega)).mono ?_; rintro e w9 ⟨rfl, hb9⟩)
  have b9 : Below W.heap.size W w9 := b8.trans (hb9.mono b8.size)
  have v9 := own_below v8 hb9
  have x9 := own_below x8 hb9
  have g9 := own_below g8 hb9
  have hlt10 := g9.lt
  go_wp2_with (go_at_call 27; refine (markIntS_any _ _ _ _ 1 _ _ g9 (by omega) (by omega)).mono ?_; rintro e w10 ⟨rfl, ho, hg10⟩)
  have b10 : Below W.heap.size W w10 := b9.grown hg10 b9.size (fun q hq => by have := (hlt10 q hq).1; have := zg; omega)
  have v10 := v9.kept hg10 APvg.out
  have g10 := ho
  clear ho hg10 hlt10
  go_wp2_with (go_at_call 28; refine (heldIntS_any _ _ _ 1 _ (Rd.of_own g10) (by omega) (by omega)).mono ?_; rintro e w11 ⟨rfl, hb11⟩)
  have b11 : Below W.heap.size W w11 := b10.trans (hb11.mono b10.size)
  have v11 := own_below v10 hb11
  have g11 := own_below g10 hb11
  go_wp2_with (go_at_call 15; refine (toIntS_any _ _ _ _ _ ((R.out.below b11).more b11.size) hn).mono ?_; rintro e w12 ⟨A12, c12, rfl, ho, hb12⟩)
  have t12 := ho
  clear ho
  have b12 : Below W.heap.size W w12 := b11.trans (hb12.mono b11.size)
  have v12 := own_below v11 hb12
  have g12 := own_below g11 hb12
  go_wp2_with (go_at_call 26; refine (I.out _ _ _ (Rd.of_own t12) (own_capS t12)).mono ?_; rintro e w13 ⟨A13, c13, rfl, ho, hb13⟩)
  have h13 := ho
  clear ho
  have b13 : Below W.heap.size W w13 := b12.trans (hb13.mono b12.size)
  have v13 := own_below v12 hb13
  have g13 := own_below g12 hb13
  have t13 := own_below t12 hb13
  go_wp2_with (go_at_call 17; refine (eqIntS_same _ _ _ _ _ _ _ (Rd.of_own h13) (Rd.of_own v13) (by omega)).mono ?_; rintro e w14 ⟨rfl, hb14⟩)
  have b14 : Below W.heap.size W w14 := b13.trans (hb14.mono b13.size)
  have v14 := own_below v13 hb14
  have g14 := own_below g13 hb14
  have h14 := own_below h13 hb14
  go_wp2_with (go_at_call 28; refine (heldIntS_any _ _ _ 1 _ (Rd.of_own g14) (by omega) (by omega)).mono ?_; rintro e w15 ⟨rfl, hb15⟩)
  have b15 : Below W.heap.size W w15 := b14.trans (hb15.mono b14.size)
  have v15 := own_below v14 hb15
  have g15 := own_below g14 hb15
  have h15 := own_below h14 hb15
  go_ret
  exact ⟨rfl, b15⟩

end Go.Proofs.Yteidigbjllicpaa
