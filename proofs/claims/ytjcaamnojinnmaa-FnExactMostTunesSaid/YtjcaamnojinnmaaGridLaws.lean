/-
  The laws of CombForAll and of MostTunes, walked.
-/
import Derived.Test.YtjcaamnojinnmaaMarkGrid
import Derived.Test.YtjcaamnojinnmaaCombAll
import Derived.Test.YtjcaamnojinnmaaMostTunesS
import Derived.Test.YtjcaamnojinnmaaIntS
namespace Go.Proofs.Ytjcaamnojinnmaa
open Go.RowKit

set_option maxHeartbeats 2000000 in
theorem fnExactCombForAll_walk (W : World) (A : Option Addr) (n c : Nat) (hs : List (Option Addr × Nat)) (ts : List (List (Int × Int))) (r : RowsIn W A n hs ts) (_nc : n ≤ c) (nm : n ≤ 9223372036854775807) (A' : Option Addr) (n' c' : Nat) (ch : List Int) (r' : Rd W W.heap.size 1 A' n' (ch.map (Value.int .i64))) (_l' : ch.length = n') (_nc' : n' ≤ c') (nm' : n' ≤ 9223372036854775807) (_w' : ∀ x ∈ ch, (Lit.int .i64 x).wf = true) (q : Int) (_wq : I64 q) :
    Calls Try.prog 4 #[.slice A n c, .slice A' n' c', .int .i64 q] W fun e w' => e = .returned (.bool true) ∧ Below W.heap.size W w' := by
  have R := Lib.hid r
  have SZ := Lib.hid (szGrid2 A n c hs ts W r nm)
  have R' := Lib.hid r'
  have hni' : (n' : Int) ≤ 9223372036854775807 := by omega
  clear r r'
  by_cases hn' : (n' : Int) ≤ 1048576
  case neg =>
    go_enter Try.func4, Try.ntmps4
    go_wp2
    go_ret
    exact ⟨rfl, by (repeat (first | exact Below.refl _ _ | assumption | refine Below.alloc ?_ (by first | omega | (simp <;> omega)) _ | refine Below.setCell ?_ (by first | omega | (simp <;> omega)) _ | refine Below.drew ?_ | refine Below.trans ?_ (Below.mono (by assumption) (by first | omega | (simp <;> omega)))))⟩
  have hn2' : n' ≤ 1048576 := by omega
  go_enter Try.func4, Try.ntmps4
  go_wp2_with fail
  refine SZ.out.mono ?_
  rintro e w' ⟨z, rfl, hz, rfl⟩
  rcases hz with hz | ⟨hz0, hz1, hn, hsum⟩
  · go_wp2
    go_ret
    exact ⟨rfl, by (repeat (first | exact Below.refl _ _ | assumption | refine Below.alloc ?_ (by first | omega | (simp <;> omega)) _ | refine Below.setCell ?_ (by first | omega | (simp <;> omega)) _ | refine Below.drew ?_ | refine Below.trans ?_ (Below.mono (by assumption) (by first | omega | (simp <;> omega)))))⟩
  have RR := Lib.hid (R.out.rd fun t ht => Nat.le_trans (sumL_mem ht) hsum)
  have S := Lib.hid (fun A c hs w h A' c' h' => sCombForAll A n c hs ts A' n' c' ch q w h h' hn hn2')
  have I := Lib.hid (fun A c hs w h A' c' h' => iCombForAll A n c hs ts A' n' c' ch q w h h' hn hn2')
  obtain ⟨ys, hys⟩ : ∃ ys, ys = combV ts ch q := ⟨_, rfl⟩
  have hm2 : ys.length ≤ 1048576 := by rw [hys]; exact Nat.le_trans (combV_len ts ch q) (by omega)
  have hmi : (ys.length : Int) ≤ 1048576 := by omega
  rw [← hys] at S I
  generalize combOkB ts ch q = ok at *
  have hsi : (sumL ts : Int) ≤ 1048576 := by omega
  clear hys
  go_wp2_with (go_at_call 10; refine (toGrid _ _ _ _ _ _ RR.out hn).mono ?_; rintro e w1 ⟨A1, c1, hs1, rfl, t1, hb1⟩)
  have b1 : Below W.heap.size W w1 := hb1
  go_wp2_with (go_at_call 11; refine (toIntS_any _ _ _ _ _ ((R'.out.below b1).more b1.size) hn2').mono ?_; rintro e w2 ⟨A2, c2, rfl, u2, hb2⟩)
  have b2 : Below W.heap.size W w2 := b1.trans (hb2.mono b1.size)
  have t2 := t1.below hb2
  clear t1
  go_wp2_with (go_at_call 15; refine (S.out _ _ _ _ t2.rd _ _ (Rd.of_own u2)).mono ?_; rintro e w3 ⟨A3, c3, rfl, v3, hb3⟩)
  have b3 : Below W.heap.size W w3 := b2.trans (hb3.mono b2.size)
  have t3 := t2.below hb3
  clear t2
  have u3 := own_below u2 hb3
  clear u2
  clear t3
  clear u3
  have LV := Lib.hid v3.lt
  go_wp2_with (go_at_call 10; refine (toGrid _ _ _ _ _ _ (RR.out.step b3) hn).mono ?_; rintro e w4 ⟨A4, c4, hs4, rfl, x4, hb4⟩)
  have b4 : Below W.heap.size W w4 := b3.trans (hb4.mono b3.size)
  have v4 := own_below v3 hb4
  clear v3
  have zx : W.heap.size ≤ w3.heap.size := b3.size
  have zx2 : w3.heap.size ≤ w4.heap.size := hb4.size
  have vv := v4
  go_wp2_with (go_at_call 11; refine (toIntS_any _ _ _ _ _ ((R'.out.below b4).more b4.size) hn2').mono ?_; rintro e w5 ⟨A5, c5, rfl, y5, hb5⟩)
  have b5 : Below W.heap.size W w5 := b4.trans (hb5.mono b4.size)
  have v5 := own_below v4 hb5
  clear v4
  have x5 := x4.below hb5
  clear x4
  have APvy := Lib.hid (own_apart vv y5)
  have LY := Lib.hid y5.lt
  clear vv
  have zy : W.heap.size ≤ w4.heap.size := b4.size
  have vv := v5
  have yy := y5
  go_wp2_with (go_at_call 16; refine (I.out _ _ _ _ x5.rd _ _ (Rd.of_own y5)).mono ?_; rintro e w6 ⟨A6, c6, rfl, g6, hb6⟩)
  have b6 : Below W.heap.size W w6 := b5.trans (hb6.mono b5.size)
  have v6 := own_below v5 hb6
  clear v5
  have x6 := x5.below hb6
  clear x5
  have y6 := own_below y5 hb6
  clear y5
  have APvg := Lib.hid (own_apart vv g6)
  have APgy := Lib.hid (own_apart' yy g6)
  have LG := Lib.hid g6.lt
  have zg : W.heap.size ≤ w5.heap.size := b5.size
  have zg2 : w4.heap.size ≤ w5.heap.size := hb5.size
  clear vv yy
  go_wp2_with (go_at_call 14; refine (eqIntS_same _ _ _ _ _ _ _ (Rd.of_own g6) (Rd.of_own v6) (by omega)).mono ?_; rintro e w7 ⟨rfl, hb7⟩)
  have b7 : Below W.heap.size W w7 := b6.trans (hb7.mono b6.size)
  have v7 := own_below v6 hb7
  clear v6
  have x7 := x6.below hb7
  clear x6
  have y7 := own_below y6 hb7
  clear y6
  have g7 := own_below g6 hb7
  clear g6
  go_wp2_with (go_at_call 10; refine (toGrid _ _ _ _ _ _ (RR.out.step b7) hn).mono ?_; rintro e w8 ⟨A8, c8, hs8, rfl, t8, hb8⟩)
  have b8 : Below W.heap.size W w8 := b7.trans (hb8.mono b7.size)
  have v8 := own_below v7 hb8
  clear v7
  have x8 := x7.below hb8
  clear x7
  have y8 := own_below y7 hb8
  clear y7
  have g8 := own_below g7 hb8
  clear g7
  go_wp2_with (go_at_call 13; refine (eqGrid _ _ _ _ _ _ _ _ _ x8.rd t8.rd hn).mono ?_; rintro e w9 ⟨rfl, hb9⟩)
  have b9 : Below W.heap.size W w9 := b8.trans (hb9.mono b8.size)
  have v9 := own_below v8 hb9
  clear v8
  have x9 := x8.below hb9
  clear x8
  have y9 := own_below y8 hb9
  clear y8
  have g9 := own_below g8 hb9
  clear g8
  have t9 := t8.below hb9
  clear t8
  clear t9
  go_wp2_with (go_at_call 11; refine (toIntS_any _ _ _ _ _ ((R'.out.below b9).more b9.size) hn2').mono ?_; rintro e w10 ⟨A10, c10, rfl, u10, hb10⟩)
  have b10 : Below W.heap.size W w10 := b9.trans (hb10.mono b9.size)
  have v10 := own_below v9 hb10
  clear v9
  have x10 := x9.below hb10
  clear x9
  have y10 := own_below y9 hb10
  clear y9
  have g10 := own_below g9 hb10
  clear g9
  go_wp2_with (go_at_call 14; refine (eqIntS_same _ _ _ _ _ _ _ (Rd.of_own y10) (Rd.of_own u10) (by omega)).mono ?_; rintro e w11 ⟨rfl, hb11⟩)
  have b11 : Below W.heap.size W w11 := b10.trans (hb11.mono b10.size)
  have v11 := own_below v10 hb11
  clear v10
  have x11 := x10.below hb11
  clear x10
  have y11 := own_below y10 hb11
  clear y10
  have g11 := own_below g10 hb11
  clear g10
  have u11 := own_below u10 hb11
  clear u10
  clear u11
  go_wp2_with (go_at_call 17; refine (markGrid _ _ _ _ _ _ _ _ x11 hn hsum).mono ?_; rintro e w12 ⟨rfl, hbt12⟩)
  have b12 : Below W.heap.size W w12 := b11.trans (hbt12.below zx b11.size)
  have v12 := own_between v11 hbt12 (fun b hb => Or.inl (LV.out b hb).2)
  clear v11
  have y12 := own_between y11 hbt12 (fun b hb => Or.inr (LY.out b hb).1)
  clear y11
  have g12 := own_between g11 hbt12 (fun b hb => Or.inr (Nat.le_trans zg2 (LG.out b hb).1))
  clear g11
  clear hbt12
  clear x11
  have hlt13 := y12.lt
  go_wp2_with (go_at_call 18; refine (markIntS_any _ _ _ _ (1 + 2 * (sumL ts : Nat)) _ _ y12 (by omega) (by omega)).mono ?_; rintro e w13 ⟨rfl, y13, hg13⟩)
  have b13 : Below W.heap.size W w13 := b12.grown hg13 b12.size (fun q hq => by have := (hlt13 q hq).1; have := zy; omega)
  have v13 := v12.kept hg13 APvy.out
  clear v12
  have g13 := g12.kept hg13 APgy.out
  clear g12
  clear hg13 hlt13
  clear y13
  go_wp2_with (go_at_call 14; refine (eqIntS_same _ _ _ _ _ _ _ (Rd.of_own g13) (Rd.of_own v13) (by omega)).mono ?_; rintro e w14 ⟨rfl, hb14⟩)
  have b14 : Below W.heap.size W w14 := b13.trans (hb14.mono b13.size)
  have v14 := own_below v13 hb14
  clear v13
  have g14 := own_below g13 hb14
  clear g13
  have hlt15 := g14.lt
  go_wp2_with (go_at_call 18; refine (markIntS_any _ _ _ _ 1 _ _ g14 (by omega) (by omega)).mono ?_; rintro e w15 ⟨rfl, g15, hg15⟩)
  have b15 : Below W.heap.size W w15 := b14.grown hg15 b14.size (fun q hq => by have := (hlt15 q hq).1; have := zg; omega)
  have v15 := v14.kept hg15 APvg.out
  clear v14
  clear hg15 hlt15
  go_wp2_with (go_at_call 19; refine (heldIntS_any _ _ _ 1 _ (Rd.of_own g15) (by omega) (by omega)).mono ?_; rintro e w16 ⟨rfl, hb16⟩)
  have b16 : Below W.heap.size W w16 := b15.trans (hb16.mono b15.size)
  have v16 := own_below v15 hb16
  clear v15
  have g16 := own_below g15 hb16
  clear g15
  go_wp2_with (go_at_call 10; refine (toGrid _ _ _ _ _ _ (RR.out.step b16) hn).mono ?_; rintro e w17 ⟨A17, c17, hs17, rfl, t17, hb17⟩)
  have b17 : Below W.heap.size W w17 := b16.trans (hb17.mono b16.size)
  have v17 := own_below v16 hb17
  clear v16
  have g17 := own_below g16 hb17
  clear g16
  go_wp2_with (go_at_call 11; refine (toIntS_any _ _ _ _ _ ((R'.out.below b17).more b17.size) hn2').mono ?_; rintro e w18 ⟨A18, c18, rfl, u18, hb18⟩)
  have b18 : Below W.heap.size W w18 := b17.trans (hb18.mono b17.size)
  have v18 := own_below v17 hb18
  clear v17
  have g18 := own_below g17 hb18
  clear g17
  have t18 := t17.below hb18
  clear t17
  go_wp2_with (go_at_call 16; refine (I.out _ _ _ _ t18.rd _ _ (Rd.of_own u18)).mono ?_; rintro e w19 ⟨A19, c19, rfl, h19, hb19⟩)
  have b19 : Below W.heap.size W w19 := b18.trans (hb19.mono b18.size)
  have v19 := own_below v18 hb19
  clear v18
  have g19 := own_below g18 hb19
  clear g18
  have t19 := t18.below hb19
  clear t18
  have u19 := own_below u18 hb19
  clear u18
  clear t19
  clear u19
  go_wp2_with (go_at_call 14; refine (eqIntS_same _ _ _ _ _ _ _ (Rd.of_own h19) (Rd.of_own v19) (by omega)).mono ?_; rintro e w20 ⟨rfl, hb20⟩)
  have b20 : Below W.heap.size W w20 := b19.trans (hb20.mono b19.size)
  have v20 := own_below v19 hb20
  clear v19
  have g20 := own_below g19 hb20
  clear g19
  have h20 := own_below h19 hb20
  clear h19
  go_wp2_with (go_at_call 19; refine (heldIntS_any _ _ _ 1 _ (Rd.of_own g20) (by omega) (by omega)).mono ?_; rintro e w21 ⟨rfl, hb21⟩)
  have b21 : Below W.heap.size W w21 := b20.trans (hb21.mono b20.size)
  have v21 := own_below v20 hb21
  clear v20
  have g21 := own_below g20 hb21
  clear g20
  have h21 := own_below h20 hb21
  clear h20
  go_ret
  exact ⟨rfl, b21⟩

set_option maxHeartbeats 2000000 in
theorem fnExactMostTunes_walk (W : World) (A : Option Addr) (n c : Nat) (hs : List (Option Addr × Nat)) (ts : List (List (Int × Int))) (r : RowsIn W A n hs ts) (_nc : n ≤ c) (nm : n ≤ 9223372036854775807) (q : Int) (_wq : I64 q) (k : Int) (_wk : I64 k) :
    Calls Try.prog 5 #[.slice A n c, .int .i64 q, .int .i64 k] W fun e w' => e = .returned (.bool true) ∧ Below W.heap.size W w' := by
  have R := Lib.hid r
  have SZ := Lib.hid (szGrid2 A n c hs ts W r nm)
  clear r
  go_enter Try.func5, Try.ntmps5
  go_wp2_with fail
  refine SZ.out.mono ?_
  rintro e w' ⟨z, rfl, hz, rfl⟩
  rcases hz with hz | ⟨hz0, hz1, hn, hsum⟩
  · go_wp2
    go_ret
    exact ⟨rfl, by (repeat (first | exact Below.refl _ _ | assumption | refine Below.alloc ?_ (by first | omega | (simp <;> omega)) _ | refine Below.setCell ?_ (by first | omega | (simp <;> omega)) _ | refine Below.drew ?_ | refine Below.trans ?_ (Below.mono (by assumption) (by first | omega | (simp <;> omega)))))⟩
  have RR := Lib.hid (R.out.rd fun t ht => Nat.le_trans (sumL_mem ht) hsum)
  have S := Lib.hid (fun A c hs w h => sMostTunes A n c hs ts q k w h hn)
  have I := Lib.hid (fun A c hs w h => iMostTunes A n c hs ts q k w h hn)
  obtain ⟨ys, hys⟩ : ∃ ys, ys = mostV ts q k := ⟨_, rfl⟩
  have hm2 : ys.length ≤ 1048576 := by rw [hys]; exact Nat.le_trans mostV_len (by omega)
  have hmi : (ys.length : Int) ≤ 1048576 := by omega
  rw [← hys] at S I
  generalize mostOkB ts q k = ok at *
  have hsi : (sumL ts : Int) ≤ 1048576 := by omega
  clear hys
  go_wp2_with (go_at_call 10; refine (toGrid _ _ _ _ _ _ RR.out hn).mono ?_; rintro e w1 ⟨A1, c1, hs1, rfl, t1, hb1⟩)
  have b1 : Below W.heap.size W w1 := hb1
  go_wp2_with (go_at_call 20; refine (S.out _ _ _ _ t1.rd).mono ?_; rintro e w2 ⟨A2, c2, rfl, v2, hb2⟩)
  have b2 : Below W.heap.size W w2 := b1.trans (hb2.mono b1.size)
  have t2 := t1.below hb2
  clear t1
  clear t2
  have LV := Lib.hid v2.lt
  go_wp2_with (go_at_call 10; refine (toGrid _ _ _ _ _ _ (RR.out.step b2) hn).mono ?_; rintro e w3 ⟨A3, c3, hs3, rfl, x3, hb3⟩)
  have b3 : Below W.heap.size W w3 := b2.trans (hb3.mono b2.size)
  have v3 := own_below v2 hb3
  clear v2
  have zx : W.heap.size ≤ w2.heap.size := b2.size
  have zx2 : w2.heap.size ≤ w3.heap.size := hb3.size
  have vv := v3
  go_wp2_with (go_at_call 21; refine (I.out _ _ _ _ x3.rd).mono ?_; rintro e w4 ⟨A4, c4, rfl, g4, hb4⟩)
  have b4 : Below W.heap.size W w4 := b3.trans (hb4.mono b3.size)
  have v4 := own_below v3 hb4
  clear v3
  have x4 := x3.below hb4
  clear x3
  have APvg := Lib.hid (own_apart vv g4)
  have LG := Lib.hid g4.lt
  have zg : W.heap.size ≤ w3.heap.size := b3.size
  have zg2 : w3.heap.size ≤ w3.heap.size := Nat.le_refl _
  clear vv
  go_wp2_with (go_at_call 14; refine (eqIntS_same _ _ _ _ _ _ _ (Rd.of_own g4) (Rd.of_own v4) (by omega)).mono ?_; rintro e w5 ⟨rfl, hb5⟩)
  have b5 : Below W.heap.size W w5 := b4.trans (hb5.mono b4.size)
  have v5 := own_below v4 hb5
  clear v4
  have x5 := x4.below hb5
  clear x4
  have g5 := own_below g4 hb5
  clear g4
  go_wp2_with (go_at_call 10; refine (toGrid _ _ _ _ _ _ (RR.out.step b5) hn).mono ?_; rintro e w6 ⟨A6, c6, hs6, rfl, t6, hb6⟩)
  have b6 : Below W.heap.size W w6 := b5.trans (hb6.mono b5.size)
  have v6 := own_below v5 hb6
  clear v5
  have x6 := x5.below hb6
  clear x5
  have g6 := own_below g5 hb6
  clear g5
  go_wp2_with (go_at_call 13; refine (eqGrid _ _ _ _ _ _ _ _ _ x6.rd t6.rd hn).mono ?_; rintro e w7 ⟨rfl, hb7⟩)
  have b7 : Below W.heap.size W w7 := b6.trans (hb7.mono b6.size)
  have v7 := own_below v6 hb7
  clear v6
  have x7 := x6.below hb7
  clear x6
  have g7 := own_below g6 hb7
  clear g6
  have t7 := t6.below hb7
  clear t6
  clear t7
  go_wp2_with (go_at_call 17; refine (markGrid _ _ _ _ _ _ _ _ x7 hn hsum).mono ?_; rintro e w8 ⟨rfl, hbt8⟩)
  have b8 : Below W.heap.size W w8 := b7.trans (hbt8.below zx b7.size)
  have v8 := own_between v7 hbt8 (fun b hb => Or.inl (LV.out b hb).2)
  clear v7
  have g8 := own_between g7 hbt8 (fun b hb => Or.inr (Nat.le_trans zg2 (LG.out b hb).1))
  clear g7
  clear hbt8
  clear x7
  go_wp2_with (go_at_call 14; refine (eqIntS_same _ _ _ _ _ _ _ (Rd.of_own g8) (Rd.of_own v8) (by omega)).mono ?_; rintro e w9 ⟨rfl, hb9⟩)
  have b9 : Below W.heap.size W w9 := b8.trans (hb9.mono b8.size)
  have v9 := own_below v8 hb9
  clear v8
  have g9 := own_below g8 hb9
  clear g8
  have hlt10 := g9.lt
  go_wp2_with (go_at_call 18; refine (markIntS_any _ _ _ _ 1 _ _ g9 (by omega) (by omega)).mono ?_; rintro e w10 ⟨rfl, g10, hg10⟩)
  have b10 : Below W.heap.size W w10 := b9.grown hg10 b9.size (fun q hq => by have := (hlt10 q hq).1; have := zg; omega)
  have v10 := v9.kept hg10 APvg.out
  clear v9
  clear hg10 hlt10
  go_wp2_with (go_at_call 19; refine (heldIntS_any _ _ _ 1 _ (Rd.of_own g10) (by omega) (by omega)).mono ?_; rintro e w11 ⟨rfl, hb11⟩)
  have b11 : Below W.heap.size W w11 := b10.trans (hb11.mono b10.size)
  have v11 := own_below v10 hb11
  clear v10
  have g11 := own_below g10 hb11
  clear g10
  go_wp2_with (go_at_call 10; refine (toGrid _ _ _ _ _ _ (RR.out.step b11) hn).mono ?_; rintro e w12 ⟨A12, c12, hs12, rfl, t12, hb12⟩)
  have b12 : Below W.heap.size W w12 := b11.trans (hb12.mono b11.size)
  have v12 := own_below v11 hb12
  clear v11
  have g12 := own_below g11 hb12
  clear g11
  go_wp2_with (go_at_call 21; refine (I.out _ _ _ _ t12.rd).mono ?_; rintro e w13 ⟨A13, c13, rfl, h13, hb13⟩)
  have b13 : Below W.heap.size W w13 := b12.trans (hb13.mono b12.size)
  have v13 := own_below v12 hb13
  clear v12
  have g13 := own_below g12 hb13
  clear g12
  have t13 := t12.below hb13
  clear t12
  clear t13
  go_wp2_with (go_at_call 14; refine (eqIntS_same _ _ _ _ _ _ _ (Rd.of_own h13) (Rd.of_own v13) (by omega)).mono ?_; rintro e w14 ⟨rfl, hb14⟩)
  have b14 : Below W.heap.size W w14 := b13.trans (hb14.mono b13.size)
  have v14 := own_below v13 hb14
  clear v13
  have g14 := own_below g13 hb14
  clear g13
  have h14 := own_below h13 hb14
  clear h13
  go_wp2_with (go_at_call 19; refine (heldIntS_any _ _ _ 1 _ (Rd.of_own g14) (by omega) (by omega)).mono ?_; rintro e w15 ⟨rfl, hb15⟩)
  have b15 : Below W.heap.size W w15 := b14.trans (hb15.mono b14.size)
  have v15 := own_below v14 hb15
  clear v14
  have g15 := own_below g14 hb15
  clear g14
  have h15 := own_below h14 hb15
  clear h14
  go_ret
  exact ⟨rfl, b15⟩

end Go.Proofs.Ytjcaamnojinnmaa
