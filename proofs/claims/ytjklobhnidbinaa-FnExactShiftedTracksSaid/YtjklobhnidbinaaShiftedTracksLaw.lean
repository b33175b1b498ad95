/-
  The law of ShiftedTracks, walked.
-/
import Derived.Test.YtjklobhnidbinaaCyl
import Derived.Test.YtjklobhnidbinaaShiftAll
namespace Go.Proofs.Ytjklobhnidbinaa
open Go.RowKit

set_option maxHeartbeats 2000000 in
theorem fnExactShiftedTracks_walk (W : World) (s t : Int) (A : Option Addr) (n c : Nat) (xs : List (Int × Int)) (r : Rd W W.heap.size 2 A n (pc xs)) (_l : xs.length = n) (_nc : n ≤ c) (nm : n ≤ 9223372036854775807) (d : Int) (_wd : I64 d) (k : Int) (_wk : I64 k) :
    Calls Try.prog 4 #[.agg #[.int .i64 s, .int .i64 t, .slice A n c], .int .i64 d, .int .i64 k] W fun e w' => e = .returned (.bool true) ∧ Below W.heap.size W w' := by
  have R := Lib.hid r
  clear r
  by_cases hn : n ≤ 1048576
  case neg =>
    have SZ := Lib.hid (fun w => szCyl_any s t A n c 1048576 w nm (by omega))
    rw [if_neg hn] at SZ
    go_enter Try.func4, Try.ntmps4
    go_wp2_with (go_at_call 8; refine (SZ.out _).mono ?_; rintro e w1 ⟨rfl, hb1⟩)
    go_ret
    exact ⟨rfl, ((Below.refl _ _).alloc (Nat.le_refl _) _).trans (hb1.mono (by simp))⟩
  have SZ := Lib.hid (fun w => szCyl_any s t A n c 1048576 w nm (by omega))
  rw [if_pos hn] at SZ
  have S := Lib.hid (fun A c w h => sShiftedTracks_all s t A n c xs d k w h hn)
  have I := Lib.hid (fun A c w h => iShiftedTracks_all s t A n c xs d k w h hn)
  have TC := Lib.hid (fun w h => toCyl_any s t A n c xs w h hn)
  obtain ⟨Y, hY⟩ : ∃ Y, Y = shiftC s t xs d k := ⟨_, rfl⟩
  have hm2 : (cyP Y).length ≤ 100 := by rw [hY]; exact shiftC_len _ _ _ _ _
  rw [← hY] at S I
  clear hY
  unfold MadeCO at S I
  generalize cyS Y = S0 at *
  generalize cyT Y = T0 at *
  generalize Y.isSome = ok at *
  generalize cyP Y = ys at *
  have hmi : (ys.length : Int) ≤ 100 := by omega
  have hni : (n : Int) ≤ 1048576 := by omega
  have hn0 : ¬ ((1048576 : Int) - n < 0) := by omega
  go_enter Try.func4, Try.ntmps4
  have KA := Lib.hid (Blk.new W 24 #[.int .i64 s, .int .i64 t, .slice A n c])
  go_wp2_with fail
  refine (SZ.out _).mono ?_
  rintro e w1 ⟨rfl, hb1⟩
  have b1 : Below W.heap.size W w1 := ((Below.refl W.heap.size W).alloc (Below.refl W.heap.size W).size _).trans (hb1.mono ((Below.refl W.heap.size W).alloc (Below.refl W.heap.size W).size _).size)
  replace KA := Lib.hid (Blk.below (B := (W.alloc (.cells #[.int .i64 s, .int .i64 t, .slice A n c] 24)).heap.size) KA.out hb1 (Blk.lt KA.out))
  obtain ⟨cA0, cA1, cA2⟩ := KA.out.c3
  go_wp2_with fail
  refine (TC.out _ ((R.out.below b1).more b1.size)).mono ?_
  rintro e w2 ⟨A2, c2, rfl, t2, hb2⟩
  clear cA0 cA1 cA2
  have b2 : Below W.heap.size W w2 := b1.trans (hb2.mono b1.size)
  replace KA := Lib.hid (Blk.below (B := w1.heap.size) KA.out hb2 (Blk.lt KA.out))
  go_wp2_with fail
  refine (S.out _ _ _ (Rd.of_own t2)).mono ?_
  rintro e w3 ⟨A3, c3, rfl, v3, hb3⟩
  have b3 : Below W.heap.size W w3 := b2.trans (hb3.mono b2.size)
  replace KA := Lib.hid (Blk.below (B := w2.heap.size) KA.out hb3 (Blk.lt KA.out))
  have t3 := own_below t2 hb3
  clear t2
  clear t3
  have KV := Lib.hid (Blk.new w3 28 #[.int .i64 S0, .int .i64 T0, .slice A3 ys.length c3])
  obtain ⟨cA0, cA1, cA2⟩ := (KA.out.alloc (.cells #[.int .i64 S0, .int .i64 T0, .slice A3 ys.length c3] 28)).c3
  go_wp2_with fail
  refine (TC.out _ ((R.out.below (b3.alloc b3.size _)).more (b3.alloc b3.size _).size)).mono ?_
  rintro e w4 ⟨A4, c4, rfl, x4, hb4⟩
  clear cA0 cA1 cA2
  have APvx := Lib.hid (own_apart (v3.alloc _) x4)
  have NAx := Lib.hid (own_ne x4 (Blk.lt (KA.out.alloc (.cells #[.int .i64 S0, .int .i64 T0, .slice A3 ys.length c3] 28))))
  have NVx := Lib.hid (own_ne x4 (Blk.lt KV.out))
  have zx : W.heap.size ≤ (w3.alloc (.cells #[.int .i64 S0, .int .i64 T0, .slice A3 ys.length c3] 28)).heap.size := (b3.alloc b3.size _).size
  have b4 : Below W.heap.size W w4 := (b3.alloc b3.size _).trans (hb4.mono (b3.alloc b3.size _).size)
  replace KA := Lib.hid (Blk.below (B := (w3.alloc (.cells #[.int .i64 S0, .int .i64 T0, .slice A3 ys.length c3] 28)).heap.size) (KA.out.alloc (.cells #[.int .i64 S0, .int .i64 T0, .slice A3 ys.length c3] 28)) hb4 (Blk.lt (KA.out.alloc (.cells #[.int .i64 S0, .int .i64 T0, .slice A3 ys.length c3] 28))))
  replace KV := Lib.hid (Blk.below (B := (w3.alloc (.cells #[.int .i64 S0, .int .i64 T0, .slice A3 ys.length c3] 28)).heap.size) KV.out hb4 (Blk.lt KV.out))
  have v4 := own_below (v3.alloc _) hb4
  clear v3
  have KX := Lib.hid (Blk.new w4 28 #[.int .i64 s, .int .i64 t, .slice A4 n c4])
  have NXx := Lib.hid (own_ne_hi x4 (Nat.le_refl _))
  go_wp2_with fail
  refine (I.out _ _ _ (Rd.of_own (x4.alloc _))).mono ?_
  rintro e w5 ⟨A5, c5, rfl, g5, hb5⟩
  have APvg := Lib.hid (own_apart (v4.alloc _) g5)
  have APxg := Lib.hid (own_apart (x4.alloc _) g5)
  have APgx := Lib.hid (own_apart' (x4.alloc _) g5)
  have NAg := Lib.hid (own_ne g5 (Blk.lt (KA.out.alloc (.cells #[.int .i64 s, .int .i64 t, .slice A4 n c4] 28))))
  have NVg := Lib.hid (own_ne g5 (Blk.lt (KV.out.alloc (.cells #[.int .i64 s, .int .i64 t, .slice A4 n c4] 28))))
  have NXg := Lib.hid (own_ne g5 (Blk.lt KX.out))
  have zg : W.heap.size ≤ (w4.alloc (.cells #[.int .i64 s, .int .i64 t, .slice A4 n c4] 28)).heap.size := (b4.alloc b4.size _).size
  have b5 : Below W.heap.size W w5 := (b4.alloc b4.size _).trans (hb5.mono (b4.alloc b4.size _).size)
  replace KA := Lib.hid (Blk.below (B := (w4.alloc (.cells #[.int .i64 s, .int .i64 t, .slice A4 n c4] 28)).heap.size) (KA.out.alloc (.cells #[.int .i64 s, .int .i64 t, .slice A4 n c4] 28)) hb5 (Blk.lt (KA.out.alloc (.cells #[.int .i64 s, .int .i64 t, .slice A4 n c4] 28))))
  replace KV := Lib.hid (Blk.below (B := (w4.alloc (.cells #[.int .i64 s, .int .i64 t, .slice A4 n c4] 28)).heap.size) (KV.out.alloc (.cells #[.int .i64 s, .int .i64 t, .slice A4 n c4] 28)) hb5 (Blk.lt (KV.out.alloc (.cells #[.int .i64 s, .int .i64 t, .slice A4 n c4] 28))))
  replace KX := Lib.hid (Blk.below (B := (w4.alloc (.cells #[.int .i64 s, .int .i64 t, .slice A4 n c4] 28)).heap.size) KX.out hb5 (Blk.lt KX.out))
  have v5 := own_below (v4.alloc _) hb5
  clear v4
  have x5 := own_below (x4.alloc _) hb5
  clear x4
  have KG := Lib.hid (Blk.new w5 28 #[.int .i64 S0, .int .i64 T0, .slice A5 ys.length c5])
  have NGx := Lib.hid (own_ne_hi x5 (Nat.le_refl _))
  have NGg := Lib.hid (own_ne_hi g5 (Nat.le_refl _))
  obtain ⟨cV0, cV1, cV2⟩ := (KV.out.alloc (.cells #[.int .i64 S0, .int .i64 T0, .slice A5 ys.length c5] 28)).c3
  go_wp2_with fail
  refine (eqCyl_same _ _ _ _ _ _ _ _ _ (Rd.of_own (g5.alloc _)) (Rd.of_own (v5.alloc _)) (by omega)).mono ?_
  rintro e w6 ⟨rfl, hb6⟩
  clear cV0 cV1 cV2
  have b6 : Below W.heap.size W w6 := (b5.alloc b5.size _).trans (hb6.mono (b5.alloc b5.size _).size)
  replace KA := Lib.hid (Blk.below (B := (w5.alloc (.cells #[.int .i64 S0, .int .i64 T0, .slice A5 ys.length c5] 28)).heap.size) (KA.out.alloc (.cells #[.int .i64 S0, .int .i64 T0, .slice A5 ys.length c5] 28)) hb6 (Blk.lt (KA.out.alloc (.cells #[.int .i64 S0, .int .i64 T0, .slice A5 ys.length c5] 28))))
  replace KV := Lib.hid (Blk.below (B := (w5.alloc (.cells #[.int .i64 S0, .int .i64 T0, .slice A5 ys.length c5] 28)).heap.size) (KV.out.alloc (.cells #[.int .i64 S0, .int .i64 T0, .slice A5 ys.length c5] 28)) hb6 (Blk.lt (KV.out.alloc (.cells #[.int .i64 S0, .int .i64 T0, .slice A5 ys.length c5] 28))))
  replace KX := Lib.hid (Blk.below (B := (w5.alloc (.cells #[.int .i64 S0, .int .i64 T0, .slice A5 ys.length c5] 28)).heap.size) (KX.out.alloc (.cells #[.int .i64 S0, .int .i64 T0, .slice A5 ys.length c5] 28)) hb6 (Blk.lt (KX.out.alloc (.cells #[.int .i64 S0, .int .i64 T0, .slice A5 ys.length c5] 28))))
  replace KG := Lib.hid (Blk.below (B := (w5.alloc (.cells #[.int .i64 S0, .int .i64 T0, .slice A5 ys.length c5] 28)).heap.size) KG.out hb6 (Blk.lt KG.out))
  have v6 := own_below (v5.alloc _) hb6
  clear v5
  have x6 := own_below (x5.alloc _) hb6
  clear x5
  have g6 := own_below (g5.alloc _) hb6
  clear g5
  obtain ⟨cX0, cX1, cX2⟩ := KX.out.c3
  obtain ⟨cA0, cA1, cA2⟩ := KA.out.c3
  go_wp2
  go_region_held3 (fun w' => w'.cell? ⟨w4.heap.size, 0, none⟩ = some (.int .i64 s) ∧ w'.cell? ⟨w4.heap.size, 1, none⟩ = some (.int .i64 t) ∧ w'.cell? ⟨w4.heap.size, 2, none⟩ = some (.slice A4 n c4) ∧ w'.cell? ⟨W.heap.size, 0, none⟩ = some (.int .i64 s) ∧ w'.cell? ⟨W.heap.size, 1, none⟩ = some (.int .i64 t) ∧ w'.cell? ⟨W.heap.size, 2, none⟩ = some (.slice A n c)) (first | exact ⟨cX0, cX1, cX2, cA0, cA1, cA2⟩ | exact ⟨k0, k1, k2, k3, k4, k5⟩ | exact ⟨l0, l1, l2, l3, l4, l5⟩) (first | (go_at_call 10; refine (TC.out _ ((R.out.below b6.drew).more b6.drew.size)).mono ?_; rintro e w7 ⟨A7, c7, rfl, t7, hb7⟩; have KX1 := Blk.below (B := w6.drew.heap.size) (Blk.drew1 KX.out) hb7 (Blk.lt (Blk.drew1 KX.out)); have KA1 := Blk.below (B := w6.drew.heap.size) (Blk.drew1 KA.out) hb7 (Blk.lt (Blk.drew1 KA.out)); have k0 := KX1.c3.1; have k1 := KX1.c3.2.1; have k2 := KX1.c3.2.2; have k3 := KA1.c3.1; have k4 := KA1.c3.2.1; have k5 := KA1.c3.2.2) | (go_at_call 12; refine (eqCyl_same _ _ _ _ _ _ _ _ _ (Rd.of_own (own_below (own_drew1 x6) hb7)) (Rd.of_own t7) (by omega)).mono ?_; rintro e w8 ⟨rfl, hb8⟩; have l0 := (KX1.below hb8 (Blk.lt KX1)).c3.1; have l1 := (KX1.below hb8 (Blk.lt KX1)).c3.2.1; have l2 := (KX1.below hb8 (Blk.lt KX1)).c3.2.2; have l3 := (KA1.below hb8 (Blk.lt KA1)).c3.1; have l4 := (KA1.below hb8 (Blk.lt KA1)).c3.2.1; have l5 := (KA1.below hb8 (Blk.lt KA1)).c3.2.2))
  clear cX0 cX1 cX2 cA0 cA1 cA2
  clear k0 k1 k2 k3 k4 k5 l0 l1 l2 l3 l4 l5 KX1 KA1 t7
  have b7 : Below W.heap.size W w7 := b6.drew.trans (hb7.mono b6.drew.size)
  replace KA := Lib.hid (Blk.below (B := w6.drew.heap.size) (Blk.drew1 KA.out) hb7 (Blk.lt (Blk.drew1 KA.out)))
  replace KV := Lib.hid (Blk.below (B := w6.drew.heap.size) (Blk.drew1 KV.out) hb7 (Blk.lt (Blk.drew1 KV.out)))
  replace KX := Lib.hid (Blk.below (B := w6.drew.heap.size) (Blk.drew1 KX.out) hb7 (Blk.lt (Blk.drew1 KX.out)))
  replace KG := Lib.hid (Blk.below (B := w6.drew.heap.size) (Blk.drew1 KG.out) hb7 (Blk.lt (Blk.drew1 KG.out)))
  have v7 := own_below (own_drew1 v6) hb7
  clear v6
  have x7 := own_below (own_drew1 x6) hb7
  clear x6
  have g7 := own_below (own_drew1 g6) hb7
  clear g6
  have b8 : Below W.heap.size W w8 := b7.trans (hb8.mono b7.size)
  replace KA := Lib.hid (Blk.below (B := w7.heap.size) KA.out hb8 (Blk.lt KA.out))
  replace KV := Lib.hid (Blk.below (B := w7.heap.size) KV.out hb8 (Blk.lt KV.out))
  replace KX := Lib.hid (Blk.below (B := w7.heap.size) KX.out hb8 (Blk.lt KX.out))
  replace KG := Lib.hid (Blk.below (B := w7.heap.size) KG.out hb8 (Blk.lt KG.out))
  have v8 := own_below v7 hb8
  clear v7
  have x8 := own_below x7 hb8
  clear x7
  have g8 := own_below g7 hb8
  clear g7
  obtain ⟨cX0, cX1, cX2⟩ := KX.out.c3
  go_wp2_with fail
  refine (markCyl_any _ _ _ _ _ _ 1 _ _ x8 (by omega) (by omega)).mono ?_
  rintro e w9 ⟨rfl, x9, hg9⟩
  clear cX0 cX1 cX2
  have b9 : Below W.heap.size W w9 := b8.grown hg9 b8.size (fun q hq => by have := (x8.lt q hq).1; have := zx; omega)
  replace KA := Lib.hid (KA.out.grown hg9 NAx.out)
  replace KV := Lib.hid (KV.out.grown hg9 NVx.out)
  replace KX := Lib.hid (KX.out.grown hg9 NXx.out)
  replace KG := Lib.hid (KG.out.grown hg9 NGx.out)
  have v9 := v8.kept hg9 APvx.out
  clear v8
  have g9 := g8.kept hg9 APgx.out
  clear g8
  clear hg9
  clear x9
  clear KX
  obtain ⟨cG0, cG1, cG2⟩ := KG.out.c3
  obtain ⟨cV0, cV1, cV2⟩ := KV.out.c3
  go_wp2_with fail
  refine (eqCyl_same _ _ _ _ _ _ _ _ _ (Rd.of_own g9) (Rd.of_own v9) (by omega)).mono ?_
  rintro e w10 ⟨rfl, hb10⟩
  clear cG0 cG1 cG2 cV0 cV1 cV2
  have b10 : Below W.heap.size W w10 := b9.trans (hb10.mono b9.size)
  replace KA := Lib.hid (Blk.below (B := w9.heap.size) KA.out hb10 (Blk.lt KA.out))
  replace KV := Lib.hid (Blk.below (B := w9.heap.size) KV.out hb10 (Blk.lt KV.out))
  replace KG := Lib.hid (Blk.below (B := w9.heap.size) KG.out hb10 (Blk.lt KG.out))
  have v10 := own_below v9 hb10
  clear v9
  have g10 := own_below g9 hb10
  clear g9
  obtain ⟨cG0, cG1, cG2⟩ := KG.out.c3
  go_wp2_with fail
  refine (markCyl_any _ _ _ _ _ _ 1 _ _ g10 (by omega) (by omega)).mono ?_
  rintro e w11 ⟨rfl, g11, hg11⟩
  clear cG0 cG1 cG2
  have b11 : Below W.heap.size W w11 := b10.grown hg11 b10.size (fun q hq => by have := (g10.lt q hq).1; have := zg; omega)
  replace KA := Lib.hid (KA.out.grown hg11 NAg.out)
  replace KV := Lib.hid (KV.out.grown hg11 NVg.out)
  replace KG := Lib.hid (KG.out.grown hg11 NGg.out)
  have v11 := v10.kept hg11 APvg.out
  clear v10
  clear hg11
  obtain ⟨cG0, cG1, cG2⟩ := KG.out.c3
  go_wp2_with fail
  refine (heldCyl_any _ _ _ _ _ 1 _ (Rd.of_own g11) (by omega) (by omega)).mono ?_
  rintro e w12 ⟨rfl, hb12⟩
  clear cG0 cG1 cG2
  have b12 : Below W.heap.size W w12 := b11.trans (hb12.mono b11.size)
  replace KA := Lib.hid (Blk.below (B := w11.heap.size) KA.out hb12 (Blk.lt KA.out))
  replace KV := Lib.hid (Blk.below (B := w11.heap.size) KV.out hb12 (Blk.lt KV.out))
  replace KG := Lib.hid (Blk.below (B := w11.heap.size) KG.out hb12 (Blk.lt KG.out))
  have v12 := own_below v11 hb12
  clear v11
  have g12 := own_below g11 hb12
  clear g11
  obtain ⟨cA0, cA1, cA2⟩ := KA.out.c3
  go_wp2_with fail
  refine (TC.out _ ((R.out.below b12).more b12.size)).mono ?_
  rintro e w13 ⟨A13, c13, rfl, t13, hb13⟩
  clear cA0 cA1 cA2
  have APtg := Lib.hid (own_apart' g12 t13)
  have b13 : Below W.heap.size W w13 := b12.trans (hb13.mono b12.size)
  replace KA := Lib.hid (Blk.below (B := w12.heap.size) KA.out hb13 (Blk.lt KA.out))
  replace KV := Lib.hid (Blk.below (B := w12.heap.size) KV.out hb13 (Blk.lt KV.out))
  replace KG := Lib.hid (Blk.below (B := w12.heap.size) KG.out hb13 (Blk.lt KG.out))
  have v13 := own_below v12 hb13
  clear v12
  have g13 := own_below g12 hb13
  clear g12
  go_wp2_with fail
  refine (I.out _ _ _ (Rd.of_own t13)).mono ?_
  rintro e w14 ⟨A14, c14, rfl, h14, hb14⟩
  have APhg := Lib.hid (own_apart' g13 h14)
  have b14 : Below W.heap.size W w14 := b13.trans (hb14.mono b13.size)
  replace KA := Lib.hid (Blk.below (B := w13.heap.size) KA.out hb14 (Blk.lt KA.out))
  replace KV := Lib.hid (Blk.below (B := w13.heap.size) KV.out hb14 (Blk.lt KV.out))
  replace KG := Lib.hid (Blk.below (B := w13.heap.size) KG.out hb14 (Blk.lt KG.out))
  have v14 := own_below v13 hb14
  clear v13
  have g14 := own_below g13 hb14
  clear g13
  have t14 := own_below t13 hb14
  clear t13
  clear t14
  have KH := Lib.hid (Blk.new w14 28 #[.int .i64 S0, .int .i64 T0, .slice A14 ys.length c14])
  have NHg := Lib.hid (own_ne_hi g14 (Nat.le_refl _))
  obtain ⟨cV0, cV1, cV2⟩ := (KV.out.alloc (.cells #[.int .i64 S0, .int .i64 T0, .slice A14 ys.length c14] 28)).c3
  go_wp2_with fail
  refine (eqCyl_same _ _ _ _ _ _ _ _ _ (Rd.of_own (h14.alloc _)) (Rd.of_own (v14.alloc _)) (by omega)).mono ?_
  rintro e w15 ⟨rfl, hb15⟩
  clear cV0 cV1 cV2
  have b15 : Below W.heap.size W w15 := (b14.alloc b14.size _).trans (hb15.mono (b14.alloc b14.size _).size)
  replace KA := Lib.hid (Blk.below (B := (w14.alloc (.cells #[.int .i64 S0, .int .i64 T0, .slice A14 ys.length c14] 28)).heap.size) (KA.out.alloc (.cells #[.int .i64 S0, .int .i64 T0, .slice A14 ys.length c14] 28)) hb15 (Blk.lt (KA.out.alloc (.cells #[.int .i64 S0, .int .i64 T0, .slice A14 ys.length c14] 28))))
  replace KV := Lib.hid (Blk.below (B := (w14.alloc (.cells #[.int .i64 S0, .int .i64 T0, .slice A14 ys.length c14] 28)).heap.size) (KV.out.alloc (.cells #[.int .i64 S0, .int .i64 T0, .slice A14 ys.length c14] 28)) hb15 (Blk.lt (KV.out.alloc (.cells #[.int .i64 S0, .int .i64 T0, .slice A14 ys.length c14] 28))))
  replace KG := Lib.hid (Blk.below (B := (w14.alloc (.cells #[.int .i64 S0, .int .i64 T0, .slice A14 ys.length c14] 28)).heap.size) (KG.out.alloc (.cells #[.int .i64 S0, .int .i64 T0, .slice A14 ys.length c14] 28)) hb15 (Blk.lt (KG.out.alloc (.cells #[.int .i64 S0, .int .i64 T0, .slice A14 ys.length c14] 28))))
  replace KH := Lib.hid (Blk.below (B := (w14.alloc (.cells #[.int .i64 S0, .int .i64 T0, .slice A14 ys.length c14] 28)).heap.size) KH.out hb15 (Blk.lt KH.out))
  have v15 := own_below (v14.alloc _) hb15
  clear v14
  have g15 := own_below (g14.alloc _) hb15
  clear g14
  have h15 := own_below (h14.alloc _) hb15
  clear h14
  obtain ⟨cG0, cG1, cG2⟩ := KG.out.c3
  go_wp2_with fail
  refine (heldCyl_any _ _ _ _ _ 1 _ (Rd.of_own g15) (by omega) (by omega)).mono ?_
  rintro e w16 ⟨rfl, hb16⟩
  clear cG0 cG1 cG2
  have b16 : Below W.heap.size W w16 := b15.trans (hb16.mono b15.size)
  replace KA := Lib.hid (Blk.below (B := w15.heap.size) KA.out hb16 (Blk.lt KA.out))
  replace KV := Lib.hid (Blk.below (B := w15.heap.size) KV.out hb16 (Blk.lt KV.out))
  replace KG := Lib.hid (Blk.below (B := w15.heap.size) KG.out hb16 (Blk.lt KG.out))
  replace KH := Lib.hid (Blk.below (B := w15.heap.size) KH.out hb16 (Blk.lt KH.out))
  have v16 := own_below v15 hb16
  clear v15
  have g16 := own_below g15 hb16
  clear g15
  have h16 := own_below h15 hb16
  clear h15
  go_wp2
  go_ret
  exact ⟨rfl, b16⟩

end Go.Proofs.Ytjklobhnidbinaa
