/-
  The law of HoldsTunes, walked.
-/
import Derived.Test.YtjklobhnidbinaaMarkCyls
import Derived.Test.YtjklobhnidbinaaHoldsS
namespace Go.Proofs.Ytjklobhnidbinaa
open Go.RowKit

theorem blk_between {w w' : World} {lo hi g : Nat} {t : TypeId} {cs : Array Value} (h : Blk w g t cs) (hb : Between lo hi w w') (hg : g < lo ∨ hi ≤ g) : Blk w' g t cs := (hb.2.2.2.2 g h.lt hg).trans h

set_option maxHeartbeats 4000000 in
set_option maxRecDepth 100000 in
theorem fnExactHoldsTunes_walk (W : World) (A : Option Addr) (n c : Nat) (hs : List (Option Addr × Nat)) (cs : List Cy) (r : CylsIn W A n hs cs) (_nc : n ≤ c) (nm : n ≤ 9223372036854775807) (d : Int) (_wd : I64 d) :
    Calls Try.prog 6 #[.slice A n c, .int .i64 d] W fun e w' => e = .returned (.bool true) ∧ Below W.heap.size W w' := by
  have R := Lib.hid r
  have SZ := Lib.hid (szCyls A n c hs cs W r nm)
  clear r
  go_enter Try.func6, Try.ntmps6
  go_wp2_with fail
  refine SZ.out.mono ?_
  rintro e w1 ⟨z, rfl, hz, hb1⟩
  rcases hz with hz | ⟨hz0, hz1, hn, hsum⟩
  · go_wp2
    go_ret
    exact ⟨rfl, hb1⟩
  have RR := Lib.hid (R.out.rd fun t ht => Nat.le_trans (sumC_mem ht) hsum)
  have S := Lib.hid (fun A c hs w h => sHolds A n c hs cs d w h hn)
  have I := Lib.hid (fun A c hs w h => iHolds A n c hs cs d w h hn)
  obtain ⟨Y, hY⟩ : ∃ Y, Y = holdsC cs d := ⟨_, rfl⟩
  have hm2 : (cyP Y).length ≤ 100 := by rw [hY]; exact holdsC_len _ _
  rw [← hY] at S I
  clear hY
  unfold MadeCO at S I
  generalize cyS Y = S0 at *
  generalize cyT Y = T0 at *
  generalize Y.isSome = ok at *
  generalize cyP Y = zs at *
  have hmi : (zs.length : Int) ≤ 100 := by omega
  have hni : (n : Int) ≤ 1048576 := by omega
  have hsi : (sumC cs : Int) ≤ 1048576 := by omega
  have hz0' : ¬ z < 0 := by omega
  have b1 : Below W.heap.size W w1 := hb1
  clear hb1
  go_wp2_with fail
  refine (toCyls _ _ _ _ _ _ (RR.out.step b1) hn).mono ?_
  rintro e w2 ⟨A2, c2, hs2, rfl, t2, hb2⟩
  have b2 : Below W.heap.size W w2 := b1.trans (hb2.mono b1.size)
  go_wp2_with fail
  refine (S.out _ _ _ _ t2.rd).mono ?_
  rintro e w3 ⟨A3, c3, rfl, v3, hb3⟩
  have t3 := OwnCS.below t2 hb3
  clear t2
  have b3 : Below W.heap.size W w3 := b2.trans (hb3.mono b2.size)
  clear t3
  have LV := Lib.hid v3.lt
  have KV := Lib.hid (Blk.new w3 28 #[.int .i64 S0, .int .i64 T0, .slice A3 zs.length c3])
  have zx : W.heap.size ≤ (w3.alloc (.cells #[.int .i64 S0, .int .i64 T0, .slice A3 zs.length c3] 28)).heap.size := (b3.alloc b3.size _).size
  go_wp2_with fail
  refine (toCyls _ _ _ _ _ _ (RR.out.step (b3.alloc b3.size _)) hn).mono ?_
  rintro e w4 ⟨A4, c4, hs4, rfl, x4, hb4⟩
  have b4 : Below W.heap.size W w4 := (b3.alloc b3.size _).trans (hb4.mono (b3.alloc b3.size _).size)
  replace KV := Lib.hid (Blk.below (B := (w3.alloc (.cells #[.int .i64 S0, .int .i64 T0, .slice A3 zs.length c3] 28)).heap.size) KV.out hb4 (Blk.lt KV.out))
  have v4 := own_below (v3.alloc _) hb4
  clear v3
  have zx2 : (w3.alloc (.cells #[.int .i64 S0, .int .i64 T0, .slice A3 zs.length c3] 28)).heap.size ≤ w4.heap.size := hb4.size
  go_wp2_with fail
  refine (I.out _ _ _ _ x4.rd).mono ?_
  rintro e w5 ⟨A5, c5, rfl, g5, hb5⟩
  have APvg := Lib.hid (own_apart v4 g5)
  have NVg := Lib.hid (own_ne g5 (Blk.lt KV.out))
  have zg : W.heap.size ≤ w4.heap.size := b4.size
  have x5 := OwnCS.below x4 hb5
  clear x4
  have b5 : Below W.heap.size W w5 := b4.trans (hb5.mono b4.size)
  replace KV := Lib.hid (Blk.below (B := w4.heap.size) KV.out hb5 (Blk.lt KV.out))
  have v5 := own_below v4 hb5
  clear v4
  have LG := Lib.hid g5.lt
  have zg2 : w4.heap.size ≤ w5.heap.size := hb5.size
  have KG := Lib.hid (Blk.new w5 28 #[.int .i64 S0, .int .i64 T0, .slice A5 zs.length c5])
  have NGg := Lib.hid (own_ne_hi g5 (Nat.le_refl _))
  obtain ⟨cV0, cV1, cV2⟩ := (KV.out.alloc (.cells #[.int .i64 S0, .int .i64 T0, .slice A5 zs.length c5] 28)).c3
  go_wp2_with fail
  refine (eqCyl_same _ _ _ _ _ _ _ _ _ (Rd.of_own (g5.alloc _)) (Rd.of_own (v5.alloc _)) (by omega)).mono ?_
  rintro e w6 ⟨rfl, hb6⟩
  clear cV0 cV1 cV2
  have x6 := OwnCS.below (OwnCS.below x5 ((Below.refl _ _).alloc (Nat.le_refl _) (.cells #[.int .i64 S0, .int .i64 T0, .slice A5 zs.length c5] 28))) hb6
  clear x5
  have b6 : Below W.heap.size W w6 := (b5.alloc b5.size _).trans (hb6.mono (b5.alloc b5.size _).size)
  replace KV := Lib.hid (Blk.below (B := (w5.alloc (.cells #[.int .i64 S0, .int .i64 T0, .slice A5 zs.length c5] 28)).heap.size) (KV.out.alloc (.cells #[.int .i64 S0, .int .i64 T0, .slice A5 zs.length c5] 28)) hb6 (Blk.lt (KV.out.alloc (.cells #[.int .i64 S0, .int .i64 T0, .slice A5 zs.length c5] 28))))
  replace KG := Lib.hid (Blk.below (B := (w5.alloc (.cells #[.int .i64 S0, .int .i64 T0, .slice A5 zs.length c5] 28)).heap.size) KG.out hb6 (Blk.lt KG.out))
  have v6 := own_below (v5.alloc _) hb6
  clear v5
  have g6 := own_below (g5.alloc _) hb6
  clear g5
  go_wp2_with fail
  refine (toCyls _ _ _ _ _ _ (RR.out.step b6) hn).mono ?_
  rintro e w7 ⟨A7, c7, hs7, rfl, t7, hb7⟩
  have x7 := OwnCS.below x6 hb7
  clear x6
  have b7 : Below W.heap.size W w7 := b6.trans (hb7.mono b6.size)
  replace KV := Lib.hid (Blk.below (B := w6.heap.size) KV.out hb7 (Blk.lt KV.out))
  replace KG := Lib.hid (Blk.below (B := w6.heap.size) KG.out hb7 (Blk.lt KG.out))
  have v7 := own_below v6 hb7
  clear v6
  have g7 := own_below g6 hb7
  clear g6
  go_wp2_with fail
  refine (eqCyls _ _ _ _ _ _ _ _ _ x7.rd t7.rd hn).mono ?_
  rintro e w8 ⟨rfl, hb8⟩
  have x8 := OwnCS.below x7 hb8
  clear x7
  have t8 := OwnCS.below t7 hb8
  clear t7
  have b8 : Below W.heap.size W w8 := b7.trans (hb8.mono b7.size)
  replace KV := Lib.hid (Blk.below (B := w7.heap.size) KV.out hb8 (Blk.lt KV.out))
  replace KG := Lib.hid (Blk.below (B := w7.heap.size) KG.out hb8 (Blk.lt KG.out))
  have v8 := own_below v7 hb8
  clear v7
  have g8 := own_below g7 hb8
  clear g7
  clear t8
  go_wp2_with fail
  refine (markCyls _ _ _ _ _ _ _ _ x8 hn hsum).mono ?_
  rintro e w9 ⟨rfl, hbt9⟩
  have b9 : Below W.heap.size W w9 := b8.trans (hbt9.below zx b8.size)
  replace KV := Lib.hid (blk_between KV.out hbt9 (Or.inl (by simp)))
  replace KG := Lib.hid (blk_between KG.out hbt9 (Or.inr zg2))
  have v9 := own_between v8 hbt9 (fun b hb => Or.inl (by have := (LV.out b hb).2; simp; omega))
  clear v8
  have g9 := own_between g8 hbt9 (fun b hb => Or.inr (LG.out b hb).1)
  clear g8
  clear hbt9
  clear x8
  obtain ⟨cG0, cG1, cG2⟩ := KG.out.c3
  obtain ⟨cV0, cV1, cV2⟩ := KV.out.c3
  go_wp2_with fail
  refine (eqCyl_same _ _ _ _ _ _ _ _ _ (Rd.of_own g9) (Rd.of_own v9) (by omega)).mono ?_
  rintro e w10 ⟨rfl, hb10⟩
  clear cG0 cG1 cG2 cV0 cV1 cV2
  have b10 : Below W.heap.size W w10 := b9.trans (hb10.mono b9.size)
  replace KV := Lib.hid (Blk.below (B := w9.heap.size) KV.out hb10 (Blk.lt KV.out))
  replace KG := Lib.hid (Blk.below (B := w9.heap.size) KG.out hb10 (Blk.lt KG.out))
  have v10 := own_below v9 hb10
  clear v9
  have g10 := own_below g9 hb10
  clear g9
  obtain ⟨cG0, cG1, cG2⟩ := KG.out.c3
  go_wp2_with fail
  refine (markCyl_any _ _ _ _ _ _ 1 _ _ g10 (by omega) (by omega)).mono ?_
  rintro e w11 ⟨rfl, g11, hg11⟩
  clear cG0 cG1 cG2
  have b11 : Below W.heap.size W w11 := b10.grown hg11 b10.size (fun q hq => by have := (g10.lt q hq).1; have := zg; omega)
  replace KV := Lib.hid (KV.out.grown hg11 NVg.out)
  replace KG := Lib.hid (KG.out.grown hg11 NGg.out)
  have v11 := v10.kept hg11 APvg.out
  clear v10
  clear hg11
  obtain ⟨cG0, cG1, cG2⟩ := KG.out.c3
  go_wp2_with fail
  refine (heldCyl_any _ _ _ _ _ 1 _ (Rd.of_own g11) (by omega) (by omega)).mono ?_
  rintro e w12 ⟨rfl, hb12⟩
  clear cG0 cG1 cG2
  have b12 : Below W.heap.size W w12 := b11.trans (hb12.mono b11.size)
  replace KV := Lib.hid (Blk.below (B := w11.heap.size) KV.out hb12 (Blk.lt KV.out))
  replace KG := Lib.hid (Blk.below (B := w11.heap.size) KG.out hb12 (Blk.lt KG.out))
  have v12 := own_below v11 hb12
  clear v11
  have g12 := own_below g11 hb12
  clear g11
  go_wp2_with fail
  refine (toCyls _ _ _ _ _ _ (RR.out.step b12) hn).mono ?_
  rintro e w13 ⟨A13, c13, hs13, rfl, t13, hb13⟩
  have b13 : Below W.heap.size W w13 := b12.trans (hb13.mono b12.size)
  replace KV := Lib.hid (Blk.below (B := w12.heap.size) KV.out hb13 (Blk.lt KV.out))
  replace KG := Lib.hid (Blk.below (B := w12.heap.size) KG.out hb13 (Blk.lt KG.out))
  have v13 := own_below v12 hb13
  clear v12
  have g13 := own_below g12 hb13
  clear g12
  go_wp2_with fail
  refine (I.out _ _ _ _ t13.rd).mono ?_
  rintro e w14 ⟨A14, c14, rfl, h14, hb14⟩
  have APhg := Lib.hid (own_apart' g13 h14)
  have t14 := OwnCS.below t13 hb14
  clear t13
  have b14 : Below W.heap.size W w14 := b13.trans (hb14.mono b13.size)
  replace KV := Lib.hid (Blk.below (B := w13.heap.size) KV.out hb14 (Blk.lt KV.out))
  replace KG := Lib.hid (Blk.below (B := w13.heap.size) KG.out hb14 (Blk.lt KG.out))
  have v14 := own_below v13 hb14
  clear v13
  have g14 := own_below g13 hb14
  clear g13
  clear t14
  have KH := Lib.hid (Blk.new w14 28 #[.int .i64 S0, .int .i64 T0, .slice A14 zs.length c14])
  have NHg := Lib.hid (own_ne_hi g14 (Nat.le_refl _))
  obtain ⟨cV0, cV1, cV2⟩ := (KV.out.alloc (.cells #[.int .i64 S0, .int .i64 T0, .slice A14 zs.length c14] 28)).c3
  go_wp2_with fail
  refine (eqCyl_same _ _ _ _ _ _ _ _ _ (Rd.of_own (h14.alloc _)) (Rd.of_own (v14.alloc _)) (by omega)).mono ?_
  rintro e w15 ⟨rfl, hb15⟩
  clear cV0 cV1 cV2
  have b15 : Below W.heap.size W w15 := (b14.alloc b14.size _).trans (hb15.mono (b14.alloc b14.size _).size)
  replace KV := Lib.hid (Blk.below (B := (w14.alloc (.cells #[.int .i64 S0, .int .i64 T0, .slice A14 zs.length c14] 28)).heap.size) (KV.out.alloc (.cells #[.int .i64 S0, .int .i64 T0, .slice A14 zs.length c14] 28)) hb15 (Blk.lt (KV.out.alloc (.cells #[.int .i64 S0, .int .i64 T0, .slice A14 zs.length c14] 28))))
  replace KG := Lib.hid (Blk.below (B := (w14.alloc (.cells #[.int .i64 S0, .int .i64 T0, .slice A14 zs.length c14] 28)).heap.size) (KG.out.alloc (.cells #[.int .i64 S0, .int .i64 T0, .slice A14 zs.length c14] 28)) hb15 (Blk.lt (KG.out.alloc (.cells #[.int .i64 S0, .int .i64 T0, .slice A14 zs.length c14] 28))))
  replace KH := Lib.hid (Blk.below (B := (w14.alloc (.cells #[.int .i64 S0, .int .i64 T0, .slice A14 zs.length c14] 28)).heap.size) KH.out hb15 (Blk.lt KH.out))
  have v15 := own_below (v14.alloc _) hb15
  clear v14
  have g15 := own_below (g14.alloc _) hb15
  clear g14
  have h15 := own_below (h14.alloc _) hb15
  clear h14
  obtain ⟨cG0, cG1, cG2⟩ := KG.out.c3
  go_wp2_with fail
  refine (heldCyl_any _ _ _ _ _ 1 _ (Rd.of_own g15) (by omega) (by omega)).mono ?_
  rintro e w16 ⟨rfl, hb16⟩
  clear cG0 cG1 cG2
  have b16 : Below W.heap.size W w16 := b15.trans (hb16.mono b15.size)
  replace KV := Lib.hid (Blk.below (B := w15.heap.size) KV.out hb16 (Blk.lt KV.out))
  replace KG := Lib.hid (Blk.below (B := w15.heap.size) KG.out hb16 (Blk.lt KG.out))
  replace KH := Lib.hid (Blk.below (B := w15.heap.size) KH.out hb16 (Blk.lt KH.out))
  have v16 := own_below v15 hb16
  clear v15
  have g16 := own_below g15 hb16
  clear g15
  have h16 := own_below h15 hb16
  clear h15
  go_wp2
  go_ret
  exact ⟨rfl, b16⟩

end Go.Proofs.Ytjklobhnidbinaa
