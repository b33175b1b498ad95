/-
  The law of Merge, walked.
-/
import Derived.Test.YtjklobhnidbinaaLawKit
import Derived.Test.YtjklobhnidbinaaMergeAll
import Derived.Deep.DeepCutAuto
namespace Go.Proofs.Ytjklobhnidbinaa
open Go.RowKit

set_option maxHeartbeats 4000000 in
set_option maxRecDepth 100000 in
theorem fnExactMerge_walk (W : World) (s t : Int) (A : Option Addr) (n c : Nat) (xs : List (Int × Int)) (r : Rd W W.heap.size 2 A n (pc xs)) (_l : xs.length = n) (_nc : n ≤ c) (nm : n ≤ 9223372036854775807) (s' t' : Int) (A' : Option Addr) (n' c' : Nat) (ys : List (Int × Int)) (r' : Rd W W.heap.size 2 A' n' (pc ys)) (_l' : ys.length = n') (_nc' : n' ≤ c') (nm' : n' ≤ 9223372036854775807) :
    Calls Try.prog 5 #[.agg #[.int .i64 s, .int .i64 t, .slice A n c], .agg #[.int .i64 s', .int .i64 t', .slice A' n' c']] W fun e w' => e = .returned (.bool true) ∧ Below W.heap.size W w' := by
  have R := Lib.hid r
  have R' := Lib.hid r'
  clear r r'
  have KA0 := Lib.hid ((Blk.new W 24 #[.int .i64 s, .int .i64 t, .slice A n c]).alloc (.cells #[.int .i64 s', .int .i64 t', .slice A' n' c'] 24))
  have KB0 : Hid (Blk ((W.alloc (.cells #[.int .i64 s, .int .i64 t, .slice A n c] 24)).alloc (.cells #[.int .i64 s', .int .i64 t', .slice A' n' c'] 24)) (W.heap.size + 1) 24 #[.int .i64 s', .int .i64 t', .slice A' n' c']) := Lib.hid (by simpa using Blk.new (W.alloc (.cells #[.int .i64 s, .int .i64 t, .slice A n c] 24)) 24 #[.int .i64 s', .int .i64 t', .slice A' n' c'])
  have B0 := Lib.hid (((Below.refl W.heap.size W).alloc (Nat.le_refl _) (.cells #[.int .i64 s, .int .i64 t, .slice A n c] 24)).alloc (by simp) (.cells #[.int .i64 s', .int .i64 t', .slice A' n' c'] 24))
  by_cases hn : n ≤ 1048576
  case neg =>
    have SZ := Lib.hid (fun w => szCyl_any s t A n c 1048576 w nm (by omega))
    rw [if_neg hn] at SZ
    go_enter Try.func5, Try.ntmps5
    go_wp2_with (go_at_call 8; refine (SZ.out _).mono ?_; rintro e w1 ⟨rfl, hb1⟩)
    go_ret
    exact ⟨rfl, B0.out.trans (hb1.mono B0.out.size)⟩
  obtain ⟨m, hm⟩ : ∃ m : Nat, (1048576 : Int) - n = m := ⟨1048576 - n, by omega⟩
  have hmb : m ≤ 1048576 := by omega
  have SZ := Lib.hid (fun w => szCyl_any s t A n c 1048576 w nm (by omega))
  rw [if_pos hn] at SZ
  have SZ1 : Hid (∀ w, Calls Try.prog 8 #[.agg #[.int .i64 s, .int .i64 t, .slice A n c], .int .i64 1048576] w fun e w' => e = .returned (.int .i64 (m : Int)) ∧ Below w.heap.size w w') := Lib.hid (by have := SZ.out; rw [show (((1048576 : Nat) : Int)) - n = m from hm] at this; exact this)
  have SZ2 := Lib.hid (fun w => szCyl_any s' t' A' n' c' m w nm' hmb)
  clear SZ
  have hn0 : ¬ ((m : Int) < 0) := by omega
  by_cases hn' : n' ≤ m
  case neg =>
    rw [if_neg hn'] at SZ2
    go_enter Try.func5, Try.ntmps5
    go_wp2_with fail
    refine (SZ1.out _).mono ?_
    rintro e w1 ⟨rfl, hb1⟩
    have hKB := Blk.below (B := ((W.alloc (.cells #[.int .i64 s, .int .i64 t, .slice A n c] 24)).alloc (.cells #[.int .i64 s', .int .i64 t', .slice A' n' c'] 24)).heap.size) KB0.out hb1 KB0.out.lt
    obtain ⟨c0, c1, c2⟩ := hKB.c3
    have b1 := B0.out.trans (hb1.mono B0.out.size)
    clear hKB hb1
    go_wp2_with (go_at_call 8; refine (SZ2.out _).mono ?_; rintro e w2 ⟨rfl, hb2⟩)
    go_ret
    exact ⟨rfl, b1.trans (hb2.mono b1.size)⟩
  rw [if_pos hn'] at SZ2
  have S := Lib.hid (fun A c A' c' w h h' => sMerge_all s t A n c xs s' t' A' n' c' ys w h h' hn (by omega))
  have I := Lib.hid (fun A c A' c' w h h' => iMerge_all s t A n c xs s' t' A' n' c' ys w h h' hn (by omega))
  have TC := Lib.hid (fun w h => toCyl_any s t A n c xs w h hn)
  have TD := Lib.hid (fun w h => toCyl_any s' t' A' n' c' ys w h (by omega))
  obtain ⟨Y, hY⟩ : ∃ Y, Y = mergeC s t xs s' t' ys := ⟨_, rfl⟩
  have hm2 : (cyP Y).length ≤ 100 := by rw [hY]; exact mergeC_len _ _ _ _ _ _
  rw [← hY] at S I
  clear hY
  unfold MadeCO at S I
  generalize cyS Y = S0 at *
  generalize cyT Y = T0 at *
  generalize Y.isSome = ok at *
  generalize cyP Y = zs at *
  have hmi : (zs.length : Int) ≤ 100 := by omega
  have hni : (n : Int) ≤ 1048576 := by omega
  have hni' : (n' : Int) ≤ 1048576 := by omega
  have hz0 : ¬ ((m : Int) - n' < 0) := by omega
  clear hm hmb
  go_enter Try.func5, Try.ntmps5
  go_wp2_with fail
  refine (SZ1.out _).mono ?_
  rintro e w1 ⟨rfl, hb1⟩
  have b1 : Below W.heap.size W w1 := B0.out.trans (hb1.mono B0.out.size)
  have KA := Lib.hid (Blk.below (B := ((W.alloc (.cells #[.int .i64 s, .int .i64 t, .slice A n c] 24)).alloc (.cells #[.int .i64 s', .int .i64 t', .slice A' n' c'] 24)).heap.size) KA0.out hb1 KA0.out.lt)
  have KB := Lib.hid (Blk.below (B := ((W.alloc (.cells #[.int .i64 s, .int .i64 t, .slice A n c] 24)).alloc (.cells #[.int .i64 s', .int .i64 t', .slice A' n' c'] 24)).heap.size) KB0.out hb1 KB0.out.lt)
  clear KA0 KB0 B0 hb1
  obtain ⟨cB0, cB1, cB2⟩ := KB.out.c3
  go_wp2_with fail
  refine (SZ2.out _).mono ?_
  rintro e w2 ⟨rfl, hb2⟩
  clear cB0 cB1 cB2
  have b2 : Below W.heap.size W w2 := b1.trans (hb2.mono b1.size)
  replace KA := Lib.hid (Blk.below (B := w1.heap.size) KA.out hb2 (Blk.lt KA.out))
  replace KB := Lib.hid (Blk.below (B := w1.heap.size) KB.out hb2 (Blk.lt KB.out))
  have q0 := cells6 (Below.refl w2.heap.size w2) KA.out KB.out
  have q0a := cells6 ((Below.refl w2.heap.size w2).alloc (Nat.le_refl _) (.cells #[.int .i64 0, .int .i64 0, .slice none 0 0] 28)) KA.out KB.out
  have RA0 : Rd w2.drew w2.drew.heap.size 2 A n (pc xs) := ((R.out.below b2).more b2.size).drew
  have RA1 : Rd (w2.alloc (.cells #[.int .i64 0, .int .i64 0, .slice none 0 0] 28)).drew (w2.alloc (.cells #[.int .i64 0, .int .i64 0, .slice none 0 0] 28)).drew.heap.size 2 A n (pc xs) := ((R.out.below (b2.alloc b2.size (.cells #[.int .i64 0, .int .i64 0, .slice none 0 0] 28))).more (b2.alloc b2.size (.cells #[.int .i64 0, .int .i64 0, .slice none 0 0] 28)).size).drew
  have CA0 := Lib.hid (TC.out _ RA0)
  have CA1 := Lib.hid (TC.out _ RA1)
  clear RA0 RA1
  go_upto_region 8 with fail
  go_cut [6, 7] (fun p q wx => ∃ (w3 : World) (GV BV : Nat) (AV : Option Addr) (cV : Nat), w3 = wx ∧ p = .pointer (some ⟨GV, 0, none⟩) ∧ q = .bool ok ∧ Below w2.heap.size w2 w3 ∧ Blk w3 GV 28 #[.int .i64 S0, .int .i64 T0, .slice AV zs.length cV] ∧ w3.ownsRow BV 50 2 (.slice AV zs.length cV) zs.length (pc zs))
  case first =>
    go_wp2_with fail
    go_region_held3 (fun w' => w'.cell? ⟨W.heap.size, 0, none⟩ = some (.int .i64 s) ∧ w'.cell? ⟨W.heap.size, 1, none⟩ = some (.int .i64 t) ∧ w'.cell? ⟨W.heap.size, 2, none⟩ = some (.slice A n c) ∧ w'.cell? ⟨W.heap.size + 1, 0, none⟩ = some (.int .i64 s') ∧ w'.cell? ⟨W.heap.size + 1, 1, none⟩ = some (.int .i64 t') ∧ w'.cell? ⟨W.heap.size + 1, 2, none⟩ = some (.slice A' n' c')) (first | exact q0 | exact q0a | exact qa | exact qaa | exact qb | exact qba | exact qm | exact qmz | exact qma | exact qmF) (first | (go_at_call 10; (first | ((with_reducible refine CA0.out.mono ?_); rintro e wa ⟨Aa, ca, rfl, oa, hba⟩; have ba := (Below.refl w2.heap.size w2).drew.trans (hba.mono (Nat.le_refl _))) | ((with_reducible refine CA1.out.mono ?_); rintro e wa ⟨Aa, ca, rfl, oa, hba⟩; have ba := ((Below.refl w2.heap.size w2).alloc (Nat.le_refl _) (.cells #[.int .i64 0, .int .i64 0, .slice none 0 0] 28)).drew.trans (hba.mono (by simp)); have K6 := Blk.below (B := (w2.alloc (.cells #[.int .i64 0, .int .i64 0, .slice none 0 0] 28)).drew.heap.size) ((Blk.new w2 28 #[.int .i64 0, .int .i64 0, .slice none 0 0]).drewN 1) hba (Blk.lt (Blk.new w2 28 #[.int .i64 0, .int .i64 0, .slice none 0 0])))); have qa := cells6 ba KA.out KB.out; have qaa := cells6 (ba.alloc ba.size (.cells #[.int .i64 0, .int .i64 0, .slice none 0 0] 28)) KA.out KB.out; have CB0 := Lib.hid (TD.out wa ((R'.out.below (b2.trans (ba.mono b2.size))).more (b2.trans (ba.mono b2.size)).size)); have CB1 := Lib.hid (TD.out (wa.alloc (.cells #[.int .i64 0, .int .i64 0, .slice none 0 0] 28)) ((R'.out.below (b2.trans ((ba.alloc ba.size (.cells #[.int .i64 0, .int .i64 0, .slice none 0 0] 28)).mono b2.size))).more (b2.trans ((ba.alloc ba.size (.cells #[.int .i64 0, .int .i64 0, .slice none 0 0] 28)).mono b2.size)).size))) | (go_at_call 10; (first | ((with_reducible refine CB0.out.mono ?_); rintro e wb ⟨Ab, cb, rfl, ob, hbb⟩; have pa := own_below oa hbb; have bb := ba.trans (hbb.mono ba.size); (first | (have K6b := Blk.below K6 hbb (Blk.lt K6)) | skip)) | ((with_reducible refine CB1.out.mono ?_); rintro e wb ⟨Ab, cb, rfl, ob, hbb⟩; have pa := own_below (oa.alloc (.cells #[.int .i64 0, .int .i64 0, .slice none 0 0] 28)) hbb; have bb := (ba.alloc ba.size (.cells #[.int .i64 0, .int .i64 0, .slice none 0 0] 28)).trans (hbb.mono (ba.alloc ba.size (.cells #[.int .i64 0, .int .i64 0, .slice none 0 0] 28)).size); have K6b := Blk.below (Blk.new wa 28 #[.int .i64 0, .int .i64 0, .slice none 0 0]) hbb (Blk.lt (Blk.new wa 28 #[.int .i64 0, .int .i64 0, .slice none 0 0])))); have qb := cells6 bb KA.out KB.out; have qba := cells6 (bb.alloc bb.size (.cells #[.int .i64 0, .int .i64 0, .slice none 0 0] 28)) KA.out KB.out; have CM0 := Lib.hid (S.out Aa ca Ab cb wb (Rd.of_own pa) (Rd.of_own ob)); have CM1 := Lib.hid (S.out Aa ca Ab cb (wb.alloc (.cells #[.int .i64 0, .int .i64 0, .slice none 0 0] 28)) (Rd.of_own (pa.alloc _)) (Rd.of_own (ob.alloc _)))) | (go_at_call 17; (first | ((with_reducible refine CM0.out.mono ?_); rintro e wm ⟨Am, cm, rfl, om, hbm⟩; have bm := bb.trans (hbm.mono bb.size); (first | (have K6c := Blk.below K6b hbm (Blk.lt K6b); have omF := own_set4 om K6c (Blk.lt K6b) (.int .i64 S0) (.int .i64 T0) (.slice Am zs.length cm); have bmF := below_set3 bm K6c (by first | exact Nat.le_refl _ | exact ba.size | exact bb.size) (.int .i64 S0) (.int .i64 T0) (.slice Am zs.length cm); have qmF := cells6 bmF KA.out KB.out; have k60 := K6c.c3.1; have k61 := K6c.c3.2.1; have k62 := K6c.c3.2.2; have f60 := K6c.frozen 0; have f61 := K6c.frozen 1; have f62 := K6c.frozen 2) | skip)) | ((with_reducible refine CM1.out.mono ?_); rintro e wm ⟨Am, cm, rfl, om, hbm⟩; have bm := (bb.alloc bb.size (.cells #[.int .i64 0, .int .i64 0, .slice none 0 0] 28)).trans (hbm.mono (bb.alloc bb.size (.cells #[.int .i64 0, .int .i64 0, .slice none 0 0] 28)).size); have K6c := Blk.below (Blk.new wb 28 #[.int .i64 0, .int .i64 0, .slice none 0 0]) hbm (Blk.lt (Blk.new wb 28 #[.int .i64 0, .int .i64 0, .slice none 0 0])); have omF := own_set4 om K6c (by simp) (.int .i64 S0) (.int .i64 T0) (.slice Am zs.length cm); have bmF := below_set3 bm K6c (by first | exact Nat.le_refl _ | exact ba.size | exact bb.size) (.int .i64 S0) (.int .i64 T0) (.slice Am zs.length cm); have qmF := cells6 bmF KA.out KB.out; have k60 := K6c.c3.1; have k61 := K6c.c3.2.1; have k62 := K6c.c3.2.2; have f60 := K6c.frozen 0; have f61 := K6c.frozen 1; have f62 := K6c.frozen 2)); have qm := cells6 bm KA.out KB.out; have qmz := cells6 (bm.alloc bm.size (.cells #[.int .i64 0, .int .i64 0, .slice none 0 0] 28)) KA.out KB.out; have qma := cells6 (bm.alloc bm.size (.cells #[.int .i64 S0, .int .i64 T0, .slice Am zs.length cm] 28)) KA.out KB.out))
    all_goals
      go_wp2_with fail
      go_meet
      first | exact ⟨_, _, _, Am, cm, rfl, rfl, rfl, bmF, cyl_set K6c, omF⟩ | exact ⟨_, _, _, Am, cm, rfl, rfl, rfl, bm.alloc bm.size (.cells #[.int .i64 S0, .int .i64 T0, .slice Am zs.length cm] 28), Blk.new wm 28 #[.int .i64 S0, .int .i64 T0, .slice Am zs.length cm], om.alloc (.cells #[.int .i64 S0, .int .i64 T0, .slice Am zs.length cm] 28)⟩
  case rest =>
    obtain ⟨w3, GV, BV, AV, cV, rfl, rfl, rfl, hb3, KV0, v3⟩ := hcut
    clear q0 q0a CA0 CA1
    have b3 : Below W.heap.size W w3 := b2.trans (hb3.mono b2.size)
    replace KA := Lib.hid (Blk.below (B := w2.heap.size) KA.out hb3 (Blk.lt KA.out))
    replace KB := Lib.hid (Blk.below (B := w2.heap.size) KB.out hb3 (Blk.lt KB.out))
    have KV := Lib.hid KV0
    clear KV0 hb3
    obtain ⟨cA0, cA1, cA2⟩ := KA.out.c3
    go_wp2_with fail
    refine (TC.out _ ((R.out.below b3).more b3.size)).mono ?_
    rintro e w4 ⟨A4, c4, rfl, x4, hb4⟩
    clear cA0 cA1 cA2
    have APvx := Lib.hid (own_apart v3 x4)
    have NAx := Lib.hid (own_ne x4 (Blk.lt KA.out))
    have NBx := Lib.hid (own_ne x4 (Blk.lt KB.out))
    have NVx := Lib.hid (own_ne x4 (Blk.lt KV.out))
    have zx : W.heap.size ≤ w3.heap.size := b3.size
    have b4 : Below W.heap.size W w4 := b3.trans (hb4.mono b3.size)
    replace KA := Lib.hid (Blk.below (B := w3.heap.size) KA.out hb4 (Blk.lt KA.out))
    replace KB := Lib.hid (Blk.below (B := w3.heap.size) KB.out hb4 (Blk.lt KB.out))
    replace KV := Lib.hid (Blk.below (B := w3.heap.size) KV.out hb4 (Blk.lt KV.out))
    have v4 := own_below v3 hb4
    clear v3
    have KX := Lib.hid (Blk.new w4 28 #[.int .i64 s, .int .i64 t, .slice A4 n c4])
    have NXx := Lib.hid (own_ne_hi x4 (Nat.le_refl _))
    obtain ⟨cB0, cB1, cB2⟩ := (KB.out.alloc (.cells #[.int .i64 s, .int .i64 t, .slice A4 n c4] 28)).c3
    go_wp2_with fail
    refine (TD.out _ ((R'.out.below (b4.alloc b4.size _)).more (b4.alloc b4.size _).size)).mono ?_
    rintro e w5 ⟨A5, c5, rfl, y5, hb5⟩
    clear cB0 cB1 cB2
    have APvy := Lib.hid (own_apart (v4.alloc _) y5)
    have APxy := Lib.hid (own_apart (x4.alloc _) y5)
    have APyx := Lib.hid (own_apart' (x4.alloc _) y5)
    have NAy := Lib.hid (own_ne y5 (Blk.lt (KA.out.alloc (.cells #[.int .i64 s, .int .i64 t, .slice A4 n c4] 28))))
    have NBy := Lib.hid (own_ne y5 (Blk.lt (KB.out.alloc (.cells #[.int .i64 s, .int .i64 t, .slice A4 n c4] 28))))
    have NVy := Lib.hid (own_ne y5 (Blk.lt (KV.out.alloc (.cells #[.int .i64 s, .int .i64 t, .slice A4 n c4] 28))))
    have NXy := Lib.hid (own_ne y5 (Blk.lt KX.out))
    have zy : W.heap.size ≤ (w4.alloc (.cells #[.int .i64 s, .int .i64 t, .slice A4 n c4] 28)).heap.size := (b4.alloc b4.size _).size
    have b5 : Below W.heap.size W w5 := (b4.alloc b4.size _).trans (hb5.mono (b4.alloc b4.size _).size)
    replace KA := Lib.hid (Blk.below (B := (w4.alloc (.cells #[.int .i64 s, .int .i64 t, .slice A4 n c4] 28)).heap.size) (KA.out.alloc (.cells #[.int .i64 s, .int .i64 t, .slice A4 n c4] 28)) hb5 (Blk.lt (KA.out.alloc (.cells #[.int .i64 s, .int .i64 t, .slice A4 n c4] 28))))
    replace KB := Lib.hid (Blk.below (B := (w4.alloc (.cells #[.int .i64 s, .int .i64 t, .slice A4 n c4] 28)).heap.size) (KB.out.alloc (.cells #[.int .i64 s, .int .i64 t, .slice A4 n c4] 28)) hb5 (Blk.lt (KB.out.alloc (.cells #[.int .i64 s, .int .i64 t, .slice A4 n c4] 28))))
    replace KV := Lib.hid (Blk.below (B := (w4.alloc (.cells #[.int .i64 s, .int .i64 t, .slice A4 n c4] 28)).heap.size) (KV.out.alloc (.cells #[.int .i64 s, .int .i64 t, .slice A4 n c4] 28)) hb5 (Blk.lt (KV.out.alloc (.cells #[.int .i64 s, .int .i64 t, .slice A4 n c4] 28))))
    replace KX := Lib.hid (Blk.below (B := (w4.alloc (.cells #[.int .i64 s, .int .i64 t, .slice A4 n c4] 28)).heap.size) KX.out hb5 (Blk.lt KX.out))
    have v5 := own_below (v4.alloc _) hb5
    clear v4
    have x5 := own_below (x4.alloc _) hb5
    clear x4
    have KY := Lib.hid (Blk.new w5 28 #[.int .i64 s', .int .i64 t', .slice A5 n' c5])
    have NYx := Lib.hid (own_ne_hi x5 (Nat.le_refl _))
    have NYy := Lib.hid (own_ne_hi y5 (Nat.le_refl _))
    obtain ⟨cX0, cX1, cX2⟩ := (KX.out.alloc (.cells #[.int .i64 s', .int .i64 t', .slice A5 n' c5] 28)).c3
    go_wp2_with fail
    refine (I.out _ _ _ _ _ (Rd.of_own (x5.alloc _)) (Rd.of_own (y5.alloc _))).mono ?_
    rintro e w6 ⟨A6, c6, rfl, g6, hb6⟩
    clear cX0 cX1 cX2
    have APvg := Lib.hid (own_apart (v5.alloc _) g6)
    have APxg := Lib.hid (own_apart (x5.alloc _) g6)
    have APgx := Lib.hid (own_apart' (x5.alloc _) g6)
    have APyg := Lib.hid (own_apart (y5.alloc _) g6)
    have APgy := Lib.hid (own_apart' (y5.alloc _) g6)
    have NAg := Lib.hid (own_ne g6 (Blk.lt (KA.out.alloc (.cells #[.int .i64 s', .int .i64 t', .slice A5 n' c5] 28))))
    have NBg := Lib.hid (own_ne g6 (Blk.lt (KB.out.alloc (.cells #[.int .i64 s', .int .i64 t', .slice A5 n' c5] 28))))
    have NVg := Lib.hid (own_ne g6 (Blk.lt (KV.out.alloc (.cells #[.int .i64 s', .int .i64 t', .slice A5 n' c5] 28))))
    have NXg := Lib.hid (own_ne g6 (Blk.lt (KX.out.alloc (.cells #[.int .i64 s', .int .i64 t', .slice A5 n' c5] 28))))
    have NYg := Lib.hid (own_ne g6 (Blk.lt KY.out))
    have zg : W.heap.size ≤ (w5.alloc (.cells #[.int .i64 s', .int .i64 t', .slice A5 n' c5] 28)).heap.size := (b5.alloc b5.size _).size
    have b6 : Below W.heap.size W w6 := (b5.alloc b5.size _).trans (hb6.mono (b5.alloc b5.size _).size)
    replace KA := Lib.hid (Blk.below (B := (w5.alloc (.cells #[.int .i64 s', .int .i64 t', .slice A5 n' c5] 28)).heap.size) (KA.out.alloc (.cells #[.int .i64 s', .int .i64 t', .slice A5 n' c5] 28)) hb6 (Blk.lt (KA.out.alloc (.cells #[.int .i64 s', .int .i64 t', .slice A5 n' c5] 28))))
    replace KB := Lib.hid (Blk.below (B := (w5.alloc (.cells #[.int .i64 s', .int .i64 t', .slice A5 n' c5] 28)).heap.size) (KB.out.alloc (.cells #[.int .i64 s', .int .i64 t', .slice A5 n' c5] 28)) hb6 (Blk.lt (KB.out.alloc (.cells #[.int .i64 s', .int .i64 t', .slice A5 n' c5] 28))))
    replace KV := Lib.hid (Blk.below (B := (w5.alloc (.cells #[.int .i64 s', .int .i64 t', .slice A5 n' c5] 28)).heap.size) (KV.out.alloc (.cells #[.int .i64 s', .int .i64 t', .slice A5 n' c5] 28)) hb6 (Blk.lt (KV.out.alloc (.cells #[.int .i64 s', .int .i64 t', .slice A5 n' c5] 28))))
    replace KX := Lib.hid (Blk.below (B := (w5.alloc (.cells #[.int .i64 s', .int .i64 t', .slice A5 n' c5] 28)).heap.size) (KX.out.alloc (.cells #[.int .i64 s', .int .i64 t', .slice A5 n' c5] 28)) hb6 (Blk.lt (KX.out.alloc (.cells #[.int .i64 s', .int .i64 t', .slice A5 n' c5] 28))))
    replace KY := Lib.hid (Blk.below (B := (w5.alloc (.cells #[.int .i64 s', .int .i64 t', .slice A5 n' c5] 28)).heap.size) KY.out hb6 (Blk.lt KY.out))
    have v6 := own_below (v5.alloc _) hb6
    clear v5
    have x6 := own_below (x5.alloc _) hb6
    clear x5
    have y6 := own_below (y5.alloc _) hb6
    clear y5
    have KG := Lib.hid (Blk.new w6 28 #[.int .i64 S0, .int .i64 T0, .slice A6 zs.length c6])
    have NGx := Lib.hid (own_ne_hi x6 (Nat.le_refl _))
    have NGy := Lib.hid (own_ne_hi y6 (Nat.le_refl _))
    have NGg := Lib.hid (own_ne_hi g6 (Nat.le_refl _))
    obtain ⟨cV0, cV1, cV2⟩ := (KV.out.alloc (.cells #[.int .i64 S0, .int .i64 T0, .slice A6 zs.length c6] 28)).c3
    go_wp2_with fail
    refine (eqCyl_same _ _ _ _ _ _ _ _ _ (Rd.of_own (g6.alloc _)) (Rd.of_own (v6.alloc _)) (by omega)).mono ?_
    rintro e w7 ⟨rfl, hb7⟩
    clear cV0 cV1 cV2
    have b7 : Below W.heap.size W w7 := (b6.alloc b6.size _).trans (hb7.mono (b6.alloc b6.size _).size)
    replace KA := Lib.hid (Blk.below (B := (w6.alloc (.cells #[.int .i64 S0, .int .i64 T0, .slice A6 zs.length c6] 28)).heap.size) (KA.out.alloc (.cells #[.int .i64 S0, .int .i64 T0, .slice A6 zs.length c6] 28)) hb7 (Blk.lt (KA.out.alloc (.cells #[.int .i64 S0, .int .i64 T0, .slice A6 zs.length c6] 28))))
    replace KB := Lib.hid (Blk.below (B := (w6.alloc (.cells #[.int .i64 S0, .int .i64 T0, .slice A6 zs.length c6] 28)).heap.size) (KB.out.alloc (.cells #[.int .i64 S0, .int .i64 T0, .slice A6 zs.length c6] 28)) hb7 (Blk.lt (KB.out.alloc (.cells #[.int .i64 S0, .int .i64 T0, .slice A6 zs.length c6] 28))))
    replace KV := Lib.hid (Blk.below (B := (w6.alloc (.cells #[.int .i64 S0, .int .i64 T0, .slice A6 zs.length c6] 28)).heap.size) (KV.out.alloc (.cells #[.int .i64 S0, .int .i64 T0, .slice A6 zs.length c6] 28)) hb7 (Blk.lt (KV.out.alloc (.cells #[.int .i64 S0, .int .i64 T0, .slice A6 zs.length c6] 28))))
    replace KX := Lib.hid (Blk.below (B := (w6.alloc (.cells #[.int .i64 S0, .int .i64 T0, .slice A6 zs.length c6] 28)).heap.size) (KX.out.alloc (.cells #[.int .i64 S0, .int .i64 T0, .slice A6 zs.length c6] 28)) hb7 (Blk.lt (KX.out.alloc (.cells #[.int .i64 S0, .int .i64 T0, .slice A6 zs.length c6] 28))))
    replace KY := Lib.hid (Blk.below (B := (w6.alloc (.cells #[.int .i64 S0, .int .i64 T0, .slice A6 zs.length c6] 28)).heap.size) (KY.out.alloc (.cells #[.int .i64 S0, .int .i64 T0, .slice A6 zs.length c6] 28)) hb7 (Blk.lt (KY.out.alloc (.cells #[.int .i64 S0, .int .i64 T0, .slice A6 zs.length c6] 28))))
    replace KG := Lib.hid (Blk.below (B := (w6.alloc (.cells #[.int .i64 S0, .int .i64 T0, .slice A6 zs.length c6] 28)).heap.size) KG.out hb7 (Blk.lt KG.out))
    have v7 := own_below (v6.alloc _) hb7
    clear v6
    have x7 := own_below (x6.alloc _) hb7
    clear x6
    have y7 := own_below (y6.alloc _) hb7
    clear y6
    have g7 := own_below (g6.alloc _) hb7
    clear g6
    obtain ⟨cX0, cX1, cX2⟩ := KX.out.c3
    obtain ⟨cA0, cA1, cA2⟩ := KA.out.c3
    go_wp2
    go_region_held3 (fun w' => w'.cell? ⟨w4.heap.size, 0, none⟩ = some (.int .i64 s) ∧ w'.cell? ⟨w4.heap.size, 1, none⟩ = some (.int .i64 t) ∧ w'.cell? ⟨w4.heap.size, 2, none⟩ = some (.slice A4 n c4) ∧ w'.cell? ⟨W.heap.size, 0, none⟩ = some (.int .i64 s) ∧ w'.cell? ⟨W.heap.size, 1, none⟩ = some (.int .i64 t) ∧ w'.cell? ⟨W.heap.size, 2, none⟩ = some (.slice A n c)) (first | exact ⟨cX0, cX1, cX2, cA0, cA1, cA2⟩ | exact ⟨k0, k1, k2, k3, k4, k5⟩ | exact ⟨l0, l1, l2, l3, l4, l5⟩) (first | (go_at_call 10; refine (TC.out _ ((R.out.below b7.drew).more b7.drew.size)).mono ?_; rintro e w8 ⟨A8, c8, rfl, t8, hb8⟩; have KX1 := Blk.below (B := w7.drew.heap.size) (Blk.drew1 KX.out) hb8 (Blk.lt (Blk.drew1 KX.out)); have KA1 := Blk.below (B := w7.drew.heap.size) (Blk.drew1 KA.out) hb8 (Blk.lt (Blk.drew1 KA.out)); have k0 := KX1.c3.1; have k1 := KX1.c3.2.1; have k2 := KX1.c3.2.2; have k3 := KA1.c3.1; have k4 := KA1.c3.2.1; have k5 := KA1.c3.2.2) | (go_at_call 12; refine (eqCyl_same _ _ _ _ _ _ _ _ _ (Rd.of_own (own_below (own_drew1 x7) hb8)) (Rd.of_own t8) (by omega)).mono ?_; rintro e w9 ⟨rfl, hb9⟩; have l0 := (KX1.below hb9 (Blk.lt KX1)).c3.1; have l1 := (KX1.below hb9 (Blk.lt KX1)).c3.2.1; have l2 := (KX1.below hb9 (Blk.lt KX1)).c3.2.2; have l3 := (KA1.below hb9 (Blk.lt KA1)).c3.1; have l4 := (KA1.below hb9 (Blk.lt KA1)).c3.2.1; have l5 := (KA1.below hb9 (Blk.lt KA1)).c3.2.2))
    clear cX0 cX1 cX2 cA0 cA1 cA2
    clear k0 k1 k2 k3 k4 k5 l0 l1 l2 l3 l4 l5 KX1 KA1 t8
    have b8 : Below W.heap.size W w8 := b7.drew.trans (hb8.mono b7.drew.size)
    replace KA := Lib.hid (Blk.below (B := w7.drew.heap.size) (Blk.drew1 KA.out) hb8 (Blk.lt (Blk.drew1 KA.out)))
    replace KB := Lib.hid (Blk.below (B := w7.drew.heap.size) (Blk.drew1 KB.out) hb8 (Blk.lt (Blk.drew1 KB.out)))
    replace KV := Lib.hid (Blk.below (B := w7.drew.heap.size) (Blk.drew1 KV.out) hb8 (Blk.lt (Blk.drew1 KV.out)))
    replace KX := Lib.hid (Blk.below (B := w7.drew.heap.size) (Blk.drew1 KX.out) hb8 (Blk.lt (Blk.drew1 KX.out)))
    replace KY := Lib.hid (Blk.below (B := w7.drew.heap.size) (Blk.drew1 KY.out) hb8 (Blk.lt (Blk.drew1 KY.out)))
    replace KG := Lib.hid (Blk.below (B := w7.drew.heap.size) (Blk.drew1 KG.out) hb8 (Blk.lt (Blk.drew1 KG.out)))
    have v8 := own_below (own_drew1 v7) hb8
    clear v7
    have x8 := own_below (own_drew1 x7) hb8
    clear x7
    have y8 := own_below (own_drew1 y7) hb8
    clear y7
    have g8 := own_below (own_drew1 g7) hb8
    clear g7
    have b9 : Below W.heap.size W w9 := b8.trans (hb9.mono b8.size)
    replace KA := Lib.hid (Blk.below (B := w8.heap.size) KA.out hb9 (Blk.lt KA.out))
    replace KB := Lib.hid (Blk.below (B := w8.heap.size) KB.out hb9 (Blk.lt KB.out))
    replace KV := Lib.hid (Blk.below (B := w8.heap.size) KV.out hb9 (Blk.lt KV.out))
    replace KX := Lib.hid (Blk.below (B := w8.heap.size) KX.out hb9 (Blk.lt KX.out))
    replace KY := Lib.hid (Blk.below (B := w8.heap.size) KY.out hb9 (Blk.lt KY.out))
    replace KG := Lib.hid (Blk.below (B := w8.heap.size) KG.out hb9 (Blk.lt KG.out))
    have v9 := own_below v8 hb9
    clear v8
    have x9 := own_below x8 hb9
    clear x8
    have y9 := own_below y8 hb9
    clear y8
    have g9 := own_below g8 hb9
    clear g8
    obtain ⟨cY0, cY1, cY2⟩ := KY.out.c3
    obtain ⟨cB0, cB1, cB2⟩ := KB.out.c3
    go_wp2
    go_region_held3 (fun w' => w'.cell? ⟨w5.heap.size, 0, none⟩ = some (.int .i64 s') ∧ w'.cell? ⟨w5.heap.size, 1, none⟩ = some (.int .i64 t') ∧ w'.cell? ⟨w5.heap.size, 2, none⟩ = some (.slice A5 n' c5) ∧ w'.cell? ⟨W.heap.size + 1, 0, none⟩ = some (.int .i64 s') ∧ w'.cell? ⟨W.heap.size + 1, 1, none⟩ = some (.int .i64 t') ∧ w'.cell? ⟨W.heap.size + 1, 2, none⟩ = some (.slice A' n' c')) (first | exact ⟨cY0, cY1, cY2, cB0, cB1, cB2⟩ | exact ⟨k0, k1, k2, k3, k4, k5⟩ | exact ⟨l0, l1, l2, l3, l4, l5⟩) (first | (go_at_call 10; refine (TD.out _ ((R'.out.below b9.drew).more b9.drew.size)).mono ?_; rintro e w10 ⟨A10, c10, rfl, t10, hb10⟩; have KX1 := Blk.below (B := w9.drew.heap.size) (Blk.drew1 KY.out) hb10 (Blk.lt (Blk.drew1 KY.out)); have KA1 := Blk.below (B := w9.drew.heap.size) (Blk.drew1 KB.out) hb10 (Blk.lt (Blk.drew1 KB.out)); have k0 := KX1.c3.1; have k1 := KX1.c3.2.1; have k2 := KX1.c3.2.2; have k3 := KA1.c3.1; have k4 := KA1.c3.2.1; have k5 := KA1.c3.2.2) | (go_at_call 12; refine (eqCyl_same _ _ _ _ _ _ _ _ _ (Rd.of_own (own_below (own_drew1 y9) hb10)) (Rd.of_own t10) (by omega)).mono ?_; rintro e w11 ⟨rfl, hb11⟩; have l0 := (KX1.below hb11 (Blk.lt KX1)).c3.1; have l1 := (KX1.below hb11 (Blk.lt KX1)).c3.2.1; have l2 := (KX1.below hb11 (Blk.lt KX1)).c3.2.2; have l3 := (KA1.below hb11 (Blk.lt KA1)).c3.1; have l4 := (KA1.below hb11 (Blk.lt KA1)).c3.2.1; have l5 := (KA1.below hb11 (Blk.lt KA1)).c3.2.2))
    clear cY0 cY1 cY2 cB0 cB1 cB2
    clear k0 k1 k2 k3 k4 k5 l0 l1 l2 l3 l4 l5 KX1 KA1 t10
    have b10 : Below W.heap.size W w10 := b9.drew.trans (hb10.mono b9.drew.size)
    replace KA := Lib.hid (Blk.below (B := w9.drew.heap.size) (Blk.drew1 KA.out) hb10 (Blk.lt (Blk.drew1 KA.out)))
    replace KB := Lib.hid (Blk.below (B := w9.drew.heap.size) (Blk.drew1 KB.out) hb10 (Blk.lt (Blk.drew1 KB.out)))
    replace KV := Lib.hid (Blk.below (B := w9.drew.heap.size) (Blk.drew1 KV.out) hb10 (Blk.lt (Blk.drew1 KV.out)))
    replace KX := Lib.hid (Blk.below (B := w9.drew.heap.size) (Blk.drew1 KX.out) hb10 (Blk.lt (Blk.drew1 KX.out)))
    replace KY := Lib.hid (Blk.below (B := w9.drew.heap.size) (Blk.drew1 KY.out) hb10 (Blk.lt (Blk.drew1 KY.out)))
    replace KG := Lib.hid (Blk.below (B := w9.drew.heap.size) (Blk.drew1 KG.out) hb10 (Blk.lt (Blk.drew1 KG.out)))
    have v10 := own_below (own_drew1 v9) hb10
    clear v9
    have x10 := own_below (own_drew1 x9) hb10
    clear x9
    have y10 := own_below (own_drew1 y9) hb10
    clear y9
    have g10 := own_below (own_drew1 g9) hb10
    clear g9
    have b11 : Below W.heap.size W w11 := b10.trans (hb11.mono b10.size)
    replace KA := Lib.hid (Blk.below (B := w10.heap.size) KA.out hb11 (Blk.lt KA.out))
    replace KB := Lib.hid (Blk.below (B := w10.heap.size) KB.out hb11 (Blk.lt KB.out))
    replace KV := Lib.hid (Blk.below (B := w10.heap.size) KV.out hb11 (Blk.lt KV.out))
    replace KX := Lib.hid (Blk.below (B := w10.heap.size) KX.out hb11 (Blk.lt KX.out))
    replace KY := Lib.hid (Blk.below (B := w10.heap.size) KY.out hb11 (Blk.lt KY.out))
    replace KG := Lib.hid (Blk.below (B := w10.heap.size) KG.out hb11 (Blk.lt KG.out))
    have v11 := own_below v10 hb11
    clear v10
    have x11 := own_below x10 hb11
    clear x10
    have y11 := own_below y10 hb11
    clear y10
    have g11 := own_below g10 hb11
    clear g10
    obtain ⟨cX0, cX1, cX2⟩ := KX.out.c3
    go_wp2_with fail
    refine (markCyl_any _ _ _ _ _ _ 1 _ _ x11 (by omega) (by omega)).mono ?_
    rintro e w12 ⟨rfl, x12, hg12⟩
    clear cX0 cX1 cX2
    have b12 : Below W.heap.size W w12 := b11.grown hg12 b11.size (fun q hq => by have := (x11.lt q hq).1; have := zx; omega)
    replace KA := Lib.hid (KA.out.grown hg12 NAx.out)
    replace KB := Lib.hid (KB.out.grown hg12 NBx.out)
    replace KV := Lib.hid (KV.out.grown hg12 NVx.out)
    replace KX := Lib.hid (KX.out.grown hg12 NXx.out)
    replace KY := Lib.hid (KY.out.grown hg12 NYx.out)
    replace KG := Lib.hid (KG.out.grown hg12 NGx.out)
    have v12 := v11.kept hg12 APvx.out
    clear v11
    have y12 := y11.kept hg12 APyx.out
    clear y11
    have g12 := g11.kept hg12 APgx.out
    clear g11
    clear hg12
    clear x12
    clear KX
    obtain ⟨cY0, cY1, cY2⟩ := KY.out.c3
    go_wp2_with fail
    refine (markCyl_any _ _ _ _ _ _ (1 + 2 * (n : Int)) _ _ y12 (by omega) (by omega)).mono ?_
    rintro e w13 ⟨rfl, y13, hg13⟩
    clear cY0 cY1 cY2
    have b13 : Below W.heap.size W w13 := b12.grown hg13 b12.size (fun q hq => by have := (y12.lt q hq).1; have := zy; omega)
    replace KA := Lib.hid (KA.out.grown hg13 NAy.out)
    replace KB := Lib.hid (KB.out.grown hg13 NBy.out)
    replace KV := Lib.hid (KV.out.grown hg13 NVy.out)
    replace KY := Lib.hid (KY.out.grown hg13 NYy.out)
    replace KG := Lib.hid (KG.out.grown hg13 NGy.out)
    have v13 := v12.kept hg13 APvy.out
    clear v12
    have g13 := g12.kept hg13 APgy.out
    clear g12
    clear hg13
    clear y13
    clear KY
    obtain ⟨cG0, cG1, cG2⟩ := KG.out.c3
    obtain ⟨cV0, cV1, cV2⟩ := KV.out.c3
    go_wp2_with fail
    refine (eqCyl_same _ _ _ _ _ _ _ _ _ (Rd.of_own g13) (Rd.of_own v13) (by omega)).mono ?_
    rintro e w14 ⟨rfl, hb14⟩
    clear cG0 cG1 cG2 cV0 cV1 cV2
    have b14 : Below W.heap.size W w14 := b13.trans (hb14.mono b13.size)
    replace KA := Lib.hid (Blk.below (B := w13.heap.size) KA.out hb14 (Blk.lt KA.out))
    replace KB := Lib.hid (Blk.below (B := w13.heap.size) KB.out hb14 (Blk.lt KB.out))
    replace KV := Lib.hid (Blk.below (B := w13.heap.size) KV.out hb14 (Blk.lt KV.out))
    replace KG := Lib.hid (Blk.below (B := w13.heap.size) KG.out hb14 (Blk.lt KG.out))
    have v14 := own_below v13 hb14
    clear v13
    have g14 := own_below g13 hb14
    clear g13
    obtain ⟨cG0, cG1, cG2⟩ := KG.out.c3
    go_wp2_with fail
    refine (markCyl_any _ _ _ _ _ _ 1 _ _ g14 (by omega) (by omega)).mono ?_
    rintro e w15 ⟨rfl, g15, hg15⟩
    clear cG0 cG1 cG2
    have b15 : Below W.heap.size W w15 := b14.grown hg15 b14.size (fun q hq => by have := (g14.lt q hq).1; have := zg; omega)
    replace KA := Lib.hid (KA.out.grown hg15 NAg.out)
    replace KB := Lib.hid (KB.out.grown hg15 NBg.out)
    replace KV := Lib.hid (KV.out.grown hg15 NVg.out)
    replace KG := Lib.hid (KG.out.grown hg15 NGg.out)
    have v15 := v14.kept hg15 APvg.out
    clear v14
    clear hg15
    obtain ⟨cG0, cG1, cG2⟩ := KG.out.c3
    go_wp2_with fail
    refine (heldCyl_any _ _ _ _ _ 1 _ (Rd.of_own g15) (by omega) (by omega)).mono ?_
    rintro e w16 ⟨rfl, hb16⟩
    clear cG0 cG1 cG2
    have b16 : Below W.heap.size W w16 := b15.trans (hb16.mono b15.size)
    replace KA := Lib.hid (Blk.below (B := w15.heap.size) KA.out hb16 (Blk.lt KA.out))
    replace KB := Lib.hid (Blk.below (B := w15.heap.size) KB.out hb16 (Blk.lt KB.out))
    replace KV := Lib.hid (Blk.below (B := w15.heap.size) KV.out hb16 (Blk.lt KV.out))
    replace KG := Lib.hid (Blk.below (B := w15.heap.size) KG.out hb16 (Blk.lt KG.out))
    have v16 := own_below v15 hb16
    clear v15
    have g16 := own_below g15 hb16
    clear g15
    have q0 := cells6 (Below.refl w16.heap.size w16) KA.out KB.out
    have q0a := cells6 ((Below.refl w16.heap.size w16).alloc (Nat.le_refl _) (.cells #[.int .i64 0, .int .i64 0, .slice none 0 0] 28)) KA.out KB.out
    have RA0 : Rd w16.drew w16.drew.heap.size 2 A n (pc xs) := ((R.out.below b16).more b16.size).drew
    have RA1 : Rd (w16.alloc (.cells #[.int .i64 0, .int .i64 0, .slice none 0 0] 28)).drew (w16.alloc (.cells #[.int .i64 0, .int .i64 0, .slice none 0 0] 28)).drew.heap.size 2 A n (pc xs) := ((R.out.below (b16.alloc b16.size (.cells #[.int .i64 0, .int .i64 0, .slice none 0 0] 28))).more (b16.alloc b16.size (.cells #[.int .i64 0, .int .i64 0, .slice none 0 0] 28)).size).drew
    have CA0 := Lib.hid (TC.out _ RA0)
    have CA1 := Lib.hid (TC.out _ RA1)
    clear RA0 RA1
    go_upto_region 31 with fail
    go_cut [15, 16] (fun p q wx => ∃ (w17 : World) (GH BH : Nat) (AH : Option Addr) (cH : Nat), w17 = wx ∧ p = .pointer (some ⟨GH, 0, none⟩) ∧ q = .bool ok ∧ Below w16.heap.size w16 w17 ∧ Blk w17 GH 28 #[.int .i64 S0, .int .i64 T0, .slice AH zs.length cH] ∧ w17.ownsRow BH 50 2 (.slice AH zs.length cH) zs.length (pc zs))
    case first =>
      go_wp2_with fail
      go_region_held3 (fun w' => w'.cell? ⟨W.heap.size, 0, none⟩ = some (.int .i64 s) ∧ w'.cell? ⟨W.heap.size, 1, none⟩ = some (.int .i64 t) ∧ w'.cell? ⟨W.heap.size, 2, none⟩ = some (.slice A n c) ∧ w'.cell? ⟨W.heap.size + 1, 0, none⟩ = some (.int .i64 s') ∧ w'.cell? ⟨W.heap.size + 1, 1, none⟩ = some (.int .i64 t') ∧ w'.cell? ⟨W.heap.size + 1, 2, none⟩ = some (.slice A' n' c')) (first | exact q0 | exact q0a | exact qa | exact qaa | exact qb | exact qba | exact qm | exact qmz | exact qma | exact qmF) (first | (go_at_call 10; (first | ((with_reducible refine CA0.out.mono ?_); rintro e wa ⟨Aa, ca, rfl, oa, hba⟩; have ba := (Below.refl w16.heap.size w16).drew.trans (hba.mono (Nat.le_refl _))) | ((with_reducible refine CA1.out.mono ?_); rintro e wa ⟨Aa, ca, rfl, oa, hba⟩; have ba := ((Below.refl w16.heap.size w16).alloc (Nat.le_refl _) (.cells #[.int .i64 0, .int .i64 0, .slice none 0 0] 28)).drew.trans (hba.mono (by simp)); have K6 := Blk.below (B := (w16.alloc (.cells #[.int .i64 0, .int .i64 0, .slice none 0 0] 28)).drew.heap.size) ((Blk.new w16 28 #[.int .i64 0, .int .i64 0, .slice none 0 0]).drewN 1) hba (Blk.lt (Blk.new w16 28 #[.int .i64 0, .int .i64 0, .slice none 0 0])))); have qa := cells6 ba KA.out KB.out; have qaa := cells6 (ba.alloc ba.size (.cells #[.int .i64 0, .int .i64 0, .slice none 0 0] 28)) KA.out KB.out; have CB0 := Lib.hid (TD.out wa ((R'.out.below (b16.trans (ba.mono b16.size))).more (b16.trans (ba.mono b16.size)).size)); have CB1 := Lib.hid (TD.out (wa.alloc (.cells #[.int .i64 0, .int .i64 0, .slice none 0 0] 28)) ((R'.out.below (b16.trans ((ba.alloc ba.size (.cells #[.int .i64 0, .int .i64 0, .slice none 0 0] 28)).mono b16.size))).more (b16.trans ((ba.alloc ba.size (.cells #[.int .i64 0, .int .i64 0, .slice none 0 0] 28)).mono b16.size)).size))) | (go_at_call 10; (first | ((with_reducible refine CB0.out.mono ?_); rintro e wb ⟨Ab, cb, rfl, ob, hbb⟩; have pa := own_below oa hbb; have bb := ba.trans (hbb.mono ba.size); (first | (have K6b := Blk.below K6 hbb (Blk.lt K6)) | skip)) | ((with_reducible refine CB1.out.mono ?_); rintro e wb ⟨Ab, cb, rfl, ob, hbb⟩; have pa := own_below (oa.alloc (.cells #[.int .i64 0, .int .i64 0, .slice none 0 0] 28)) hbb; have bb := (ba.alloc ba.size (.cells #[.int .i64 0, .int .i64 0, .slice none 0 0] 28)).trans (hbb.mono (ba.alloc ba.size (.cells #[.int .i64 0, .int .i64 0, .slice none 0 0] 28)).size); have K6b := Blk.below (Blk.new wa 28 #[.int .i64 0, .int .i64 0, .slice none 0 0]) hbb (Blk.lt (Blk.new wa 28 #[.int .i64 0, .int .i64 0, .slice none 0 0])))); have qb := cells6 bb KA.out KB.out; have qba := cells6 (bb.alloc bb.size (.cells #[.int .i64 0, .int .i64 0, .slice none 0 0] 28)) KA.out KB.out; have CM0 := Lib.hid (I.out Aa ca Ab cb wb (Rd.of_own pa) (Rd.of_own ob)); have CM1 := Lib.hid (I.out Aa ca Ab cb (wb.alloc (.cells #[.int .i64 0, .int .i64 0, .slice none 0 0] 28)) (Rd.of_own (pa.alloc _)) (Rd.of_own (ob.alloc _)))) | (go_at_call 18; (first | ((with_reducible refine CM0.out.mono ?_); rintro e wm ⟨Am, cm, rfl, om, hbm⟩; have bm := bb.trans (hbm.mono bb.size); (first | (have K6c := Blk.below K6b hbm (Blk.lt K6b); have omF := own_set4 om K6c (Blk.lt K6b) (.int .i64 S0) (.int .i64 T0) (.slice Am zs.length cm); have bmF := below_set3 bm K6c (by first | exact Nat.le_refl _ | exact ba.size | exact bb.size) (.int .i64 S0) (.int .i64 T0) (.slice Am zs.length cm); have qmF := cells6 bmF KA.out KB.out; have k60 := K6c.c3.1; have k61 := K6c.c3.2.1; have k62 := K6c.c3.2.2; have f60 := K6c.frozen 0; have f61 := K6c.frozen 1; have f62 := K6c.frozen 2) | skip)) | ((with_reducible refine CM1.out.mono ?_); rintro e wm ⟨Am, cm, rfl, om, hbm⟩; have bm := (bb.alloc bb.size (.cells #[.int .i64 0, .int .i64 0, .slice none 0 0] 28)).trans (hbm.mono (bb.alloc bb.size (.cells #[.int .i64 0, .int .i64 0, .slice none 0 0] 28)).size); have K6c := Blk.below (Blk.new wb 28 #[.int .i64 0, .int .i64 0, .slice none 0 0]) hbm (Blk.lt (Blk.new wb 28 #[.int .i64 0, .int .i64 0, .slice none 0 0])); have omF := own_set4 om K6c (by simp) (.int .i64 S0) (.int .i64 T0) (.slice Am zs.length cm); have bmF := below_set3 bm K6c (by first | exact Nat.le_refl _ | exact ba.size | exact bb.size) (.int .i64 S0) (.int .i64 T0) (.slice Am zs.length cm); have qmF := cells6 bmF KA.out KB.out; have k60 := K6c.c3.1; have k61 := K6c.c3.2.1; have k62 := K6c.c3.2.2; have f60 := K6c.frozen 0; have f61 := K6c.frozen 1; have f62 := K6c.frozen 2)); have qm := cells6 bm KA.out KB.out; have qmz := cells6 (bm.alloc bm.size (.cells #[.int .i64 0, .int .i64 0, .slice none 0 0] 28)) KA.out KB.out; have qma := cells6 (bm.alloc bm.size (.cells #[.int .i64 S0, .int .i64 T0, .slice Am zs.length cm] 28)) KA.out KB.out))
      all_goals
        go_wp2_with fail
        go_meet
        first | exact ⟨_, _, _, Am, cm, rfl, rfl, rfl, bmF, cyl_set K6c, omF⟩ | exact ⟨_, _, _, Am, cm, rfl, rfl, rfl, bm.alloc bm.size (.cells #[.int .i64 S0, .int .i64 T0, .slice Am zs.length cm] 28), Blk.new wm 28 #[.int .i64 S0, .int .i64 T0, .slice Am zs.length cm], om.alloc (.cells #[.int .i64 S0, .int .i64 T0, .slice Am zs.length cm] 28)⟩
    case rest =>
      obtain ⟨w17, GH, BH, AH, cH, rfl, rfl, rfl, hb17, KH0, h17⟩ := hcut
      clear q0 q0a CA0 CA1
      have b17 : Below W.heap.size W w17 := b16.trans (hb17.mono b16.size)
      replace KA := Lib.hid (Blk.below (B := w16.heap.size) KA.out hb17 (Blk.lt KA.out))
      replace KB := Lib.hid (Blk.below (B := w16.heap.size) KB.out hb17 (Blk.lt KB.out))
      replace KV := Lib.hid (Blk.below (B := w16.heap.size) KV.out hb17 (Blk.lt KV.out))
      replace KG := Lib.hid (Blk.below (B := w16.heap.size) KG.out hb17 (Blk.lt KG.out))
      have v17 := own_below v16 hb17
      clear v16
      have g17 := own_below g16 hb17
      clear g16
      have KH := Lib.hid KH0
      clear KH0 hb17
      obtain ⟨cH0, cH1, cH2⟩ := KH.out.c3
      obtain ⟨cV0, cV1, cV2⟩ := KV.out.c3
      go_wp2_with fail
      refine (eqCyl_same _ _ _ _ _ _ _ _ _ (Rd.of_own h17) (Rd.of_own v17) (by omega)).mono ?_
      rintro e w18 ⟨rfl, hb18⟩
      clear cH0 cH1 cH2 cV0 cV1 cV2
      have b18 : Below W.heap.size W w18 := b17.trans (hb18.mono b17.size)
      replace KA := Lib.hid (Blk.below (B := w17.heap.size) KA.out hb18 (Blk.lt KA.out))
      replace KB := Lib.hid (Blk.below (B := w17.heap.size) KB.out hb18 (Blk.lt KB.out))
      replace KV := Lib.hid (Blk.below (B := w17.heap.size) KV.out hb18 (Blk.lt KV.out))
      replace KG := Lib.hid (Blk.below (B := w17.heap.size) KG.out hb18 (Blk.lt KG.out))
      replace KH := Lib.hid (Blk.below (B := w17.heap.size) KH.out hb18 (Blk.lt KH.out))
      have v18 := own_below v17 hb18
      clear v17
      have g18 := own_below g17 hb18
      clear g17
      have h18 := own_below h17 hb18
      clear h17
      obtain ⟨cG0, cG1, cG2⟩ := KG.out.c3
      go_wp2_with fail
      refine (heldCyl_any _ _ _ _ _ 1 _ (Rd.of_own g18) (by omega) (by omega)).mono ?_
      rintro e w19 ⟨rfl, hb19⟩
      clear cG0 cG1 cG2
      have b19 : Below W.heap.size W w19 := b18.trans (hb19.mono b18.size)
      replace KA := Lib.hid (Blk.below (B := w18.heap.size) KA.out hb19 (Blk.lt KA.out))
      replace KB := Lib.hid (Blk.below (B := w18.heap.size) KB.out hb19 (Blk.lt KB.out))
      replace KV := Lib.hid (Blk.below (B := w18.heap.size) KV.out hb19 (Blk.lt KV.out))
      replace KG := Lib.hid (Blk.below (B := w18.heap.size) KG.out hb19 (Blk.lt KG.out))
      replace KH := Lib.hid (Blk.below (B := w18.heap.size) KH.out hb19 (Blk.lt KH.out))
      have v19 := own_below v18 hb19
      clear v18
      have g19 := own_below g18 hb19
      clear g18
      have h19 := own_below h18 hb19
      clear h18
      go_wp2
      go_ret
      exact ⟨rfl, b19⟩

end Go.Proofs.Ytjklobhnidbinaa
