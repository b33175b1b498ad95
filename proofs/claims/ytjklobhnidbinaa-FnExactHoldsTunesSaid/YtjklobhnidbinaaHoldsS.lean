/-
  HoldsTunes of spec: some cylinders, each on its own shift, on one.
-/
import Derived.Test.YtjklobhnidbinaaHoldsI
namespace Go.Proofs.Ytjklobhnidbinaa
open Go.RowKit

theorem holds_zero {cs : List Cy} {d : Int} {c o : Cy} (h : cs[0]? = some c) (hx : shiftC c.1 c.2.1 c.2.2 d (0 : Nat) = some o) : holdsN cs d 1 = some o := by
  rw [holds_one h]
  exact hx
theorem holds_zero_no {cs : List Cy} {d : Int} {c : Cy} (h : cs[0]? = some c) (hx : shiftC c.1 c.2.1 c.2.2 d (0 : Nat) = none) : holdsN cs d 1 = none := by
  rw [holds_one h]
  exact hx

set_option maxHeartbeats 2000000 in
theorem sHolds (A : Option Addr) (n c : Nat) (hs : List (Option Addr × Nat)) (cs : List Cy) (d : Int) (w : World) (h : RdCS w w.heap.size A n hs cs) (hn : n ≤ 1048576) :
    Calls Try.prog 20 #[.slice A n c, .int .i64 d] w (MadeCO w (holdsC cs d)) := by
  have hni : (n : Int) ≤ 1048576 := by omega
  have H := Lib.hid h
  clear h
  cases hq : inB (n : Int) 1 d
  · have hno := holdsC_no (cs := cs) (d := d) (by rw [H.out.2.1]; have := inB_not hq; omega)
    rw [hno]
    clear hno
    have WI := Lib.hid (fun w => l01In_any (n : Int) 1 d w)
    rw [hq] at WI
    clear hq
    go_enter Try.func20, Try.ntmps20
    go_wp2_with (go_at_call 31; refine (WI.out _).mono ?_; rintro e w' ⟨rfl, rfl⟩)
    refine bodyPost_ret (v := .tuple #[.agg #[.int .i64 0, .int .i64 0, .slice none 0 0], .bool false]) (by simp [results, Try.results20, go_sem]) rfl (madeCO_no ?_)
    (repeat (first | exact Below.refl _ _ | assumption | refine Below.alloc ?_ (by first | omega | (simp <;> omega)) _ | refine Below.setCell ?_ (by first | omega | (simp <;> omega)) _ | refine Below.drew ?_ | refine Below.trans ?_ (Below.mono (by assumption) (by first | omega | (simp <;> omega)))))
  obtain ⟨hn1, hnd⟩ := inB_iff.1 hq
  have HY := Lib.hid (holdsC_yes (cs := cs) (d := d) (by rw [H.out.2.1]; omega))
  have HLEN := Lib.hid (fun k => holdsN_len cs d k)
  have WI := Lib.hid (fun w => l01In_any (n : Int) 1 d w)
  rw [hq] at WI
  have B1 := Lib.hid (two_below w (.cells #[.int .i64 0, .int .i64 0, .slice none 0 0] 28) (.cells #[.int .i64 0, .int .i64 0, .slice none 0 0] 28))
  have KZ := Lib.hid (blk_first w 28 #[.int .i64 0, .int .i64 0, .slice none 0 0] (.cells #[.int .i64 0, .int .i64 0, .slice none 0 0] 28))
  have K6 := Lib.hid (blk_second w (.cells #[.int .i64 0, .int .i64 0, .slice none 0 0] 28) 28 #[.int .i64 0, .int .i64 0, .slice none 0 0])
  obtain ⟨b, o, rfl, hbB, _⟩ := H.out.2.2.1 (by omega)
  clear hq
  go_enter Try.func20, Try.ntmps20
  go_wp2_with (go_at_call 31; refine (WI.out _).mono ?_; rintro e w' ⟨rfl, rfl⟩)
  go_loopw [7] (fun i wr => ∃ (k : Nat) (S T : Int) (xs : List (Int × Int)) (A1 : Option Addr) (c1 : Nat), k ≤ n ∧ i = .int .i64 k ∧ Hid (k = 0 ∨ (0 < k ∧ holdsN cs d k = some (S, T, xs))) ∧ Hid (xs.length ≤ 100) ∧ Blk wr (w.heap.size + 1) 28 #[.int .i64 S, .int .i64 T, .slice A1 xs.length c1] ∧ wr.ownsRow (w.heap.size + 1) 50 2 (.slice A1 xs.length c1) xs.length (pc xs) ∧ Hid (some (w.heap.size + 1) ≠ Value.ownBlock (.slice A1 xs.length c1)) ∧ Blk wr w.heap.size 28 #[.int .i64 0, .int .i64 0, .slice none 0 0] ∧ Below w.heap.size w wr) (fun i _ => n - (intOf i).toNat)
  case atStart => exact ⟨0, 0, 0, [], none, 0, Nat.zero_le _, rfl, Or.inl rfl, by simp [Hid], K6.out, World.ownsRow_nil _ _ _ _, Lib.hid (fun e => by cases e), KZ.out, B1.out⟩
  case round =>
    obtain ⟨k, S, T, xs, A1, c1, hkn, rfl, ht, hxl, hK, ho, hne, hZ, hbl⟩ := hrel
    have HK := Lib.hid hK
    have HO := Lib.hid ho
    have HZ := Lib.hid hZ
    have HBL := Lib.hid hbl
    obtain ⟨e0, e1, e2⟩ := hK.c3
    obtain ⟨r0, r1, r2⟩ := hZ.c3
    have f0 := hZ.frozen 0
    have f1 := hZ.frozen 1
    have f2 := hZ.frozen 2
    have zz := hK.lt
    clear hK ho hZ
    by_cases hlt : (k : Int) < n
    case neg =>
      obtain rfl : k = n := by omega
      have hyes : holdsN cs d k = some (S, T, xs) := by
        rcases ht.out with h | h
        · omega
        · exact h.2
      have HYES := Lib.hid hyes
      clear hyes
      go_wp2
      obtain ⟨q0, q1, q2⟩ := (cyl_set (a := .int .i64 S) (b := .int .i64 T) (c := .slice A1 xs.length c1) HZ.out).c3
      refine bodyPost_ret (v := .tuple #[.agg #[.int .i64 S, .int .i64 T, .slice A1 xs.length c1], .bool true]) (by simp [results, Try.results20, go_sem, q0, q1, q2]) rfl ?_
      rw [HY.out, H.out.2.1, HYES.out]
      refine madeCO_yes (own_base (own_low (own_low (own_low HO.out (by simp) _) (by simp) _) (by simp) _) (by omega)) ?_
      exact ((HBL.out.setCell (by simp) _).setCell (by simp) _).setCell (by simp) _
    obtain ⟨b', o', a', cc', s', t', l', hbe, hbB', _, h2, g0, g1, g2, hrd, hcc, hll⟩ := H.out.at (k := k) (by omega)
    obtain ⟨rfl, rfl⟩ : b = b' ∧ o = o' := by injection hbe with hbe; injection hbe with e1 e2; exact ⟨e1, e2⟩
    have c0 : wr.cell? ⟨b, o + k * 3, none⟩ = some (.int .i64 s') := (hbl.cell (p := ⟨b, o + k * 3, none⟩) hbB).trans g0
    have c1a : wr.cell? ⟨b, o + k * 3 + 1, none⟩ = some (.int .i64 t') := (hbl.cell (p := ⟨b, o + k * 3 + 1, none⟩) hbB).trans g1
    have c2 : wr.cell? ⟨b, o + k * 3 + 2, none⟩ = some (.slice a' l'.length cc') := (hbl.cell (p := ⟨b, o + k * 3 + 2, none⟩) hbB).trans g2
    have HRk := Lib.hid ((hrd.below hbl).more hbl.size)
    have HCk := Lib.hid h2
    have SHk := Lib.hid (fun w h => sShiftedTracks_all s' t' a' l'.length cc' l' d k w h hll)
    obtain ⟨os, hos⟩ : ∃ os, os = shiftC s' t' l' d k := ⟨_, rfl⟩
    rw [← hos] at SHk
    have HOS := Lib.hid hos
    have HOSL := Lib.hid (show (cyP os).length ≤ 100 by rw [hos]; exact shiftC_len _ _ _ _ _)
    obtain ⟨L', hL'⟩ : ∃ L', L' = l'.length := ⟨_, rfl⟩
    rw [← hL'] at SHk HRk c2
    have hk0 : (0 : Int) ≤ k := by omega
    have hsz := hbl.size
    clear h2 hos hbe g0 g1 g2 hrd hcc hll hL' hbl
    go_wp2_with fail
    refine (call_tell (SHk.out _ HRk.out)).mono ?_
    rintro e w2 ⟨S2, T2, ok2, xs2, A2, c2', rfl, ht2, ho2, hb2⟩
    have b2 := HBL.out.trans (hb2.mono hsz)
    have K2 := HK.out.below hb2 HK.out.lt
    have Z2 := HZ.out.below hb2 HZ.out.lt
    have O2 := own_below HO.out hb2
    have KA := K2.alloc (.cells #[.int .i64 S2, .int .i64 T2, .slice A2 xs2.length c2'] 28)
    have ZA := Z2.alloc (.cells #[.int .i64 S2, .int .i64 T2, .slice A2 xs2.length c2'] 28)
    have BA := b2.alloc b2.size (.cells #[.int .i64 S2, .int .i64 T2, .slice A2 xs2.length c2'] 28)
    have OA1 := Lib.hid (O2.alloc (.cells #[.int .i64 S2, .int .i64 T2, .slice A2 xs2.length c2'] 28))
    have OA2 := Lib.hid (ho2.alloc (.cells #[.int .i64 S2, .int .i64 T2, .slice A2 xs2.length c2'] 28))
    have HNE2 := Lib.hid (own_ne ho2 zz)
    have HKA := Lib.hid KA
    have HZA := Lib.hid ZA
    have HBA := Lib.hid BA
    obtain ⟨k0, k1, k2⟩ := KA.c3
    have m0 := KA.frozen 0
    have m1 := KA.frozen 1
    have m2 := KA.frozen 2
    obtain ⟨r0, r1, r2⟩ := ZA.c3
    have f0 := ZA.frozen 0
    have f1 := ZA.frozen 1
    have f2 := ZA.frozen 2
    clear b2 K2 Z2 O2 KA ZA BA ho2 hb2 e0 e1 e2 c0 c1a c2
    cases ok2
    · have hbad : holdsN cs d n = none := by
        rcases ht.out with h | h
        · subst h
          exact holds_none (by omega) (holds_zero_no (d := d) HCk.out (by rw [← HOS.out]; exact ht2.out.none)) (show 1 ≤ n by omega)
        · exact holds_none (by omega) (holds_bad (d := d) h.1 HCk.out (by rw [← HOS.out]; exact ht2.out.none)) (show k + 1 ≤ n by omega)
      have HNO := Lib.hid hbad
      clear hbad
      go_wp2
      obtain ⟨q0, q1, q2⟩ := (cyl_set (a := .int .i64 0) (b := .int .i64 0) (c := .slice none 0 0) HZA.out).c3
      refine bodyPost_ret (v := .tuple #[.agg #[.int .i64 0, .int .i64 0, .slice none 0 0], .bool false]) (by simp [results, Try.results20, go_sem, q0, q1, q2]) rfl ?_
      rw [HY.out, H.out.2.1, HNO.out]
      refine madeCO_no ?_
      exact ((HBA.out.setCell (by simp) _).setCell (by simp) _).setCell (by simp) _
    have hx2 : xs2.length ≤ 100 := by rw [ht2.out.2.2.2]; exact HOSL.out
    by_cases hkz : (k : Int) = 0
    · obtain rfl : k = 0 := by omega
      have hst := holds_zero (d := d) HCk.out (by rw [← HOS.out]; exact ht2.out.some)
      have HST := Lib.hid hst
      have KF := Lib.hid (cyl_set (a := .int .i64 S2) (b := .int .i64 T2) (c := .slice A2 xs2.length c2') HKA.out)
      have ZF := Lib.hid (((HZA.out.far (p := ⟨w.heap.size + 1, 0, none⟩) (by simp) (.int .i64 S2)).far (p := ⟨w.heap.size + 1, 1, none⟩) (by simp) (.int .i64 T2)).far (p := ⟨w.heap.size + 1, 2, none⟩) (by simp) (.slice A2 xs2.length c2'))
      have OF := Lib.hid (own_low (own_low (own_low OA2.out (p := ⟨w.heap.size + 1, 0, none⟩) zz (.int .i64 S2)) (p := ⟨w.heap.size + 1, 1, none⟩) zz (.int .i64 T2)) (p := ⟨w.heap.size + 1, 2, none⟩) zz (.slice A2 xs2.length c2'))
      have BF := Lib.hid (((HBA.out.setCell (p := ⟨w.heap.size + 1, 0, none⟩) (by simp) (.int .i64 S2)).setCell (p := ⟨w.heap.size + 1, 1, none⟩) (by simp) (.int .i64 T2)).setCell (p := ⟨w.heap.size + 1, 2, none⟩) (by simp) (.slice A2 xs2.length c2'))
      clear hst r0 r1 r2 hkz
      go_wp2
      go_roundw
      case rel => exact ⟨1, S2, T2, xs2, A2, c2', by omega, by go_num, Or.inr ⟨by omega, HST.out⟩, hx2, KF.out, own_base OF.out (by omega), HNE2, ZF.out, BF.out⟩
      case measure => simp [intOf] <;> omega
    have hkq : ((k : Int) == 0) = false := by simpa using hkz
    have hsome : holdsN cs d k = some (S, T, xs) := by
      rcases ht.out with h | h
      · omega
      · exact h.2
    have hst := holds_step (d := d) (show 0 < k by omega) HCk.out hsome (by rw [← HOS.out]; exact ht2.out.some)
    simp only at hst
    have MM := Lib.hid (fun w h h' => sMerge_all S T A1 xs.length c1 xs S2 T2 A2 xs2.length c2' xs2 w h h' (by have := hxl.out; omega) (by omega))
    rw [← hst] at MM
    clear hst hsome hkz
    have LL3 := Lib.hid (HLEN.out (k + 1))
    go_wp2_with fail
    refine (call_tell (MM.out _ (Rd.of_own OA1.out) (Rd.of_own OA2.out))).mono ?_
    rintro e w3 ⟨S3, T3, ok3, xs3, A3, c3', rfl, ht3, ho3, hb3⟩
    have y3 : w.heap.size + 1 < (w2.alloc (.cells #[.int .i64 S2, .int .i64 T2, .slice A2 xs2.length c2'] 28)).heap.size := HKA.out.lt
    have K3 := (HKA.out.below hb3 HKA.out.lt).alloc (.cells #[.int .i64 S3, .int .i64 T3, .slice A3 xs3.length c3'] 28)
    have Z3 := (HZA.out.below hb3 HZA.out.lt).alloc (.cells #[.int .i64 S3, .int .i64 T3, .slice A3 xs3.length c3'] 28)
    have B3' := HBA.out.trans (hb3.mono HBA.out.size)
    have B3 := B3'.alloc B3'.size (.cells #[.int .i64 S3, .int .i64 T3, .slice A3 xs3.length c3'] 28)
    have O3 := ho3.alloc (.cells #[.int .i64 S3, .int .i64 T3, .slice A3 xs3.length c3'] 28)
    have NF := Lib.hid (own_ne ho3 y3)
    have HK3 := Lib.hid K3
    have HZ3 := Lib.hid Z3
    have HB3 := Lib.hid B3
    have HO3 := Lib.hid O3
    obtain ⟨k0, k1, k2⟩ := K3.c3
    have m0 := K3.frozen 0
    have m1 := K3.frozen 1
    have m2 := K3.frozen 2
    obtain ⟨r0, r1, r2⟩ := Z3.c3
    have f0 := Z3.frozen 0
    have f1 := Z3.frozen 1
    have f2 := Z3.frozen 2
    clear K3 Z3 B3 B3' O3 ho3 hb3
    cases ok3
    · have HNO := Lib.hid (holds_none (by omega) ht3.out.none (show k + 1 ≤ n by omega))
      go_wp2
      obtain ⟨q0, q1, q2⟩ := (cyl_set (a := .int .i64 0) (b := .int .i64 0) (c := .slice none 0 0) HZ3.out).c3
      refine bodyPost_ret (v := .tuple #[.agg #[.int .i64 0, .int .i64 0, .slice none 0 0], .bool false]) (by simp [results, Try.results20, go_sem, q0, q1, q2]) rfl ?_
      rw [HY.out, H.out.2.1, HNO.out]
      refine madeCO_no ?_
      exact ((HB3.out.setCell (by simp) _).setCell (by simp) _).setCell (by simp) _
    · have HST := Lib.hid ht3.out.some
      have hx3 : xs3.length ≤ 100 := by rw [ht3.out.2.2.2]; exact LL3.out
      have KF := Lib.hid (cyl_set (a := .int .i64 S3) (b := .int .i64 T3) (c := .slice A3 xs3.length c3') HK3.out)
      have ZF := Lib.hid (((HZ3.out.far (p := ⟨w.heap.size + 1, 0, none⟩) (by simp) (.int .i64 S3)).far (p := ⟨w.heap.size + 1, 1, none⟩) (by simp) (.int .i64 T3)).far (p := ⟨w.heap.size + 1, 2, none⟩) (by simp) (.slice A3 xs3.length c3'))
      have OF := Lib.hid (own_low (own_low (own_low HO3.out (p := ⟨w.heap.size + 1, 0, none⟩) y3 (.int .i64 S3)) (p := ⟨w.heap.size + 1, 1, none⟩) y3 (.int .i64 T3)) (p := ⟨w.heap.size + 1, 2, none⟩) y3 (.slice A3 xs3.length c3'))
      have BF := Lib.hid (((HB3.out.setCell (p := ⟨w.heap.size + 1, 0, none⟩) (by simp) (.int .i64 S3)).setCell (p := ⟨w.heap.size + 1, 1, none⟩) (by simp) (.int .i64 T3)).setCell (p := ⟨w.heap.size + 1, 2, none⟩) (by simp) (.slice A3 xs3.length c3'))
      have hbase : w.heap.size + 1 ≤ (w2.alloc (.cells #[.int .i64 S2, .int .i64 T2, .slice A2 xs2.length c2'] 28)).heap.size := by omega
      clear r0 r1 r2
      go_wp2
      go_roundw
      case rel => exact ⟨k + 1, S3, T3, xs3, A3, c3', by omega, by go_num, Or.inr ⟨by omega, HST.out⟩, hx3, KF.out, own_base OF.out hbase, NF, ZF.out, BF.out⟩
      case measure => simp [intOf] <;> omega

end Go.Proofs.Ytjklobhnidbinaa
