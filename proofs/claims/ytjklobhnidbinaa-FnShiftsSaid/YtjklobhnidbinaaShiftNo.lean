/-
  PartAt and ShiftedTracks of impl and of spec where the cylinder, the distance or the shift is out of its bounds: no cylinder.
-/
import Derived.Test.YtjklobhnidbinaaCylAid
namespace Go.Proofs.Ytjklobhnidbinaa
open Go.RowKit

theorem two_below (w : World) (a b : Obj) : Below w.heap.size w ((w.alloc a).alloc b) := ((Below.refl w.heap.size w).alloc (Nat.le_refl _) _).alloc (by simp) _
theorem blk_second (w : World) (a : Obj) (t : TypeId) (cs : Array Value) : Blk ((w.alloc a).alloc (.cells cs t)) (w.heap.size + 1) t cs := by
  simpa using Blk.new (w.alloc a) t cs
theorem blk_first (w : World) (t : TypeId) (cs : Array Value) (b : Obj) : Blk ((w.alloc (.cells cs t)).alloc b) w.heap.size t cs := (Blk.new w t cs).alloc b


set_option maxHeartbeats 1000000 in
theorem iPartAt_no (s t : Int) (A : Option Addr) (n c : Nat) (xs : List (Int × Int)) (d k : Int) (w : World) (h : Rd w w.heap.size 2 A n (pc xs)) (hn : n ≤ 1048576) (hno : shiftB s t xs d k = false) :
    Calls Try.prog 11 #[.agg #[.int .i64 s, .int .i64 t, .slice A n c], .int .i64 d, .int .i64 k] w (MadeCO w none) := by
  have H := Lib.hid h
  have CO := Lib.hid (fun w h => iCylOk s t A n c xs w h hn)
  have B2 := Lib.hid (two_below w (.cells #[.int .i64 s, .int .i64 t, .slice A n c] 28) (.cells #[.int .i64 0, .int .i64 0, .slice none 0 0] 28))
  have HK0 := Lib.hid (blk_second w (.cells #[.int .i64 s, .int .i64 t, .slice A n c] 28) 28 #[.int .i64 0, .int .i64 0, .slice none 0 0])
  clear h
  cases hq : cylB s t xs
  · rw [hq] at CO
    clear hno hq
    go_enter Try.func11, Try.ntmps11
    go_wp2_with fail
    refine (CO.out _ ((H.out.below B2.out).more B2.out.size)).mono ?_
    rintro e w1 ⟨rfl, hb1⟩
    have b1 := B2.out.trans (hb1.mono B2.out.size)
    have K1 := HK0.out.below hb1 (by simp)
    obtain ⟨q0, q1, q2⟩ := K1.c3
    have f0 := K1.frozen 0
    have f1 := K1.frozen 1
    have f2 := K1.frozen 2
    go_wp2_with fail
    obtain ⟨r0, r1, r2⟩ := (cyl_set (a := .int .i64 0) (b := .int .i64 0) (c := .slice none 0 0) K1).c3
    refine bodyPost_ret (v := .tuple #[.agg #[.int .i64 0, .int .i64 0, .slice none 0 0], .bool false]) (by simp [results, Try.results11, go_sem, r0, r1, r2]) rfl (madeCO_no ?_)
    exact ((b1.setCell (by simp) _).setCell (by simp) _).setCell (by simp) _
  rw [hq] at CO
  have WD := Lib.hid (fun w => within_any d 1 20 w)
  cases hd : inB d 1 20
  · rw [hd] at WD
    clear hno hq hd
    go_enter Try.func11, Try.ntmps11
    go_wp2_with fail
    refine (CO.out _ ((H.out.below B2.out).more B2.out.size)).mono ?_
    rintro e w1 ⟨rfl, hb1⟩
    have b1 := B2.out.trans (hb1.mono B2.out.size)
    have K1 := HK0.out.below hb1 (by simp)
    obtain ⟨q0, q1, q2⟩ := K1.c3
    have f0 := K1.frozen 0
    have f1 := K1.frozen 1
    have f2 := K1.frozen 2
    go_wp2_with (go_at_call 33; refine (WD.out _).mono ?_; rintro e w' ⟨rfl, rfl⟩)
    obtain ⟨r0, r1, r2⟩ := (cyl_set (a := .int .i64 0) (b := .int .i64 0) (c := .slice none 0 0) K1).c3
    refine bodyPost_ret (v := .tuple #[.agg #[.int .i64 0, .int .i64 0, .slice none 0 0], .bool false]) (by simp [results, Try.results11, go_sem, r0, r1, r2]) rfl (madeCO_no ?_)
    exact ((b1.setCell (by simp) _).setCell (by simp) _).setCell (by simp) _
  rw [hd] at WD
  obtain ⟨hd0, hd1⟩ := inB_iff.1 hd
  have WK := Lib.hid (fun w => within_any k 0 (d - 1) w)
  rw [show inB k 0 (d - 1) = false by simpa [shiftB, hq, hd] using hno] at WK
  clear hno hq hd
  go_enter Try.func11, Try.ntmps11
  go_wp2_with fail
  refine (CO.out _ ((H.out.below B2.out).more B2.out.size)).mono ?_
  rintro e w1 ⟨rfl, hb1⟩
  have b1 := B2.out.trans (hb1.mono B2.out.size)
  have K1 := HK0.out.below hb1 (by simp)
  obtain ⟨q0, q1, q2⟩ := K1.c3
  have f0 := K1.frozen 0
  have f1 := K1.frozen 1
  have f2 := K1.frozen 2
  go_wp2_with (first | ((with_reducible (go_at_call 33; refine (WD.out _).mono ?_; rintro e w' ⟨rfl, rfl⟩))) | ((with_reducible (go_at_call 33; refine (WK.out _).mono ?_; rintro e w' ⟨rfl, rfl⟩))))
  obtain ⟨r0, r1, r2⟩ := (cyl_set (a := .int .i64 0) (b := .int .i64 0) (c := .slice none 0 0) K1).c3
  refine bodyPost_ret (v := .tuple #[.agg #[.int .i64 0, .int .i64 0, .slice none 0 0], .bool false]) (by simp [results, Try.results11, go_sem, r0, r1, r2]) rfl (madeCO_no ?_)
  exact ((b1.setCell (by simp) _).setCell (by simp) _).setCell (by simp) _

set_option maxHeartbeats 1000000 in
theorem iShiftedTracks_no (s t : Int) (A : Option Addr) (n c : Nat) (xs : List (Int × Int)) (d k : Int) (w : World) (h : Rd w w.heap.size 2 A n (pc xs)) (hn : n ≤ 1048576) (hno : shiftB s t xs d k = false) :
    Calls Try.prog 16 #[.agg #[.int .i64 s, .int .i64 t, .slice A n c], .int .i64 d, .int .i64 k] w (MadeCO w none) := by
  have H := Lib.hid h
  have CO := Lib.hid (fun w h => iCylOk s t A n c xs w h hn)
  have B2 := Lib.hid (two_below w (.cells #[.int .i64 s, .int .i64 t, .slice A n c] 28) (.cells #[.int .i64 0, .int .i64 0, .slice none 0 0] 28))
  have HK0 := Lib.hid (blk_second w (.cells #[.int .i64 s, .int .i64 t, .slice A n c] 28) 28 #[.int .i64 0, .int .i64 0, .slice none 0 0])
  clear h
  cases hq : cylB s t xs
  · rw [hq] at CO
    clear hno hq
    go_enter Try.func16, Try.ntmps16
    go_wp2_with fail
    refine (CO.out _ ((H.out.below B2.out).more B2.out.size)).mono ?_
    rintro e w1 ⟨rfl, hb1⟩
    have b1 := B2.out.trans (hb1.mono B2.out.size)
    have K1 := HK0.out.below hb1 (by simp)
    obtain ⟨q0, q1, q2⟩ := K1.c3
    have f0 := K1.frozen 0
    have f1 := K1.frozen 1
    have f2 := K1.frozen 2
    go_wp2_with fail
    obtain ⟨r0, r1, r2⟩ := (cyl_set (a := .int .i64 0) (b := .int .i64 0) (c := .slice none 0 0) K1).c3
    refine bodyPost_ret (v := .tuple #[.agg #[.int .i64 0, .int .i64 0, .slice none 0 0], .bool false]) (by simp [results, Try.results16, go_sem, r0, r1, r2]) rfl (madeCO_no ?_)
    exact ((b1.setCell (by simp) _).setCell (by simp) _).setCell (by simp) _
  rw [hq] at CO
  have WD := Lib.hid (fun w => within_any d 1 20 w)
  cases hd : inB d 1 20
  · rw [hd] at WD
    clear hno hq hd
    go_enter Try.func16, Try.ntmps16
    go_wp2_with fail
    refine (CO.out _ ((H.out.below B2.out).more B2.out.size)).mono ?_
    rintro e w1 ⟨rfl, hb1⟩
    have b1 := B2.out.trans (hb1.mono B2.out.size)
    have K1 := HK0.out.below hb1 (by simp)
    obtain ⟨q0, q1, q2⟩ := K1.c3
    have f0 := K1.frozen 0
    have f1 := K1.frozen 1
    have f2 := K1.frozen 2
    go_wp2_with (go_at_call 33; refine (WD.out _).mono ?_; rintro e w' ⟨rfl, rfl⟩)
    obtain ⟨r0, r1, r2⟩ := (cyl_set (a := .int .i64 0) (b := .int .i64 0) (c := .slice none 0 0) K1).c3
    refine bodyPost_ret (v := .tuple #[.agg #[.int .i64 0, .int .i64 0, .slice none 0 0], .bool false]) (by simp [results, Try.results16, go_sem, r0, r1, r2]) rfl (madeCO_no ?_)
    exact ((b1.setCell (by simp) _).setCell (by simp) _).setCell (by simp) _
  rw [hd] at WD
  obtain ⟨hd0, hd1⟩ := inB_iff.1 hd
  have WK := Lib.hid (fun w => within_any k 0 (d - 1) w)
  rw [show inB k 0 (d - 1) = false by simpa [shiftB, hq, hd] using hno] at WK
  clear hno hq hd
  go_enter Try.func16, Try.ntmps16
  go_wp2_with fail
  refine (CO.out _ ((H.out.below B2.out).more B2.out.size)).mono ?_
  rintro e w1 ⟨rfl, hb1⟩
  have b1 := B2.out.trans (hb1.mono B2.out.size)
  have K1 := HK0.out.below hb1 (by simp)
  obtain ⟨q0, q1, q2⟩ := K1.c3
  have f0 := K1.frozen 0
  have f1 := K1.frozen 1
  have f2 := K1.frozen 2
  go_wp2_with (first | ((with_reducible (go_at_call 33; refine (WD.out _).mono ?_; rintro e w' ⟨rfl, rfl⟩))) | ((with_reducible (go_at_call 33; refine (WK.out _).mono ?_; rintro e w' ⟨rfl, rfl⟩))))
  obtain ⟨r0, r1, r2⟩ := (cyl_set (a := .int .i64 0) (b := .int .i64 0) (c := .slice none 0 0) K1).c3
  refine bodyPost_ret (v := .tuple #[.agg #[.int .i64 0, .int .i64 0, .slice none 0 0], .bool false]) (by simp [results, Try.results16, go_sem, r0, r1, r2]) rfl (madeCO_no ?_)
  exact ((b1.setCell (by simp) _).setCell (by simp) _).setCell (by simp) _

set_option maxHeartbeats 1000000 in
theorem sPartAt_no (s t : Int) (A : Option Addr) (n c : Nat) (xs : List (Int × Int)) (d k : Int) (w : World) (h : Rd w w.heap.size 2 A n (pc xs)) (hn : n ≤ 1048576) (hno : shiftB s t xs d k = false) :
    Calls Try.prog 9 #[.agg #[.int .i64 s, .int .i64 t, .slice A n c], .int .i64 d, .int .i64 k] w (MadeCO w none) := by
  have H := Lib.hid h
  have CO := Lib.hid (fun w h => sCylOk s t A n c xs w h hn)
  have B2 := Lib.hid (two_below w (.cells #[.int .i64 s, .int .i64 t, .slice A n c] 28) (.cells #[.int .i64 0, .int .i64 0, .slice none 0 0] 28))
  have HK0 := Lib.hid (blk_second w (.cells #[.int .i64 s, .int .i64 t, .slice A n c] 28) 28 #[.int .i64 0, .int .i64 0, .slice none 0 0])
  clear h
  cases hq : cylB s t xs
  · rw [hq] at CO
    clear hno hq
    go_enter Try.func9, Try.ntmps9
    go_wp2_with fail
    refine (CO.out _ ((H.out.below B2.out).more B2.out.size)).mono ?_
    rintro e w1 ⟨rfl, hb1⟩
    have b1 := B2.out.trans (hb1.mono B2.out.size)
    have K1 := HK0.out.below hb1 (by simp)
    obtain ⟨q0, q1, q2⟩ := K1.c3
    have f0 := K1.frozen 0
    have f1 := K1.frozen 1
    have f2 := K1.frozen 2
    go_wp2_with fail
    obtain ⟨r0, r1, r2⟩ := (cyl_set (a := .int .i64 0) (b := .int .i64 0) (c := .slice none 0 0) K1).c3
    refine bodyPost_ret (v := .tuple #[.agg #[.int .i64 0, .int .i64 0, .slice none 0 0], .bool false]) (by simp [results, Try.results9, go_sem, r0, r1, r2]) rfl (madeCO_no ?_)
    exact ((b1.setCell (by simp) _).setCell (by simp) _).setCell (by simp) _
  rw [hq] at CO
  have WD := Lib.hid (fun w => l01In_any d 1 20 w)
  cases hd : inB d 1 20
  · rw [hd] at WD
    clear hno hq hd
    go_enter Try.func9, Try.ntmps9
    go_wp2_with fail
    refine (CO.out _ ((H.out.below B2.out).more B2.out.size)).mono ?_
    rintro e w1 ⟨rfl, hb1⟩
    have b1 := B2.out.trans (hb1.mono B2.out.size)
    have K1 := HK0.out.below hb1 (by simp)
    obtain ⟨q0, q1, q2⟩ := K1.c3
    have f0 := K1.frozen 0
    have f1 := K1.frozen 1
    have f2 := K1.frozen 2
    go_wp2_with (go_at_call 31; refine (WD.out _).mono ?_; rintro e w' ⟨rfl, rfl⟩)
    obtain ⟨r0, r1, r2⟩ := (cyl_set (a := .int .i64 0) (b := .int .i64 0) (c := .slice none 0 0) K1).c3
    refine bodyPost_ret (v := .tuple #[.agg #[.int .i64 0, .int .i64 0, .slice none 0 0], .bool false]) (by simp [results, Try.results9, go_sem, r0, r1, r2]) rfl (madeCO_no ?_)
    exact ((b1.setCell (by simp) _).setCell (by simp) _).setCell (by simp) _
  rw [hd] at WD
  obtain ⟨hd0, hd1⟩ := inB_iff.1 hd
  have WK := Lib.hid (fun w => l01In_any k 0 (d - 1) w)
  rw [show inB k 0 (d - 1) = false by simpa [shiftB, hq, hd] using hno] at WK
  clear hno hq hd
  go_enter Try.func9, Try.ntmps9
  go_wp2_with fail
  refine (CO.out _ ((H.out.below B2.out).more B2.out.size)).mono ?_
  rintro e w1 ⟨rfl, hb1⟩
  have b1 := B2.out.trans (hb1.mono B2.out.size)
  have K1 := HK0.out.below hb1 (by simp)
  obtain ⟨q0, q1, q2⟩ := K1.c3
  have f0 := K1.frozen 0
  have f1 := K1.frozen 1
  have f2 := K1.frozen 2
  go_wp2_with (first | ((with_reducible (go_at_call 31; refine (WD.out _).mono ?_; rintro e w' ⟨rfl, rfl⟩))) | ((with_reducible (go_at_call 31; refine (WK.out _).mono ?_; rintro e w' ⟨rfl, rfl⟩))))
  obtain ⟨r0, r1, r2⟩ := (cyl_set (a := .int .i64 0) (b := .int .i64 0) (c := .slice none 0 0) K1).c3
  refine bodyPost_ret (v := .tuple #[.agg #[.int .i64 0, .int .i64 0, .slice none 0 0], .bool false]) (by simp [results, Try.results9, go_sem, r0, r1, r2]) rfl (madeCO_no ?_)
  exact ((b1.setCell (by simp) _).setCell (by simp) _).setCell (by simp) _

set_option maxHeartbeats 1000000 in
theorem sShiftedTracks_no (s t : Int) (A : Option Addr) (n c : Nat) (xs : List (Int × Int)) (d k : Int) (w : World) (h : Rd w w.heap.size 2 A n (pc xs)) (hn : n ≤ 1048576) (hno : shiftB s t xs d k = false) :
    Calls Try.prog 15 #[.agg #[.int .i64 s, .int .i64 t, .slice A n c], .int .i64 d, .int .i64 k] w (MadeCO w none) := by
  have H := Lib.hid h
  have CO := Lib.hid (fun w h => sCylOk s t A n c xs w h hn)
  have B2 := Lib.hid (two_below w (.cells #[.int .i64 s, .int .i64 t, .slice A n c] 28) (.cells #[.int .i64 0, .int .i64 0, .slice none 0 0] 28))
  have HK0 := Lib.hid (blk_second w (.cells #[.int .i64 s, .int .i64 t, .slice A n c] 28) 28 #[.int .i64 0, .int .i64 0, .slice none 0 0])
  clear h
  cases hq : cylB s t xs
  · rw [hq] at CO
    clear hno hq
    go_enter Try.func15, Try.ntmps15
    go_wp2_with fail
    refine (CO.out _ ((H.out.below B2.out).more B2.out.size)).mono ?_
    rintro e w1 ⟨rfl, hb1⟩
    have b1 := B2.out.trans (hb1.mono B2.out.size)
    have K1 := HK0.out.below hb1 (by simp)
    obtain ⟨q0, q1, q2⟩ := K1.c3
    have f0 := K1.frozen 0
    have f1 := K1.frozen 1
    have f2 := K1.frozen 2
    go_wp2_with fail
    obtain ⟨r0, r1, r2⟩ := (cyl_set (a := .int .i64 0) (b := .int .i64 0) (c := .slice none 0 0) K1).c3
    refine bodyPost_ret (v := .tuple #[.agg #[.int .i64 0, .int .i64 0, .slice none 0 0], .bool false]) (by simp [results, Try.results15, go_sem, r0, r1, r2]) rfl (madeCO_no ?_)
    exact ((b1.setCell (by simp) _).setCell (by simp) _).setCell (by simp) _
  rw [hq] at CO
  have WD := Lib.hid (fun w => l01In_any d 1 20 w)
  cases hd : inB d 1 20
  · rw [hd] at WD
    clear hno hq hd
    go_enter Try.func15, Try.ntmps15
    go_wp2_with fail
    refine (CO.out _ ((H.out.below B2.out).more B2.out.size)).mono ?_
    rintro e w1 ⟨rfl, hb1⟩
    have b1 := B2.out.trans (hb1.mono B2.out.size)
    have K1 := HK0.out.below hb1 (by simp)
    obtain ⟨q0, q1, q2⟩ := K1.c3
    have f0 := K1.frozen 0
    have f1 := K1.frozen 1
    have f2 := K1.frozen 2
    go_wp2_with (go_at_call 31; refine (WD.out _).mono ?_; rintro e w' ⟨rfl, rfl⟩)
    obtain ⟨r0, r1, r2⟩ := (cyl_set (a := .int .i64 0) (b := .int .i64 0) (c := .slice none 0 0) K1).c3
    refine bodyPost_ret (v := .tuple #[.agg #[.int .i64 0, .int .i64 0, .slice none 0 0], .bool false]) (by simp [results, Try.results15, go_sem, r0, r1, r2]) rfl (madeCO_no ?_)
    exact ((b1.setCell (by simp) _).setCell (by simp) _).setCell (by simp) _
  rw [hd] at WD
  obtain ⟨hd0, hd1⟩ := inB_iff.1 hd
  have WK := Lib.hid (fun w => l01In_any k 0 (d - 1) w)
  rw [show inB k 0 (d - 1) = false by simpa [shiftB, hq, hd] using hno] at WK
  clear hno hq hd
  go_enter Try.func15, Try.ntmps15
  go_wp2_with fail
  refine (CO.out _ ((H.out.below B2.out).more B2.out.size)).mono ?_
  rintro e w1 ⟨rfl, hb1⟩
  have b1 := B2.out.trans (hb1.mono B2.out.size)
  have K1 := HK0.out.below hb1 (by simp)
  obtain ⟨q0, q1, q2⟩ := K1.c3
  have f0 := K1.frozen 0
  have f1 := K1.frozen 1
  have f2 := K1.frozen 2
  go_wp2_with (first | ((with_reducible (go_at_call 31; refine (WD.out _).mono ?_; rintro e w' ⟨rfl, rfl⟩))) | ((with_reducible (go_at_call 31; refine (WK.out _).mono ?_; rintro e w' ⟨rfl, rfl⟩))))
  obtain ⟨r0, r1, r2⟩ := (cyl_set (a := .int .i64 0) (b := .int .i64 0) (c := .slice none 0 0) K1).c3
  refine bodyPost_ret (v := .tuple #[.agg #[.int .i64 0, .int .i64 0, .slice none 0 0], .bool false]) (by simp [results, Try.results15, go_sem, r0, r1, r2]) rfl (madeCO_no ?_)
  exact ((b1.setCell (by simp) _).setCell (by simp) _).setCell (by simp) _

end Go.Proofs.Ytjklobhnidbinaa
