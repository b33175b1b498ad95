/-
  Merge of impl and of spec where a cylinder is not valid or the two differ in size: no cylinder.
-/
import Derived.Test.YtjklobhnidbinaaCylAid
import Derived.Test.YtjklobhnidbinaaEndM
namespace Go.Proofs.Ytjklobhnidbinaa
open Go.RowKit

theorem three_below (w : World) (a b c : Obj) : Below w.heap.size w (((w.alloc a).alloc b).alloc c) := (((Below.refl w.heap.size w).alloc (Nat.le_refl _) _).alloc (by simp) _).alloc (by simp; omega) _
theorem blk3_1 (w : World) (t : TypeId) (cs : Array Value) (b c : Obj) : Blk (((w.alloc (.cells cs t)).alloc b).alloc c) w.heap.size t cs := ((Blk.new w t cs).alloc b).alloc c
theorem blk3_2 (w : World) (a : Obj) (t : TypeId) (cs : Array Value) (c : Obj) : Blk (((w.alloc a).alloc (.cells cs t)).alloc c) (w.heap.size + 1) t cs := by
  simpa using (Blk.new (w.alloc a) t cs).alloc c
theorem blk3_3 (w : World) (a b : Obj) (t : TypeId) (cs : Array Value) : Blk (((w.alloc a).alloc b).alloc (.cells cs t)) (w.heap.size + 1 + 1) t cs := by
  simpa using Blk.new ((w.alloc a).alloc b) t cs


set_option maxHeartbeats 1000000 in
theorem iMerge_no (s t : Int) (A : Option Addr) (n c : Nat) (xs : List (Int × Int)) (s' t' : Int) (A' : Option Addr) (n' c' : Nat) (ys : List (Int × Int)) (w : World) (h : Rd w w.heap.size 2 A n (pc xs)) (h' : Rd w w.heap.size 2 A' n' (pc ys)) (hn : n ≤ 1048576) (hn' : n' ≤ 1048576) (hno : ¬ (cylB s t xs = true ∧ cylB s' t' ys = true ∧ s = s' ∧ t = t')) :
    Calls Try.prog 18 #[.agg #[.int .i64 s, .int .i64 t, .slice A n c], .agg #[.int .i64 s', .int .i64 t', .slice A' n' c']] w (MadeCO w none) := by
  have H := Lib.hid h
  have H' := Lib.hid h'
  have B3 := Lib.hid (three_below w (.cells #[.int .i64 s, .int .i64 t, .slice A n c] 28) (.cells #[.int .i64 s', .int .i64 t', .slice A' n' c'] 28) (.cells #[.int .i64 0, .int .i64 0, .slice none 0 0] 28))
  have HA := Lib.hid (blk3_1 w 28 #[.int .i64 s, .int .i64 t, .slice A n c] (.cells #[.int .i64 s', .int .i64 t', .slice A' n' c'] 28) (.cells #[.int .i64 0, .int .i64 0, .slice none 0 0] 28))
  have HB := Lib.hid (blk3_2 w (.cells #[.int .i64 s, .int .i64 t, .slice A n c] 28) 28 #[.int .i64 s', .int .i64 t', .slice A' n' c'] (.cells #[.int .i64 0, .int .i64 0, .slice none 0 0] 28))
  have HZ := Lib.hid (blk3_3 w (.cells #[.int .i64 s, .int .i64 t, .slice A n c] 28) (.cells #[.int .i64 s', .int .i64 t', .slice A' n' c'] 28) 28 #[.int .i64 0, .int .i64 0, .slice none 0 0])
  clear h h'
  have CA := Lib.hid (fun w h => iCylOk s t A n c xs w h hn)
  have CB := Lib.hid (fun w h => iCylOk s' t' A' n' c' ys w h hn')
  cases ha : cylB s t xs
  · rw [ha] at CA
    clear hno ha
    go_enter Try.func18, Try.ntmps18
    go_wp2_with fail
    refine (CA.out _ ((H.out.below B3.out).more B3.out.size)).mono ?_
    rintro e w1 ⟨rfl, hb1⟩
    have b1 := B3.out.trans (hb1.mono B3.out.size)
    have KA := Lib.hid (HA.out.below hb1 HA.out.lt)
    have KB := Lib.hid (HB.out.below hb1 HB.out.lt)
    have KZ := Lib.hid (HZ.out.below hb1 HZ.out.lt)
    clear hb1
    obtain ⟨q0, q1, q2⟩ := KZ.out.c3
    have f0 := KZ.out.frozen 0
    have f1 := KZ.out.frozen 1
    have f2 := KZ.out.frozen 2
    go_wp2_with fail
    obtain ⟨r0, r1, r2⟩ := (cyl_set (a := .int .i64 0) (b := .int .i64 0) (c := .slice none 0 0) KZ.out).c3
    refine bodyPost_ret (v := .tuple #[.agg #[.int .i64 0, .int .i64 0, .slice none 0 0], .bool false]) (by simp [results, Try.results18, go_sem, r0, r1, r2]) rfl (madeCO_no ?_)
    exact ((b1.setCell (by simp; omega) _).setCell (by simp; omega) _).setCell (by simp; omega) _
  rw [ha] at CA
  cases hb : cylB s' t' ys
  case false =>
    rw [hb] at CB
    clear hno ha hb
    go_enter Try.func18, Try.ntmps18
    go_wp2_with fail
    refine (CA.out _ ((H.out.below B3.out).more B3.out.size)).mono ?_
    rintro e w1 ⟨rfl, hb1⟩
    have b1 := B3.out.trans (hb1.mono B3.out.size)
    have KA := Lib.hid (HA.out.below hb1 HA.out.lt)
    have KB := Lib.hid (HB.out.below hb1 HB.out.lt)
    have KZ := Lib.hid (HZ.out.below hb1 HZ.out.lt)
    clear hb1
    obtain ⟨y0, y1, y2⟩ := KB.out.c3
    go_wp2_with fail
    refine (CB.out _ ((H'.out.below b1).more b1.size)).mono ?_
    rintro e w2 ⟨rfl, hb2⟩
    have b2 := b1.trans (hb2.mono b1.size)
    have KA2 := Lib.hid (KA.out.below hb2 KA.out.lt)
    have KB2 := Lib.hid (KB.out.below hb2 KB.out.lt)
    have KZ2 := Lib.hid (KZ.out.below hb2 KZ.out.lt)
    clear hb2 y0 y1 y2 KA KB KZ
    obtain ⟨q0, q1, q2⟩ := KZ2.out.c3
    have f0 := KZ2.out.frozen 0
    have f1 := KZ2.out.frozen 1
    have f2 := KZ2.out.frozen 2
    go_wp2_with fail
    obtain ⟨r0, r1, r2⟩ := (cyl_set (a := .int .i64 0) (b := .int .i64 0) (c := .slice none 0 0) KZ2.out).c3
    refine bodyPost_ret (v := .tuple #[.agg #[.int .i64 0, .int .i64 0, .slice none 0 0], .bool false]) (by simp [results, Try.results18, go_sem, r0, r1, r2]) rfl (madeCO_no ?_)
    exact ((b2.setCell (by simp; omega) _).setCell (by simp; omega) _).setCell (by simp; omega) _
  rw [hb] at CB
  by_cases hs : s = s'
  · subst hs
    have ht : ¬ t = t' := fun e => hno ⟨ha, hb, rfl, e⟩
    have ht1 : (t == t') = false := by simpa using ht
    have ht2 : (t != t') = true := by simpa using ht
    clear hno ha hb ht
    go_enter Try.func18, Try.ntmps18
    go_wp2_with fail
    refine (CA.out _ ((H.out.below B3.out).more B3.out.size)).mono ?_
    rintro e w1 ⟨rfl, hb1⟩
    have b1 := B3.out.trans (hb1.mono B3.out.size)
    have KA := Lib.hid (HA.out.below hb1 HA.out.lt)
    have KB := Lib.hid (HB.out.below hb1 HB.out.lt)
    have KZ := Lib.hid (HZ.out.below hb1 HZ.out.lt)
    clear hb1
    obtain ⟨y0, y1, y2⟩ := KB.out.c3
    go_wp2_with fail
    refine (CB.out _ ((H'.out.below b1).more b1.size)).mono ?_
    rintro e w2 ⟨rfl, hb2⟩
    have b2 := b1.trans (hb2.mono b1.size)
    have KA2 := Lib.hid (KA.out.below hb2 KA.out.lt)
    have KB2 := Lib.hid (KB.out.below hb2 KB.out.lt)
    have KZ2 := Lib.hid (KZ.out.below hb2 KZ.out.lt)
    clear hb2 y0 y1 y2 KA KB KZ
    obtain ⟨x0, x1, x2⟩ := KA2.out.c3
    obtain ⟨y0, y1, y2⟩ := KB2.out.c3
    obtain ⟨q0, q1, q2⟩ := KZ2.out.c3
    have f0 := KZ2.out.frozen 0
    have f1 := KZ2.out.frozen 1
    have f2 := KZ2.out.frozen 2
    go_wp2_with fail
    obtain ⟨r0, r1, r2⟩ := (cyl_set (a := .int .i64 0) (b := .int .i64 0) (c := .slice none 0 0) KZ2.out).c3
    refine bodyPost_ret (v := .tuple #[.agg #[.int .i64 0, .int .i64 0, .slice none 0 0], .bool false]) (by simp [results, Try.results18, go_sem, r0, r1, r2]) rfl (madeCO_no ?_)
    exact ((b2.setCell (by simp; omega) _).setCell (by simp; omega) _).setCell (by simp; omega) _
  · have hs1 : (s == s') = false := by simpa using hs
    have hs2 : (s != s') = true := by simpa using hs
    clear hno ha hb hs
    go_enter Try.func18, Try.ntmps18
    go_wp2_with fail
    refine (CA.out _ ((H.out.below B3.out).more B3.out.size)).mono ?_
    rintro e w1 ⟨rfl, hb1⟩
    have b1 := B3.out.trans (hb1.mono B3.out.size)
    have KA := Lib.hid (HA.out.below hb1 HA.out.lt)
    have KB := Lib.hid (HB.out.below hb1 HB.out.lt)
    have KZ := Lib.hid (HZ.out.below hb1 HZ.out.lt)
    clear hb1
    obtain ⟨y0, y1, y2⟩ := KB.out.c3
    go_wp2_with fail
    refine (CB.out _ ((H'.out.below b1).more b1.size)).mono ?_
    rintro e w2 ⟨rfl, hb2⟩
    have b2 := b1.trans (hb2.mono b1.size)
    have KA2 := Lib.hid (KA.out.below hb2 KA.out.lt)
    have KB2 := Lib.hid (KB.out.below hb2 KB.out.lt)
    have KZ2 := Lib.hid (KZ.out.below hb2 KZ.out.lt)
    clear hb2 y0 y1 y2 KA KB KZ
    obtain ⟨x0, x1, x2⟩ := KA2.out.c3
    obtain ⟨y0, y1, y2⟩ := KB2.out.c3
    obtain ⟨q0, q1, q2⟩ := KZ2.out.c3
    have f0 := KZ2.out.frozen 0
    have f1 := KZ2.out.frozen 1
    have f2 := KZ2.out.frozen 2
    go_wp2_with fail
    obtain ⟨r0, r1, r2⟩ := (cyl_set (a := .int .i64 0) (b := .int .i64 0) (c := .slice none 0 0) KZ2.out).c3
    refine bodyPost_ret (v := .tuple #[.agg #[.int .i64 0, .int .i64 0, .slice none 0 0], .bool false]) (by simp [results, Try.results18, go_sem, r0, r1, r2]) rfl (madeCO_no ?_)
    exact ((b2.setCell (by simp; omega) _).setCell (by simp; omega) _).setCell (by simp; omega) _

set_option maxHeartbeats 1000000 in
theorem sMerge_no (s t : Int) (A : Option Addr) (n c : Nat) (xs : List (Int × Int)) (s' t' : Int) (A' : Option Addr) (n' c' : Nat) (ys : List (Int × Int)) (w : World) (h : Rd w w.heap.size 2 A n (pc xs)) (h' : Rd w w.heap.size 2 A' n' (pc ys)) (hn : n ≤ 1048576) (hn' : n' ≤ 1048576) (hno : ¬ (cylB s t xs = true ∧ cylB s' t' ys = true ∧ s = s' ∧ t = t')) :
    Calls Try.prog 17 #[.agg #[.int .i64 s, .int .i64 t, .slice A n c], .agg #[.int .i64 s', .int .i64 t', .slice A' n' c']] w (MadeCO w none) := by
  have H := Lib.hid h
  have H' := Lib.hid h'
  have B3 := Lib.hid (three_below w (.cells #[.int .i64 s, .int .i64 t, .slice A n c] 28) (.cells #[.int .i64 s', .int .i64 t', .slice A' n' c'] 28) (.cells #[.int .i64 0, .int .i64 0, .slice none 0 0] 28))
  have HA := Lib.hid (blk3_1 w 28 #[.int .i64 s, .int .i64 t, .slice A n c] (.cells #[.int .i64 s', .int .i64 t', .slice A' n' c'] 28) (.cells #[.int .i64 0, .int .i64 0, .slice none 0 0] 28))
  have HB := Lib.hid (blk3_2 w (.cells #[.int .i64 s, .int .i64 t, .slice A n c] 28) 28 #[.int .i64 s', .int .i64 t', .slice A' n' c'] (.cells #[.int .i64 0, .int .i64 0, .slice none 0 0] 28))
  have HZ := Lib.hid (blk3_3 w (.cells #[.int .i64 s, .int .i64 t, .slice A n c] 28) (.cells #[.int .i64 s', .int .i64 t', .slice A' n' c'] 28) 28 #[.int .i64 0, .int .i64 0, .slice none 0 0])
  clear h h'
  have CA := Lib.hid (fun w h => sCylOk s t A n c xs w h hn)
  have CB := Lib.hid (fun w h => sCylOk s' t' A' n' c' ys w h hn')
  cases ha : cylB s t xs
  · rw [ha] at CA
    clear hno ha
    go_enter Try.func17, Try.ntmps17
    go_wp2_with fail
    refine (CA.out _ ((H.out.below B3.out).more B3.out.size)).mono ?_
    rintro e w1 ⟨rfl, hb1⟩
    have b1 := B3.out.trans (hb1.mono B3.out.size)
    have KA := Lib.hid (HA.out.below hb1 HA.out.lt)
    have KB := Lib.hid (HB.out.below hb1 HB.out.lt)
    have KZ := Lib.hid (HZ.out.below hb1 HZ.out.lt)
    clear hb1
    obtain ⟨q0, q1, q2⟩ := KZ.out.c3
    have f0 := KZ.out.frozen 0
    have f1 := KZ.out.frozen 1
    have f2 := KZ.out.frozen 2
    go_wp2_with fail
    obtain ⟨r0, r1, r2⟩ := (cyl_set (a := .int .i64 0) (b := .int .i64 0) (c := .slice none 0 0) KZ.out).c3
    refine bodyPost_ret (v := .tuple #[.agg #[.int .i64 0, .int .i64 0, .slice none 0 0], .bool false]) (by simp [results, Try.results17, go_sem, r0, r1, r2]) rfl (madeCO_no ?_)
    exact ((b1.setCell (by simp; omega) _).setCell (by simp; omega) _).setCell (by simp; omega) _
  rw [ha] at CA
  cases hb : cylB s' t' ys
  case false =>
    rw [hb] at CB
    clear hno ha hb
    go_enter Try.func17, Try.ntmps17
    go_wp2_with fail
    refine (CA.out _ ((H.out.below B3.out).more B3.out.size)).mono ?_
    rintro e w1 ⟨rfl, hb1⟩
    have b1 := B3.out.trans (hb1.mono B3.out.size)
    have KA := Lib.hid (HA.out.below hb1 HA.out.lt)
    have KB := Lib.hid (HB.out.below hb1 HB.out.lt)
    have KZ := Lib.hid (HZ.out.below hb1 HZ.out.lt)
    clear hb1
    obtain ⟨y0, y1, y2⟩ := KB.out.c3
    go_wp2_with fail
    refine (CB.out _ ((H'.out.below b1).more b1.size)).mono ?_
    rintro e w2 ⟨rfl, hb2⟩
    have b2 := b1.trans (hb2.mono b1.size)
    have KA2 := Lib.hid (KA.out.below hb2 KA.out.lt)
    have KB2 := Lib.hid (KB.out.below hb2 KB.out.lt)
    have KZ2 := Lib.hid (KZ.out.below hb2 KZ.out.lt)
    clear hb2 y0 y1 y2 KA KB KZ
    obtain ⟨q0, q1, q2⟩ := KZ2.out.c3
    have f0 := KZ2.out.frozen 0
    have f1 := KZ2.out.frozen 1
    have f2 := KZ2.out.frozen 2
    go_wp2_with fail
    obtain ⟨r0, r1, r2⟩ := (cyl_set (a := .int .i64 0) (b := .int .i64 0) (c := .slice none 0 0) KZ2.out).c3
    refine bodyPost_ret (v := .tuple #[.agg #[.int .i64 0, .int .i64 0, .slice none 0 0], .bool false]) (by simp [results, Try.results17, go_sem, r0, r1, r2]) rfl (madeCO_no ?_)
    exact ((b2.setCell (by simp; omega) _).setCell (by simp; omega) _).setCell (by simp; omega) _
  rw [hb] at CB
  by_cases hs : s = s'
  · subst hs
    have ht : ¬ t = t' := fun e => hno ⟨ha, hb, rfl, e⟩
    have ht1 : (t == t') = false := by simpa using ht
    have ht2 : (t != t') = true := by simpa using ht
    clear hno ha hb ht
    go_enter Try.func17, Try.ntmps17
    go_wp2_with fail
    refine (CA.out _ ((H.out.below B3.out).more B3.out.size)).mono ?_
    rintro e w1 ⟨rfl, hb1⟩
    have b1 := B3.out.trans (hb1.mono B3.out.size)
    have KA := Lib.hid (HA.out.below hb1 HA.out.lt)
    have KB := Lib.hid (HB.out.below hb1 HB.out.lt)
    have KZ := Lib.hid (HZ.out.below hb1 HZ.out.lt)
    clear hb1
    obtain ⟨y0, y1, y2⟩ := KB.out.c3
    go_wp2_with fail
    refine (CB.out _ ((H'.out.below b1).more b1.size)).mono ?_
    rintro e w2 ⟨rfl, hb2⟩
    have b2 := b1.trans (hb2.mono b1.size)
    have KA2 := Lib.hid (KA.out.below hb2 KA.out.lt)
    have KB2 := Lib.hid (KB.out.below hb2 KB.out.lt)
    have KZ2 := Lib.hid (KZ.out.below hb2 KZ.out.lt)
    clear hb2 y0 y1 y2 KA KB KZ
    obtain ⟨x0, x1, x2⟩ := KA2.out.c3
    obtain ⟨y0, y1, y2⟩ := KB2.out.c3
    obtain ⟨q0, q1, q2⟩ := KZ2.out.c3
    have f0 := KZ2.out.frozen 0
    have f1 := KZ2.out.frozen 1
    have f2 := KZ2.out.frozen 2
    go_wp2_with fail
    obtain ⟨r0, r1, r2⟩ := (cyl_set (a := .int .i64 0) (b := .int .i64 0) (c := .slice none 0 0) KZ2.out).c3
    refine bodyPost_ret (v := .tuple #[.agg #[.int .i64 0, .int .i64 0, .slice none 0 0], .bool false]) (by simp [results, Try.results17, go_sem, r0, r1, r2]) rfl (madeCO_no ?_)
    exact ((b2.setCell (by simp; omega) _).setCell (by simp; omega) _).setCell (by simp; omega) _
  · have hs1 : (s == s') = false := by simpa using hs
    have hs2 : (s != s') = true := by simpa using hs
    clear hno ha hb hs
    go_enter Try.func17, Try.ntmps17
    go_wp2_with fail
    refine (CA.out _ ((H.out.below B3.out).more B3.out.size)).mono ?_
    rintro e w1 ⟨rfl, hb1⟩
    have b1 := B3.out.trans (hb1.mono B3.out.size)
    have KA := Lib.hid (HA.out.below hb1 HA.out.lt)
    have KB := Lib.hid (HB.out.below hb1 HB.out.lt)
    have KZ := Lib.hid (HZ.out.below hb1 HZ.out.lt)
    clear hb1
    obtain ⟨y0, y1, y2⟩ := KB.out.c3
    go_wp2_with fail
    refine (CB.out _ ((H'.out.below b1).more b1.size)).mono ?_
    rintro e w2 ⟨rfl, hb2⟩
    have b2 := b1.trans (hb2.mono b1.size)
    have KA2 := Lib.hid (KA.out.below hb2 KA.out.lt)
    have KB2 := Lib.hid (KB.out.below hb2 KB.out.lt)
    have KZ2 := Lib.hid (KZ.out.below hb2 KZ.out.lt)
    clear hb2 y0 y1 y2 KA KB KZ
    obtain ⟨x0, x1, x2⟩ := KA2.out.c3
    obtain ⟨y0, y1, y2⟩ := KB2.out.c3
    obtain ⟨q0, q1, q2⟩ := KZ2.out.c3
    have f0 := KZ2.out.frozen 0
    have f1 := KZ2.out.frozen 1
    have f2 := KZ2.out.frozen 2
    go_wp2_with fail
    obtain ⟨r0, r1, r2⟩ := (cyl_set (a := .int .i64 0) (b := .int .i64 0) (c := .slice none 0 0) KZ2.out).c3
    refine bodyPost_ret (v := .tuple #[.agg #[.int .i64 0, .int .i64 0, .slice none 0 0], .bool false]) (by simp [results, Try.results17, go_sem, r0, r1, r2]) rfl (madeCO_no ?_)
    exact ((b2.setCell (by simp; omega) _).setCell (by simp; omega) _).setCell (by simp; omega) _

end Go.Proofs.Ytjklobhnidbinaa
