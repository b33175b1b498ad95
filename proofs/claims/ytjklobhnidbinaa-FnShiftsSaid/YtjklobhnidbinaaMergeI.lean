/-
  Merge of impl of two valid cylinders of one size.
-/
import Derived.Test.YtjklobhnidbinaaMergeNo
import Derived.Test.YtjklobhnidbinaaSortPin
namespace Go.Proofs.Ytjklobhnidbinaa
open Go.RowKit

/-- what Merge knows while it makes the merged row: the boxes of its arguments and of its result, the second list of pins -/
def MQ (w u : World) (a b z : Array Value) (A' : Option Addr) (n' : Nat) (ys : List (Int × Int)) : Prop :=
  Blk u w.heap.size 28 a ∧ Blk u (w.heap.size + 1) 28 b ∧ Blk u (w.heap.size + 1 + 1) 28 z ∧ Rd u w.heap.size 2 A' n' (pc ys) ∧ Below w.heap.size w u
section
variable {w u u' : World} {a b z : Array Value} {A' : Option Addr} {n' : Nat} {ys : List (Int × Int)}
theorem MQ.step (h : MQ w u a b z A' n' ys) (hb : Below u.heap.size u u') : MQ w u' a b z A' n' ys :=
  ⟨h.1.below hb h.1.lt, h.2.1.below hb h.2.1.lt, h.2.2.1.below hb h.2.2.1.lt, h.2.2.2.1.below (hb.mono h.2.2.2.2.size), h.2.2.2.2.trans (hb.mono h.2.2.2.2.size)⟩
theorem MQ.alloc (h : MQ w u a b z A' n' ys) (o : Obj) : MQ w (u.alloc o) a b z A' n' ys :=
  h.step ((Below.refl _ _).alloc (Nat.le_refl _) _)
theorem MQ.drew (h : MQ w u a b z A' n' ys) : MQ w u.drew a b z A' n' ys := ⟨h.1, h.2.1, h.2.2.1, h.2.2.2.1, h.2.2.2.2.drew⟩
theorem MQ.grown {g : Nat} (h : MQ w u a b z A' n' ys) (hg : u.grownBy u' (some g)) (hw : w.heap.size + 1 + 1 < g) : MQ w u' a b z A' n' ys :=
  ⟨h.1.grown hg (by simp; omega), h.2.1.grown hg (by simp; omega), h.2.2.1.grown hg (by simp; omega), h.2.2.2.1.keep fun p hp => World.cell?_of_block (hg.block p.block (by have := h.2.2.2.2.size; omega) (fun e => by injection e with e; omega)), h.2.2.2.2.grown hg h.2.2.2.2.size fun k hk => by injection hk with hk; omega⟩
theorem MQ.set_ {g i : Nat} (h : MQ w u a b z A' n' ys) (hw : w.heap.size + 1 + 1 < g) (v : Value) : MQ w (u.setCell ⟨g, i, none⟩ v) a b z A' n' ys :=
  h.grown (g := g) ⟨rfl, rfl, rfl, by simp [World.setCell], fun k _ hk => Below.heap_setCell _ _ _ _ (fun e => hk (by rw [e]))⟩ hw
end
theorem MQ.set3 {w u : World} {a b z cs : Array Value} {A' : Option Addr} {n' g : Nat} {ys : List (Int × Int)} {t : TypeId} (h : MQ w u a b z A' n' ys) (_k : Blk u g t cs) (hw : w.heap.size + 1 + 1 < g) (x y v : Value) : MQ w (((u.setCell ⟨g, 0, none⟩ x).setCell ⟨g, 1, none⟩ y).setCell ⟨g, 2, none⟩ v) a b z A' n' ys := ((h.set_ hw x).set_ hw y).set_ hw v
theorem own_set3 {w : World} {base size n g : Nat} {v : Value} {xs : List Value} {e t : TypeId} {cs : Array Value} (h : w.ownsRow base e size v n xs) (_k : Blk w g t cs) (hg : g < base) (x y u : Value) : (((w.setCell ⟨g, 0, none⟩ x).setCell ⟨g, 1, none⟩ y).setCell ⟨g, 2, none⟩ u).ownsRow base e size v n xs := own_low (own_low (own_low h (p := ⟨g, 0, none⟩) hg x) (p := ⟨g, 1, none⟩) hg y) (p := ⟨g, 2, none⟩) hg u
theorem MQ.cells {w u : World} {s t s' t' : Int} {A A' : Option Addr} {n n' c c' : Nat} {z : Array Value} {ys : List (Int × Int)} (h : MQ w u #[.int .i64 s, .int .i64 t, .slice A n c] #[.int .i64 s', .int .i64 t', .slice A' n' c'] z A' n' ys) :
    u.cell? ⟨w.heap.size, 0, none⟩ = some (.int .i64 s) ∧ u.cell? ⟨w.heap.size, 1, none⟩ = some (.int .i64 t) ∧ u.cell? ⟨w.heap.size, 2, none⟩ = some (.slice A n c) ∧ u.cell? ⟨w.heap.size + 1, 2, none⟩ = some (.slice A' n' c') :=
  ⟨h.1.c3.1, h.1.c3.2.1, h.1.c3.2.2, h.2.1.c3.2.2⟩

set_option maxHeartbeats 2000000 in
theorem iMerge_yes (s t : Int) (A : Option Addr) (n c : Nat) (xs : List (Int × Int)) (A' : Option Addr) (n' c' : Nat) (ys : List (Int × Int)) (w : World) (h : Rd w w.heap.size 2 A n (pc xs)) (h' : Rd w w.heap.size 2 A' n' (pc ys)) (hn : n ≤ 1048576) (hn' : n' ≤ 1048576) (ha : cylB s t xs = true) (hb : cylB s t ys = true) :
    Calls Try.prog 18 #[.agg #[.int .i64 s, .int .i64 t, .slice A n c], .agg #[.int .i64 s, .int .i64 t, .slice A' n' c']] w (MadeCO w (mergeC s t xs s t ys)) := by
  have hl := h.pair
  have hl' := h'.pair
  have h100 := cyl_len ha
  have h100' := cyl_len hb
  have H := Lib.hid h
  have H' := Lib.hid h'
  have B3 := Lib.hid (three_below w (.cells #[.int .i64 s, .int .i64 t, .slice A n c] 28) (.cells #[.int .i64 s, .int .i64 t, .slice A' n' c'] 28) (.cells #[.int .i64 0, .int .i64 0, .slice none 0 0] 28))
  have HA := Lib.hid (blk3_1 w 28 #[.int .i64 s, .int .i64 t, .slice A n c] (.cells #[.int .i64 s, .int .i64 t, .slice A' n' c'] 28) (.cells #[.int .i64 0, .int .i64 0, .slice none 0 0] 28))
  have HB := Lib.hid (blk3_2 w (.cells #[.int .i64 s, .int .i64 t, .slice A n c] 28) 28 #[.int .i64 s, .int .i64 t, .slice A' n' c'] (.cells #[.int .i64 0, .int .i64 0, .slice none 0 0] 28))
  have HZ := Lib.hid (blk3_3 w (.cells #[.int .i64 s, .int .i64 t, .slice A n c] 28) (.cells #[.int .i64 s, .int .i64 t, .slice A' n' c'] 28) 28 #[.int .i64 0, .int .i64 0, .slice none 0 0])
  clear h h'
  have CA := Lib.hid (fun w h => iCylOk s t A n c xs w h hn)
  have CB := Lib.hid (fun w h => iCylOk s t A' n' c' ys w h hn')
  rw [ha] at CA
  rw [hb] at CB
  have CC := Lib.hid (fun A n c xs w h hn => iCylOk s t A n c xs w h hn)
  have MS := Lib.hid (fun (m : List (Int × Int)) hp hs => mergeC_sorted (m := m) ha hb hp hs)
  have CP := Lib.hid (fun w h => iCopyPins A n c xs w h hn)
  have LX := Lib.hid hl
  have LY := Lib.hid hl'
  have hni : (n : Int) ≤ 100 := by omega
  have hni' : (n' : Int) ≤ 100 := by omega
  have hxi : (xs.length : Int) ≤ 100 := by omega
  clear ha hb hl hl' h100 h100'
  go_enter Try.func18, Try.ntmps18
  go_wp2_with fail
  refine (CA.out _ ((H.out.below B3.out).more B3.out.size)).mono ?_
  rintro e w1 ⟨rfl, hb1⟩
  have b1 := B3.out.trans (hb1.mono B3.out.size)
  have KA := Lib.hid (HA.out.below hb1 HA.out.lt)
  have KB := Lib.hid (HB.out.below hb1 HB.out.lt)
  have KZ := Lib.hid (HZ.out.below hb1 HZ.out.lt)
  clear hb1
  obtain ⟨y0, y1, y2⟩ := KB.out.c3
  go_wp2_with fail
  refine (CB.out _ ((H'.out.below b1).more b1.size)).mono ?_
  rintro e w2 ⟨rfl, hb2⟩
  have b2 := b1.trans (hb2.mono b1.size)
  have KA2 := Lib.hid (KA.out.below hb2 KA.out.lt)
  have KB2 := Lib.hid (KB.out.below hb2 KB.out.lt)
  have KZ2 := Lib.hid (KZ.out.below hb2 KZ.out.lt)
  clear hb2 y0 y1 y2 KA KB KZ
  obtain ⟨x0, x1, x2⟩ := KA2.out.c3
  obtain ⟨y0, y1, y2⟩ := KB2.out.c3
  have z2 : w.heap.size + 3 ≤ w2.heap.size := by have := KZ2.out.lt; omega
  have HX2 := Lib.hid ((H.out.below b2).more b2.size)
  have HY2 := Lib.hid ((H'.out.below b2).more b2.size)
  have hss : (s != s) = false := by simp
  have htt : (t != t) = false := by simp
  go_wp2_with fail
  clear hss htt x0 x1 x2 y0 y1 y2
  have Q2 : MQ w w2 #[.int .i64 s, .int .i64 t, .slice A n c] #[.int .i64 s, .int .i64 t, .slice A' n' c'] #[.int .i64 0, .int .i64 0, .slice none 0 0] A' n' ys := ⟨KA2.out, KB2.out, KZ2.out, H'.out.below b2, b2⟩
  have HQ2 := Lib.hid Q2
  have HXA := Lib.hid ((H.out.below (b2.alloc b2.size (.cells #[.int .i64 0, .int .i64 0, .slice none 0 0] 28))).more (b2.alloc b2.size (.cells #[.int .i64 0, .int .i64 0, .slice none 0 0] 28)).size)
  have q2c := Q2.cells
  have q2a := (Q2.alloc (.cells #[.int .i64 0, .int .i64 0, .slice none 0 0] 28)).cells
  have K62 := Lib.hid (Blk.new w2 28 #[.int .i64 0, .int .i64 0, .slice none 0 0])
  have CS := Lib.hid (fun A n c xs w h hn => iSortedPins A n c xs w h hn)
  have z2' : w.heap.size + 1 + 1 < w2.heap.size := by omega
  clear KA2 KB2 KZ2 Q2 H H' B3 HA HB HZ b1 b2
  go_region_held3 (fun w' => w'.cell? ⟨w.heap.size, 0, none⟩ = some (.int .i64 s) ∧ w'.cell? ⟨w.heap.size, 1, none⟩ = some (.int .i64 t) ∧ w'.cell? ⟨w.heap.size, 2, none⟩ = some (.slice A n c) ∧ w'.cell? ⟨w.heap.size + 1, 2, none⟩ = some (.slice A' n' c')) (first | exact q2c | exact q2a | exact q3c | exact q3a | exact q4c | exact q4a | exact q5c | exact q5a | exact q6c | exact q7c) (first
    | (go_at_call 40; (first | (refine (CP.out w2.drew HX2.out.drew).mono ?_; rintro e w3 ⟨g3, c3, rfl, o3, hb3⟩; have Q3 := HQ2.out.drew.step hb3; have z3 : w2.heap.size ≤ g3 := (o3.lt g3 rfl).1; have o3 : w3.ownsRow w2.heap.size 50 2 (.slice (some ⟨g3, 0, none⟩) xs.length c3) xs.length (pc xs) := o3) | (refine (CP.out (w2.alloc (.cells #[.int .i64 0, .int .i64 0, .slice none 0 0] 28)).drew HXA.out.drew).mono ?_; rintro e w3 ⟨g3, c3, rfl, o3, hb3⟩; have Q3 := (HQ2.out.alloc (.cells #[.int .i64 0, .int .i64 0, .slice none 0 0] 28)).drew.step hb3; have K6 := Blk.below (B := (w2.alloc (.cells #[.int .i64 0, .int .i64 0, .slice none 0 0] 28)).drew.heap.size) (K62.out.drewN 1) hb3 K62.out.lt; have N6 : w2.heap.size ≠ g3 := (fun e => by have := (o3.lt g3 rfl).1; simp at this; omega); have z3 : w2.heap.size ≤ g3 := (by have := (o3.lt g3 rfl).1; simp at this; omega); have o3 : w3.ownsRow w2.heap.size 50 2 (.slice (some ⟨g3, 0, none⟩) xs.length c3) xs.length (pc xs) := own_base o3 (by simp))); have y3 := (o3.lt g3 rfl).2; have q3c := Q3.cells; have q3a := (Q3.alloc (.cells #[.int .i64 0, .int .i64 0, .slice none 0 0] 28)).cells; have HQ3 := Lib.hid Q3)
    | ((first | (refine step_app_any (w := w3) (by rfl) (.tmp 36) (.tmp 38) (by rfl) w2.heap.size g3 _ c3 w.heap.size xs ys A' n' c' (by rfl) o3 (by rfl) HQ3.out.2.2.2.1 (by omega) (by omega) ?_; intro g4 c4 w4 o4 hg4; have Q4 := HQ3.out.grown hg4 (by omega); have y4 := hg4.size; (first | (have K6b := Blk.grown K6 hg4 (fun e => N6 (by injection e))) | skip)) | (refine step_app_any (w := w3.alloc (.cells #[.int .i64 0, .int .i64 0, .slice none 0 0] 28)) (by rfl) (.tmp 36) (.tmp 38) (by rfl) w2.heap.size g3 _ c3 w.heap.size xs ys A' n' c' (by rfl) (o3.alloc _) (by rfl) (HQ3.out.alloc (.cells #[.int .i64 0, .int .i64 0, .slice none 0 0] 28)).2.2.2.1 (by omega) (by simp; omega) ?_; intro g4 c4 w4 o4 hg4; have Q4 := (HQ3.out.alloc (.cells #[.int .i64 0, .int .i64 0, .slice none 0 0] 28)).grown hg4 (by omega); have y4 : w3.heap.size ≤ w4.heap.size := (by have := hg4.size; simp at this; omega); have K6b := Blk.grown (Blk.new w3 28 #[.int .i64 0, .int .i64 0, .slice none 0 0]) hg4 (fun e => by injection e with e; omega))); have q4c := Q4.cells; have q4a := (Q4.alloc (.cells #[.int .i64 0, .int .i64 0, .slice none 0 0] 28)).cells)
    | (go_at_call 39; (first | (refine (CS.out _ _ _ _ w4 (Rd.of_own o4) (by omega)).mono ?_; rintro e w5 ⟨l, hp, hs, g5, c5, rfl, o5, hb5⟩; have Q5 := Q4.step hb5; have y5 := hb5.size; (first | (have K6c := Blk.below K6b hb5 (Blk.lt K6b); have o5F := own_set3 o5 K6c (Blk.lt K6b) (.int .i64 s) (.int .i64 t) (.slice (some ⟨g5, 0, none⟩) l.length c5); have QF := MQ.set3 Q5 K6c (by omega) (.int .i64 s) (.int .i64 t) (.slice (some ⟨g5, 0, none⟩) l.length c5); have q6c := QF.cells; have k60 := K6c.c3.1; have k61 := K6c.c3.2.1; have k62 := K6c.c3.2.2; have f60 := K6c.frozen 0; have f61 := K6c.frozen 1; have f62 := K6c.frozen 2) | skip)) | (refine (CS.out _ _ _ _ (w4.alloc (.cells #[.int .i64 0, .int .i64 0, .slice none 0 0] 28)) (Rd.of_own (o4.alloc _)) (by omega)).mono ?_; rintro e w5 ⟨l, hp, hs, g5, c5, rfl, o5, hb5⟩; have Q5 := (Q4.alloc (.cells #[.int .i64 0, .int .i64 0, .slice none 0 0] 28)).step hb5; have y5 : w4.heap.size ≤ w5.heap.size := (by have := hb5.size; simp at this; omega); have K6c := Blk.below (Blk.new w4 28 #[.int .i64 0, .int .i64 0, .slice none 0 0]) hb5 (Blk.lt (Blk.new w4 28 #[.int .i64 0, .int .i64 0, .slice none 0 0])); have o5F := own_set3 o5 K6c (by simp) (.int .i64 s) (.int .i64 t) (.slice (some ⟨g5, 0, none⟩) l.length c5); have QF := MQ.set3 Q5 K6c (by omega) (.int .i64 s) (.int .i64 t) (.slice (some ⟨g5, 0, none⟩) l.length c5); have q6c := QF.cells; have k60 := K6c.c3.1; have k61 := K6c.c3.2.1; have k62 := K6c.c3.2.2; have f60 := K6c.frozen 0; have f61 := K6c.frozen 1; have f62 := K6c.frozen 2)); have q5c := Q5.cells; have q5a := (Q5.alloc (.cells #[.int .i64 0, .int .i64 0, .slice none 0 0] 28)).cells; have q7c := (Q5.alloc (.cells #[.int .i64 s, .int .i64 t, .slice (some ⟨g5, 0, none⟩) l.length c5] 28)).cells))
  all_goals (first | (have K6F := cyl_set (a := .int .i64 s) (b := .int .i64 t) (c := (.slice (some ⟨g5, 0, none⟩) l.length c5)) K6c) | (have K6F := Blk.new w5 28 #[.int .i64 s, .int .i64 t, (.slice (some ⟨g5, 0, none⟩) l.length c5)]; have o5F := o5.alloc (.cells #[.int .i64 s, .int .i64 t, (.slice (some ⟨g5, 0, none⟩) l.length c5)] 28); have QF := Q5.alloc (.cells #[.int .i64 s, .int .i64 t, (.slice (some ⟨g5, 0, none⟩) l.length c5)] 28)))
  all_goals
    have hll : l.length = xs.length + ys.length := by rw [hp.length_eq, List.length_append]
    have hl2 : l.length ≤ 1048576 := by have := LX.out; have := LY.out; omega
    obtain ⟨vb, hvb⟩ : ∃ vb, vb = cylB s t l := ⟨_, rfl⟩
    have CE := Lib.hid (fun w h => CC.out (some ⟨g5, 0, none⟩) l.length c5 l w h hl2)
    rw [← hvb] at CE
    have HVB := Lib.hid hvb
    have HM := Lib.hid (MS.out l hp hs)
    have HK6F := Lib.hid K6F
    have HO5F := Lib.hid (own_base o5F (show w2.heap.size ≤ _ by first | omega | (simp; omega)))
    have HQF := Lib.hid QF
    obtain ⟨e0, e1, e2⟩ := K6F.c3
    clear hvb hll hl2 hp hs K6F o5F QF q2c q2a q3c q3a q4c q4a q5c q5a q7c Q3 Q4 Q5 o3 o4 o5 hb5 hg4 MS CC CP CS
    (try clear q6c k60 k61 k62 f60 f61 f62 K6c)
    (try clear K6b)
    (try clear K6)
    go_wp2_with fail
    refine (CE.out _ (Rd.of_own HO5F.out)).mono ?_
    rintro e w6 ⟨rfl, hb6⟩
    have O6 := Lib.hid (own_below HO5F.out hb6)
    have Q6 := HQF.out.step hb6
    have D6 := HK6F.out.below hb6 HK6F.out.lt
    have R6 := Lib.hid Q6.2.2.1
    have B6 := Lib.hid Q6.2.2.2.2
    obtain ⟨r0, r1, r2⟩ := R6.out.c3
    have f0 := R6.out.frozen 0
    have f1 := R6.out.frozen 1
    have f2 := R6.out.frozen 2
    obtain ⟨d0, d1, d2⟩ := D6.c3
    clear e0 e1 e2 hb6 Q6 D6
    cases vb
    · go_wp2
      obtain ⟨r0, r1, r2⟩ := (cyl_set (a := .int .i64 0) (b := .int .i64 0) (c := .slice none 0 0) R6.out).c3
      refine bodyPost_ret (v := .tuple #[.agg #[.int .i64 0, .int .i64 0, .slice none 0 0], .bool false]) (by simp [results, Try.results18, go_sem, r0, r1, r2]) rfl ?_
      rw [HM.out, endM_no HVB.out]
      refine madeCO_no ?_
      exact ((B6.out.setCell (by simp; omega) _).setCell (by simp; omega) _).setCell (by simp; omega) _
    · go_wp2
      obtain ⟨r0, r1, r2⟩ := (cyl_set (a := .int .i64 s) (b := .int .i64 t) (c := .slice (some ⟨g5, 0, none⟩) l.length c5) R6.out).c3
      refine bodyPost_ret (v := .tuple #[.agg #[.int .i64 s, .int .i64 t, .slice (some ⟨g5, 0, none⟩) l.length c5], .bool true]) (by simp [results, Try.results18, go_sem, r0, r1, r2]) rfl ?_
      rw [HM.out, endM_yes HVB.out]
      refine madeCO_yes (own_base (own_low (own_low (own_low O6.out (by simp; omega) _) (by simp; omega) _) (by simp; omega) _) (by omega)) ?_
      exact ((B6.out.setCell (by simp; omega) _).setCell (by simp; omega) _).setCell (by simp; omega) _

end Go.Proofs.Ytjklobhnidbinaa
