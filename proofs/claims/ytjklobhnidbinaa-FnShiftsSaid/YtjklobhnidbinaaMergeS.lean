/-
  Merge of spec of two valid cylinders of one size.
-/
import Derived.Test.YtjklobhnidbinaaMergeNo
import Derived.Test.YtjklobhnidbinaaPut
import Derived.Test.YtjklobhnidbinaaCopyCyl
namespace Go.Proofs.Ytjklobhnidbinaa
open Go.RowKit

/-- the shape of a row of one's own -/
theorem own_shape2 {w : World} {base size n c : Nat} {A : Option Addr} {xs : List Value} {e : TypeId} (h : w.ownsRow base e size (.slice A n c) n xs) : (A = none ∧ c = 0) ∨ ∃ b o, A = some ⟨b, o, none⟩ := by
  rcases h.2 with ⟨e, _⟩ | ⟨g, cap, cur, e, _⟩
  · injection e with e1 e2 e3
    exact Or.inl ⟨e1, e3⟩
  · injection e with e1 e2 e3
    exact Or.inr ⟨g, 0, e1⟩
theorem mergeTo_yes {a b l : List (Int × Int)} {k : Nat} {x : Int × Int} (h : mergeTo a b k = some l) (hx : b[k]? = some x) (hh : hasQ l x = false) : mergeTo a b (k + 1) = some (insQ l x) := by
  unfold mergeTo insQ
  rw [h, hx]
  simp [hh]
theorem mergeTo_no {a b l : List (Int × Int)} {k : Nat} {x : Int × Int} (h : mergeTo a b k = some l) (hx : b[k]? = some x) (hh : hasQ l x = true) : mergeTo a b (k + 1) = none := by
  unfold mergeTo
  rw [h, hx]
  simp [hh]

set_option maxHeartbeats 2000000 in
theorem sMerge_yes (s t : Int) (A : Option Addr) (n c : Nat) (xs : List (Int × Int)) (A' : Option Addr) (n' c' : Nat) (ys : List (Int × Int)) (w : World) (h : Rd w w.heap.size 2 A n (pc xs)) (h' : Rd w w.heap.size 2 A' n' (pc ys)) (hn : n ≤ 1048576) (hn' : n' ≤ 1048576) (ha : cylB s t xs = true) (hb : cylB s t ys = true) :
    Calls Try.prog 17 #[.agg #[.int .i64 s, .int .i64 t, .slice A n c], .agg #[.int .i64 s, .int .i64 t, .slice A' n' c']] w (MadeCO w (mergeC s t xs s t ys)) := by
  have hl := h.pair
  have hl' := h'.pair
  have h100 := cyl_len ha
  have h100' := cyl_len hb
  have H := Lib.hid h
  have H' := Lib.hid h'
  have B3 := Lib.hid (three_below w (.cells #[.int .i64 s, .int .i64 t, .slice A n c] 28) (.cells #[.int .i64 s, .int .i64 t, .slice A' n' c'] 28) (.cells #[.int .i64 0, .int .i64 0, .slice none 0 0] 28))
  have HA := Lib.hid (blk3_1 w 28 #[.int .i64 s, .int .i64 t, .slice A n c] (.cells #[.int .i64 s, .int .i64 t, .slice A' n' c'] 28) (.cells #[.int .i64 0, .int .i64 0, .slice none 0 0] 28))
  have HB := Lib.hid (blk3_2 w (.cells #[.int .i64 s, .int .i64 t, .slice A n c] 28) 28 #[.int .i64 s, .int .i64 t, .slice A' n' c'] (.cells #[.int .i64 0, .int .i64 0, .slice none 0 0] 28))
  have HZ := Lib.hid (blk3_3 w (.cells #[.int .i64 s, .int .i64 t, .slice A n c] 28) (.cells #[.int .i64 s, .int .i64 t, .slice A' n' c'] 28) 28 #[.int .i64 0, .int .i64 0, .slice none 0 0])
  clear h h'
  have CA := Lib.hid (fun w h => sCylOk s t A n c xs w h hn)
  have CB := Lib.hid (fun w h => sCylOk s t A' n' c' ys w h hn')
  rw [ha] at CA
  rw [hb] at CB
  have CC := Lib.hid (fun A n c xs w h hn => sCylOk s t A n c xs w h hn)
  have ME := Lib.hid (fun (m : List (Int × Int)) hm => mergeC_end (m := m) ha hb hm)
  have MX := Lib.hid (fun k (hk : k ≤ ys.length) hm => mergeC_stop (s := s) (t := t) (a := xs) hk hm)
  have HASC := Lib.hid ((cyl_iff.1 ha).2.2.2.2)
  have CP := Lib.hid (fun w h => sCopyCyl s t A n c xs w h hn)
  have LX := Lib.hid hl
  have LY := Lib.hid hl'
  have hni : (n : Int) ≤ 100 := by omega
  have hni' : (n' : Int) ≤ 100 := by omega
  have hxi : (xs.length : Int) ≤ 100 := by omega
  clear ha hb hl hl' h100 h100'
  go_enter Try.func17, Try.ntmps17
  go_wp2_with fail
  refine (CA.out _ ((H.out.below B3.out).more B3.out.size)).mono ?_
  rintro e w1 ⟨rfl, hb1⟩
  have b1 := B3.out.trans (hb1.mono B3.out.size)
  have KA := Lib.hid (HA.out.below hb1 HA.out.lt)
  have KB := Lib.hid (HB.out.below hb1 HB.out.lt)
  have KZ := Lib.hid (HZ.out.below hb1 HZ.out.lt)
  clear hb1
  obtain ⟨y0, y1, y2⟩ := KB.out.c3
  go_wp2_with fail
  refine (CB.out _ ((H'.out.below b1).more b1.size)).mono ?_
  rintro e w2 ⟨rfl, hb2⟩
  have b2 := b1.trans (hb2.mono b1.size)
  have KA2 := Lib.hid (KA.out.below hb2 KA.out.lt)
  have KB2 := Lib.hid (KB.out.below hb2 KB.out.lt)
  have KZ2 := Lib.hid (KZ.out.below hb2 KZ.out.lt)
  clear hb2 y0 y1 y2 KA KB KZ
  obtain ⟨x0, x1, x2⟩ := KA2.out.c3
  obtain ⟨y0, y1, y2⟩ := KB2.out.c3
  have z2 : w.heap.size + 3 ≤ w2.heap.size := by have := KZ2.out.lt; omega
  have HX2 := Lib.hid ((H.out.below b2).more b2.size)
  have hss : (s != s) = false := by simp
  have htt : (t != t) = false := by simp
  go_wp2_with fail
  refine (CP.out _ HX2.out).mono ?_
  rintro e w3 ⟨g3, c3, rfl, o3, hb3⟩
  clear hss htt x0 x1 x2 y0 y1 y2
  obtain ⟨g, hg⟩ : ∃ g, g = w3.heap.size := ⟨_, rfl⟩
  obtain ⟨wd, hwd⟩ : ∃ wd, wd = w3.alloc (.cells #[.int .i64 s, .int .i64 t, .slice (some ⟨g3, 0, none⟩) xs.length c3] 28) := ⟨_, rfl⟩
  have KD := Lib.hid (Blk.new w3 28 #[.int .i64 s, .int .i64 t, .slice (some ⟨g3, 0, none⟩) xs.length c3])
  have KB3 := Lib.hid ((KB2.out.below hb3 KB2.out.lt).alloc (.cells #[.int .i64 s, .int .i64 t, .slice (some ⟨g3, 0, none⟩) xs.length c3] 28))
  have KZ3 := Lib.hid ((KZ2.out.below hb3 KZ2.out.lt).alloc (.cells #[.int .i64 s, .int .i64 t, .slice (some ⟨g3, 0, none⟩) xs.length c3] 28))
  have y3 := o3.lt g3 rfl
  have O3 := Lib.hid (o3.alloc (.cells #[.int .i64 s, .int .i64 t, .slice (some ⟨g3, 0, none⟩) xs.length c3] 28))
  have b3 := b2.trans (hb3.mono b2.size)
  have B4 := Lib.hid (b3.alloc b3.size (.cells #[.int .i64 s, .int .i64 t, .slice (some ⟨g3, 0, none⟩) xs.length c3] 28))
  have z3 : w2.heap.size ≤ w3.heap.size := hb3.size
  obtain ⟨_, _, j2⟩ := KB3.out.c3
  go_wp2_with fail
  rw [← hwd] at KD KB3 KZ3 O3 B4 ⊢
  rw [← hg] at KD ⊢
  have zg : w.heap.size + 3 ≤ g := by omega
  have ng : g3 ≠ g := by omega
  have zg3 : w2.heap.size ≤ g := by omega
  clear b2 b3 hb3 o3 KA2 KB2 KZ2 j2 hwd hg y3 z3
  go_loopw [7] (fun i wr => ∃ (k : Nat) (l : List (Int × Int)) (v : Value), k ≤ n' ∧ i = .int .i64 k ∧ Hid (mergeTo xs ys k = some l) ∧ Blk wr g 28 #[.int .i64 s, .int .i64 t, v] ∧ wr.ownsRow w2.heap.size 50 2 v l.length (pc l) ∧ Hid (some g ≠ v.ownBlock) ∧ Blk wr (w.heap.size + 1) 28 #[.int .i64 s, .int .i64 t, .slice A' n' c'] ∧ Blk wr (w.heap.size + 1 + 1) 28 #[.int .i64 0, .int .i64 0, .slice none 0 0] ∧ Below w.heap.size w wr) (fun i _ => n' - (intOf i).toNat)
  case atStart => exact ⟨0, xs, _, Nat.zero_le _, rfl, rfl, KD.out, O3.out, Lib.hid (fun e => ng (by injection e with e; exact e.symm)), KB3.out, KZ3.out, B4.out⟩
  case round =>
    obtain ⟨k, l, v, hk, rfl, hm, hD, ho, hne, hB, hZ, hbl⟩ := hrel
    have HD := Lib.hid hD
    have HBX := Lib.hid hB
    have HZX := Lib.hid hZ
    have HO := Lib.hid ho
    have zg2 := hD.lt
    have hll : (l.length : Int) = xs.length + k := by
      have h1 := (merge_some HASC.out hm.out).2.2.length_eq
      rw [List.length_append, List.length_take, LY.out] at h1
      omega
    have hl2 : (l.length : Int) ≤ 200 := by omega
    have hcap : ∀ A c, v = .slice A l.length c → l.length ≤ c := fun A c e => own_capS (e ▸ ho)
    have hshape : ∀ A c, v = .slice A l.length c → (A = none ∧ c = 0) ∨ ∃ b o, A = some ⟨b, o, none⟩ := fun A c e => own_shape2 (e ▸ ho)
    obtain ⟨A1, c1, rfl⟩ := own_shape ho
    have hcap := hcap _ _ rfl
    have hshape := hshape _ _ rfl
    obtain ⟨d0, d1, d2⟩ := hD.c3
    obtain ⟨y0, y1, y2⟩ := hB.c3
    clear hD hB hZ ho hll
    by_cases hlt : (k : Int) < n'
    · obtain ⟨b, o, rfl, hbB, hcell⟩ := H'.out.pairAt (by omega)
      obtain ⟨⟨x, y⟩, hx⟩ : ∃ p, ys[k]? = some p := ⟨_, List.getElem?_eq_getElem (by rw [LY.out]; omega)⟩
      obtain ⟨g0, g1⟩ := hcell k _ hx
      have c0 : wr.cell? ⟨b, o + k * 2, none⟩ = some (.int .i64 x) := (hbl.cell (p := ⟨b, o + k * 2, none⟩) hbB).trans g0
      have c1' : wr.cell? ⟨b, o + k * 2 + 1, none⟩ = some (.int .i64 y) := (hbl.cell (p := ⟨b, o + k * 2 + 1, none⟩) hbB).trans g1
      have HX := Lib.hid hx
      have SP := Lib.hid (fun w h => sPut A1 l.length c1 l x y w h (by omega) hcap hshape)
      unfold MadePut at SP
      obtain ⟨l2, hl2e⟩ : ∃ l2, l2 = insQ l (x, y) := ⟨_, rfl⟩
      rw [← hl2e] at SP
      have HL2E := Lib.hid hl2e
      obtain ⟨q, hqe⟩ : ∃ q, q = !hasQ l (x, y) := ⟨_, rfl⟩
      rw [← hqe] at SP
      have HQE := Lib.hid hqe
      have hbs : b < wr.heap.size := by have := hbl.size; omega
      have hbsz := hbl.size
      have hk0 : (0 : Int) ≤ k := by omega
      have hkn : k < n' := by omega
      have HBL := Lib.hid hbl
      clear hcell g0 g1 hx hl2e hqe hcap hshape hbl
      go_wp2
      go_region_held3 (fun w' => w'.cell? ⟨g, 2, none⟩ = some (.slice A1 l.length c1) ∧ w'.cell? ⟨w.heap.size + 1, 2, none⟩ = some (.slice (some ⟨b, o, none⟩) n' c') ∧ w'.cell? ⟨b, o + k * 2, none⟩ = some (.int .i64 x) ∧ w'.cell? ⟨b, o + k * 2 + 1, none⟩ = some (.int .i64 y)) (first | exact ⟨d2, y2, c0, c1'⟩ | exact ⟨k0, k1, k2, k3⟩) ((go_at_call 38; refine (SP.out wr.drew (Rd.of_own HO.out).drew).mono ?_; rintro e w4 ⟨A2, c2, rfl, o4, hb4⟩; have KD4 := Blk.below (B := wr.drew.heap.size) (HD.out.drewN 1) hb4 zg2; have KB4 := Blk.below (B := wr.drew.heap.size) (HBX.out.drewN 1) hb4 HBX.out.lt; have KZ4 := Blk.below (B := wr.drew.heap.size) (HZX.out.drewN 1) hb4 HZX.out.lt; have k0 := KD4.c3.2.2; have k1 := KB4.c3.2.2; have k2 := (hb4.cell (p := ⟨b, o + k * 2, none⟩) hbs).trans c0; have k3 := (hb4.cell (p := ⟨b, o + k * 2 + 1, none⟩) hbs).trans c1'))
      all_goals
        have O4 := Lib.hid (show w4.ownsRow wr.heap.size 50 2 (.slice A2 l2.length c2) l2.length (pc l2) from o4)
        have B4' := Lib.hid (HBL.out.drew.trans (hb4.mono hbsz))
        have HKD4 := Lib.hid KD4
        have HKB4 := Lib.hid KB4
        have HKZ4 := Lib.hid KZ4
        have f0 := KD4.frozen 2
        obtain ⟨r0, r1, r2⟩ := KZ4.c3
        have s0 := KZ4.frozen 0
        have s1 := KZ4.frozen 1
        have s2 := KZ4.frozen 2
        clear o4 hb4 KD4 KB4 KZ4 k1 k2 k3 c0 c1' d0 d1 d2 y0 y1 y2
        cases q
        · have hnone : mergeTo xs ys (k + 1) = none := mergeTo_no hm.out HX.out (by simpa using HQE.out)
          have HN := Lib.hid (MX.out (k + 1) (by rw [LY.out]; omega) hnone)
          clear hnone
          go_wp2
          obtain ⟨r0, r1, r2⟩ := (cyl_set (a := .int .i64 0) (b := .int .i64 0) (c := .slice none 0 0) HKZ4.out).c3
          refine bodyPost_ret (v := .tuple #[.agg #[.int .i64 0, .int .i64 0, .slice none 0 0], .bool false]) (by simp [results, Try.results17, go_sem, r0, r1, r2]) rfl ?_
          rw [HN.out]
          refine madeCO_no ?_
          exact ((B4'.out.setCell (by simp; omega) _).setCell (by simp; omega) _).setCell (by simp; omega) _
        · have hyes : mergeTo xs ys (k + 1) = some l2 := by rw [HL2E.out]; exact mergeTo_yes hm.out HX.out (by simpa using HQE.out)
          have HY := Lib.hid hyes
          clear hyes r0 r1 r2 s0 s1 s2
          go_wp2
          go_roundw
          case rel => exact ⟨k + 1, l2, _, by omega, by go_num, HY, by simpa using HKD4.out.set_ 2 (.slice A2 l2.length c2), own_base (own_low O4.out (p := ⟨g, 2, none⟩) zg2 _) (by omega), Lib.hid (own_ne O4.out zg2), HKB4.out.far (p := ⟨g, 2, none⟩) (by simp; omega) _, HKZ4.out.far (p := ⟨g, 2, none⟩) (by simp; omega) _, B4'.out.setCell (p := ⟨g, 2, none⟩) (by simp; omega) _⟩
          case measure => simp [intOf] <;> omega
    · obtain rfl : k = n' := by omega
      have hmE : mergeTo xs ys ys.length = some l := by rw [LY.out]; exact hm.out
      have HM := Lib.hid (ME.out l hmE)
      obtain ⟨vb, hvb⟩ : ∃ vb, vb = cylB s t l := ⟨_, rfl⟩
      have CE := Lib.hid (fun w h => CC.out A1 l.length c1 l w h (by omega))
      rw [← hvb] at CE
      have HVB := Lib.hid hvb
      clear hmE hvb hcap hshape
      go_wp2_with fail
      refine (CE.out _ (Rd.of_own HO.out)).mono ?_
      rintro e w6 ⟨rfl, hb6⟩
      have O6 := Lib.hid (own_below HO.out hb6)
      have R6 := Lib.hid (HZX.out.below hb6 HZX.out.lt)
      have D6 := HD.out.below hb6 zg2
      have B6 := Lib.hid (hbl.trans (hb6.mono hbl.size))
      obtain ⟨r0, r1, r2⟩ := R6.out.c3
      have f0 := R6.out.frozen 0
      have f1 := R6.out.frozen 1
      have f2 := R6.out.frozen 2
      obtain ⟨e0, e1, e2⟩ := D6.c3
      clear d0 d1 d2 y0 y1 y2 hb6 D6 hbl
      cases vb
      · go_wp2
        obtain ⟨r0, r1, r2⟩ := (cyl_set (a := .int .i64 0) (b := .int .i64 0) (c := .slice none 0 0) R6.out).c3
        refine bodyPost_ret (v := .tuple #[.agg #[.int .i64 0, .int .i64 0, .slice none 0 0], .bool false]) (by simp [results, Try.results17, go_sem, r0, r1, r2]) rfl ?_
        rw [HM.out, endM_no HVB.out]
        refine madeCO_no ?_
        exact ((B6.out.setCell (by simp; omega) _).setCell (by simp; omega) _).setCell (by simp; omega) _
      · go_wp2
        obtain ⟨r0, r1, r2⟩ := (cyl_set (a := .int .i64 s) (b := .int .i64 t) (c := .slice A1 l.length c1) R6.out).c3
        refine bodyPost_ret (v := .tuple #[.agg #[.int .i64 s, .int .i64 t, .slice A1 l.length c1], .bool true]) (by simp [results, Try.results17, go_sem, r0, r1, r2]) rfl ?_
        rw [HM.out, endM_yes HVB.out]
        refine madeCO_yes (own_base (own_low (own_low (own_low O6.out (by simp; omega) _) (by simp; omega) _) (by simp; omega) _) (by omega)) ?_
        exact ((B6.out.setCell (by simp; omega) _).setCell (by simp; omega) _).setCell (by simp; omega) _

end Go.Proofs.Ytjklobhnidbinaa
