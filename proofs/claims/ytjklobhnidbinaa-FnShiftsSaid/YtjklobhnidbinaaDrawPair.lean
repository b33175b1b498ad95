/-
  A drawn pair: two valid cylinders of at most nine pins each, with the same steps and tracks.
-/
import Derived.Test.YtjklobhnidbinaaDrawCyl
namespace Go.Proofs.Ytjklobhnidbinaa
open Go.RowKit

theorem own_set {w : World} {base size n : Nat} {v : Value} {xs : List Value} {e : TypeId} (h : w.ownsRow base e size v n xs) {p : Addr} (hp : ∀ b, v.ownBlock = some b → b ≠ p.block) (u : Value) : (w.setCell p u).ownsRow base e size v n xs := by
  refine h.kept (w' := w.setCell p u) (row := some p.block) ⟨rfl, rfl, rfl, by simp [World.setCell], fun k _ hk => Below.heap_setCell _ _ _ _ (fun e => hk (by rw [e]))⟩ ?_
  cases e : v.ownBlock with
  | none => exact Or.inl rfl
  | some b => right; intro e2; injection e2 with e2; exact hp b e e2

theorem Blk.far3 {w : World} {g x : Nat} {t : TypeId} {cs : Array Value} (h : Blk w g t cs) (hx : g ≠ x) (a b c : Value) : Blk (((w.setCell ⟨x, 0, none⟩ a).setCell ⟨x, 1, none⟩ b).setCell ⟨x, 2, none⟩ c) g t cs := ((h.far (p := ⟨x, 0, none⟩) hx a).far (p := ⟨x, 1, none⟩) hx b).far (p := ⟨x, 2, none⟩) hx c
theorem own_far3 {w : World} {base size n x : Nat} {v : Value} {xs : List Value} {e : TypeId} (h : w.ownsRow base e size v n xs) (hx : x < base) (a b c : Value) : (((w.setCell ⟨x, 0, none⟩ a).setCell ⟨x, 1, none⟩ b).setCell ⟨x, 2, none⟩ c).ownsRow base e size v n xs := own_low (own_low (own_low h (p := ⟨x, 0, none⟩) hx a) (p := ⟨x, 1, none⟩) hx b) (p := ⟨x, 2, none⟩) hx c
theorem below_far3 {B x : Nat} {a w : World} (h : Below B a w) (hx : B ≤ x) (u v z : Value) : Below B a (((w.setCell ⟨x, 0, none⟩ u).setCell ⟨x, 1, none⟩ v).setCell ⟨x, 2, none⟩ z) := ((h.setCell (p := ⟨x, 0, none⟩) hx u).setCell (p := ⟨x, 1, none⟩) hx v).setCell (p := ⟨x, 2, none⟩) hx z
theorem six_cells {w : World} {g g' : Nat} {t t' : TypeId} {a b c a' b' c' : Value} (h : Blk w g t #[a, b, c]) (h' : Blk w g' t' #[a', b', c']) : w.cell? ⟨g, 0, none⟩ = some a ∧ w.cell? ⟨g, 1, none⟩ = some b ∧ w.cell? ⟨g, 2, none⟩ = some c ∧ w.cell? ⟨g', 0, none⟩ = some a' ∧ w.cell? ⟨g', 1, none⟩ = some b' ∧ w.cell? ⟨g', 2, none⟩ = some c' :=
  ⟨h.c3.1, h.c3.2.1, h.c3.2.2, h'.c3.1, h'.c3.2.1, h'.c3.2.2⟩

set_option maxHeartbeats 8000000 in
set_option maxRecDepth 100000 in
theorem drawPair_any (A : Option Addr) (n c : Nat) (bs : List Int) (w : World) (h : Rd w w.heap.size 1 A n (bs.map (Value.int .u8))) (hn : n ≤ 1048576) (hbs : ∀ x ∈ bs, 0 ≤ x ∧ x ≤ 255) :
    Calls Try.prog 26 #[.slice A n c] w fun e w' => ∃ (s t : Int) (xs ys : List (Int × Int)) (A1 A2 : Option Addr) (c1 c2 : Nat), e = .returned (.tuple #[.agg #[.int .i64 s, .int .i64 t, .slice A1 xs.length c1], .agg #[.int .i64 s, .int .i64 t, .slice A2 ys.length c2]]) ∧ DC s t xs ∧ DC s t ys ∧ w'.ownsRow w.heap.size 50 2 (.slice A1 xs.length c1) xs.length (pc xs) ∧ w'.ownsRow w.heap.size 50 2 (.slice A2 ys.length c2) ys.length (pc ys) ∧ Below w.heap.size w w' := by
  have H := Lib.hid ((h.alloc (Nat.le_refl _) (.cells #[.int .i64 0, .int .i64 0, .slice none 0 0] 28)).alloc (by simp) (.cells #[.int .i64 0, .int .i64 0, .slice none 0 0] 28))
  have KX0 := (Blk.new w 28 #[.int .i64 0, .int .i64 0, .slice none 0 0]).alloc (.cells #[.int .i64 0, .int .i64 0, .slice none 0 0] 28)
  have KY0 := Blk.new (w.alloc (.cells #[.int .i64 0, .int .i64 0, .slice none 0 0] 28)) 28 #[.int .i64 0, .int .i64 0, .slice none 0 0]
  have B0 := Lib.hid (((Below.refl w.heap.size w).alloc (Nat.le_refl _) (.cells #[.int .i64 0, .int .i64 0, .slice none 0 0] 28)).alloc (by simp) (.cells #[.int .i64 0, .int .i64 0, .slice none 0 0] 28))
  clear h
  go_enter Try.func26, Try.ntmps26
  go_wp2_with fail
  refine (l01New_any _ _ _ bs _ (H.out.more (by simp; omega)) hn hbs).mono ?_
  rintro e w1 ⟨g, rfl, hc1, hb1⟩
  have W0 : (w.alloc (.cells #[.int .i64 0, .int .i64 0, .slice none 0 0] 28)).heap.size = w.heap.size + 1 := by simp
  have W1 : ((w.alloc (.cells #[.int .i64 0, .int .i64 0, .slice none 0 0] 28)).alloc (.cells #[.int .i64 0, .int .i64 0, .slice none 0 0] 28)).heap.size = w.heap.size + 1 + 1 := by simp
  have KX1 := KX0.below hb1 KX0.lt
  have KY1 := KY0.below hb1 KY0.lt
  have B1 := B0.out.trans (hb1.mono (by omega))
  have zb := hb1.size
  rw [W0] at KY1
  rw [W1] at hc1 zb
  obtain ⟨b, hbe, hbl⟩ : ∃ b, b = w.heap.size + 1 + 1 ∧ w.heap.size + 1 < b := ⟨_, rfl, by omega⟩
  rw [← hbe] at hc1 zb
  have CL := Lib.hid (l06Cyl_any b g A n c bs w1 hc1 zb)
  have gl := hc1.lt
  clear hbe
  clear hc1 hb1 H B0 KX0 KY0
  go_wp2_with fail
  refine CL.out.mono ?_
  rintro e w2 ⟨s, t, xs, A1, c1, rfl, hdc, ho1, hc2, hg2⟩
  have KX2 := KX1.grown hg2 (by simp; omega)
  have KY2 := KY1.grown hg2 (by simp; omega)
  have z2 := hg2.size
  have s0 := hdc.1
  have s1 := hdc.2.1
  have t0 := hdc.2.2.1
  have t1 := hdc.2.2.2.1
  have HD := Lib.hid hdc
  have OB := Lib.hid ho1.lt
  obtain ⟨g5, hg5⟩ : ∃ g5, g5 = w2.heap.size := ⟨_, rfl⟩
  obtain ⟨L, hL⟩ : ∃ L, L = xs.length := ⟨_, rfl⟩
  have LX := Lib.hid hL
  rw [← hL] at ho1 OB ⊢
  have K5 := Blk.new w2 28 #[.int .i64 s, .int .i64 t, .slice A1 L c1]
  obtain ⟨d0, d1, d2⟩ := K5.c3
  have K5a := K5.alloc (.cells #[.int .i64 s, .int .i64 t, .slice none 0 0] 28)
  have K6 := Blk.new (w2.alloc (.cells #[.int .i64 s, .int .i64 t, .slice A1 L c1] 28)) 28 #[.int .i64 s, .int .i64 t, .slice none 0 0]
  have W2 : (w2.alloc (.cells #[.int .i64 s, .int .i64 t, .slice A1 L c1] 28)).heap.size = w2.heap.size + 1 := by simp
  rw [W2] at K6
  have CB := Lib.hid (l01Below_any b g A n c bs 8 _ ((hc2.alloc (by omega) (.cells #[.int .i64 s, .int .i64 t, .slice A1 L c1] 28)).alloc (by simp; omega) (.cells #[.int .i64 s, .int .i64 t, .slice none 0 0] 28)) (by omega))
  have KX3 := (KX2.alloc (.cells #[.int .i64 s, .int .i64 t, .slice A1 L c1] 28)).alloc (.cells #[.int .i64 s, .int .i64 t, .slice none 0 0] 28)
  have KY3 := (KY2.alloc (.cells #[.int .i64 s, .int .i64 t, .slice A1 L c1] 28)).alloc (.cells #[.int .i64 s, .int .i64 t, .slice none 0 0] 28)
  have O3 := (ho1.alloc (.cells #[.int .i64 s, .int .i64 t, .slice A1 L c1] 28)).alloc (.cells #[.int .i64 s, .int .i64 t, .slice none 0 0] 28)
  have G3 := grown_alloc (grown_alloc hg2 (.cells #[.int .i64 s, .int .i64 t, .slice A1 L c1] 28)) (.cells #[.int .i64 s, .int .i64 t, .slice none 0 0] 28)
  have kl5 := K5a.lt
  have kl6 := K6.lt
  clear KX1 KY1 KX2 KY2 CL hc2 hg2 hdc ho1 K5 hL
  go_wp2_with fail
  refine CB.out.mono ?_
  rintro e w3 ⟨m, rfl, ⟨m0, m1, _⟩, hc3, hg3⟩
  have m1 := m1 (by omega)
  obtain ⟨m, rfl⟩ := Int.eq_ofNat_of_zero_le m0
  have KX4 := Lib.hid (KX3.grown hg3 (by simp; omega))
  have KY4 := Lib.hid (KY3.grown hg3 (by simp; omega))
  have K54 := K5a.grown hg3 (by simp; omega)
  have K64 := K6.grown hg3 (by simp; omega)
  have O4 := Lib.hid (own_grown O3 hg3 (by omega))
  have G4 := Lib.hid (grown_two G3 hg3)
  have C4 := Lib.hid hc3
  rw [← hg5] at K54 K64 z2 OB ⊢
  obtain ⟨g6, hg6, z56⟩ : ∃ g6, g6 = g5 + 1 ∧ g5 < g6 := ⟨_, rfl, by omega⟩
  rw [← hg6] at K64 ⊢
  replace K54 := Lib.hid K54
  replace K64 := Lib.hid K64
  clear hc3 hg3 KX3 KY3 K5a K6 O3 G3 d0 d1 d2 CB m0 kl5 kl6 W2 W0 W1 hg5 hg6
  go_wp2_with fail
  go_loopw [7] (fun i wr => ∃ (k : Nat) (l : List (Int × Int)) (A2 : Option Addr) (c2 : Nat), k ≤ m ∧ i = .int .i64 k ∧ Hid (PL s t (m - k) l) ∧ Cur wr b g A n c bs ∧ Blk wr g6 28 #[.int .i64 s, .int .i64 t, .slice A2 l.length c2] ∧ wr.ownsRow w1.heap.size 50 2 (.slice A2 l.length c2) l.length (pc l) ∧ Blk wr g5 28 #[.int .i64 s, .int .i64 t, .slice A1 L c1] ∧ wr.ownsRow w1.heap.size 50 2 (.slice A1 L c1) L (pc xs) ∧ Blk wr w.heap.size 28 #[.int .i64 0, .int .i64 0, .slice none 0 0] ∧ Blk wr (w.heap.size + 1) 28 #[.int .i64 0, .int .i64 0, .slice none 0 0] ∧ w1.grownBy wr (some g)) (fun i _ => (intOf i).toNat)
  case atStart => exact ⟨m, [], none, 0, Nat.le_refl _, rfl, ⟨List.Pairwise.nil, by simp, by simp⟩, C4.out, K64.out, World.ownsRow_nil _ _ _ _, K54.out, O4.out, KX4.out, KY4.out, G4.out⟩
  case round =>
    obtain ⟨k, l, A2, c2, hk, rfl, hl, hcu, hK, ho, h5, ho5, hX, hY, hgr⟩ := hrel
    have HK := Lib.hid hK
    have HO := Lib.hid ho
    have H5 := Lib.hid h5
    have HO5 := Lib.hid ho5
    have HX := Lib.hid hX
    have HY := Lib.hid hY
    have HGR := Lib.hid hgr
    have HC := Lib.hid hcu
    have hg6l := hK.lt
    have hrs := hgr.size
    by_cases hk0 : (0 : Int) < k
    · obtain ⟨d0, d1, d2⟩ := hK.c3
      obtain ⟨v0, v1, v2⟩ := h5.c3
      have hcap := own_capS ho
      have hshape := own_shape2 ho
      have hl9 : l.length ≤ 9 := by have := hl.out.2.2; omega
      have CB1 := Lib.hid (l01Below_any b g A n c bs t wr.drew (show Cur wr.drew b g A n c bs from HC.out) (by omega))
      have SP := Lib.hid (fun x y w h => sPut A2 l.length c2 l x y w h (by omega) hcap hshape)
      clear hK ho hgr hcu hcap hshape h5 ho5 hX hY
      have hgwr : g < wr.heap.size := by omega
      go_wp2
      go_region_with (first
        | (go_at_call 43; (first
          | ((with_reducible refine CB1.out.mono ?_); rintro e u1 ⟨x, rfl, ⟨p1, p2, _⟩, hcu1, hgu1⟩; have Ku1 := Blk.grown (HK.out.drewN 1) hgu1 (by simp; omega); have Mu1 := Blk.grown (H5.out.drewN 1) hgu1 (by simp; omega); obtain ⟨m10, m11, m12⟩ := Ku1.c3; obtain ⟨m13, m14, m15⟩ := Mu1.c3; have CB2 := Lib.hid (l01Below_any b g A n c bs s u1 hcu1 (by omega)))
          | ((with_reducible refine CB2.out.mono ?_); rintro e u2 ⟨y, rfl, ⟨q1, q2, _⟩, hcu2, hgu2⟩; have Ku2 := Ku1.grown hgu2 (by simp; omega); have Mu2 := Mu1.grown hgu2 (by simp; omega); have GU := grown_two hgu1 hgu2; have Ou2 := own_grown (own_drew1 HO.out) GU (by omega); obtain ⟨m20, m21, m22⟩ := Ku2.c3; obtain ⟨m23, m24, m25⟩ := Mu2.c3; have SPX := Lib.hid (SP.out x y u2 (Rd.of_own Ou2)))))
        | (go_at_call 38; (with_reducible refine SPX.out.mono ?_); rintro e u3 ⟨A3, c3, rfl, ou3, hbu3⟩; have Ku3 := Ku2.below hbu3 Ku2.lt; have Mu3 := Mu2.below hbu3 Mu2.lt; have y32 := Ku2.lt; have y52 := Mu2.lt; have m32 := Ku3.c3.2.2; have fr32 := Ku3.frozen 2))
      all_goals (
        have e6 : g5 ≠ g6 := by omega
        have TT := cyl_tail hcu2 hbu3 Ku3 ou3 (grown_two (grown_draws HGR.out 1) GU) gl.2 zb (by omega) y32
        have MM := Mu3.far (p := ⟨g6, 2, none⟩) e6 (.slice A3 (insQ l (x, y)).length c3)
        have XX := (Blk.below (Blk.grown (HX.out.drewN 1) GU (by simp; omega)) hbu3 (by omega)).far (p := ⟨g6, 2, none⟩) (by simp only; omega) (.slice A3 (insQ l (x, y)).length c3)
        have YY := (Blk.below (Blk.grown (HY.out.drewN 1) GU (by simp; omega)) hbu3 (by omega)).far (p := ⟨g6, 2, none⟩) (by simp only; omega) (.slice A3 (insQ l (x, y)).length c3)
        have O5 := own_set (own_below (own_grown (own_drew1 HO5.out) GU (by omega)) hbu3) (p := ⟨g6, 2, none⟩) (fun b hb => by have := (OB.out b hb).2; simp only; omega) (.slice A3 (insQ l (x, y)).length c3)
        have PP := Lib.hid (hl.out.put ⟨p1, p2 (by omega)⟩ ⟨q1, q2 (by omega)⟩)
        clear CB1 CB2 SP SPX Ku1 Ku2 Mu1 Mu2 Mu3 Ou2 GU hcu1 hcu2 hgu1 hgu2 ou3 hbu3 m32 fr32 Ku3 m10 m11 m12 m20 m21 m22 m13 m14 m15 m23 m24 m25 d0 d1 d2 v0 v1 v2 HK HO H5 HO5 HX HY HGR HC p1 p2 q1 q2
        obtain ⟨t1', t2', t3', t4'⟩ := TT
        generalize u3.setCell _ _ = u4 at *
        go_wp2
        go_roundw
        case rel => exact ⟨k - 1, insQ l (x, y), A3, c3, by omega, by go_num, by rw [show m - (k - 1) = m - k + 1 by omega]; exact PP, t1', t2', own_base t3' (by omega), MM, O5, XX, YY, t4'⟩
        case measure => simp [intOf] <;> omega)
    · obtain rfl : k = 0 := by omega
      obtain ⟨d0, d1, d2⟩ := hK.c3
      obtain ⟨v0, v1, v2⟩ := h5.c3
      obtain ⟨x0, x1, x2⟩ := hX.c3
      obtain ⟨y0, y1, y2⟩ := hY.c3
      have fx0 := hX.frozen 0
      have fx1 := hX.frozen 1
      have fx2 := hX.frozen 2
      have fy0 := hY.frozen 0
      have fy1 := hY.frozen 1
      have fy2 := hY.frozen 2
      clear hK ho hgr hcu h5 ho5 hX hY
      have e5x : g5 ≠ w.heap.size := by omega
      have e5y : g5 ≠ w.heap.size + 1 := by omega
      have e6x : g6 ≠ w.heap.size := by omega
      have e6y : g6 ≠ w.heap.size + 1 := by omega
      go_wp2
      go_region_with fail
      all_goals (
        have KX := blk_drewP ((cyl_set (a := .int .i64 s) (b := .int .i64 t) (c := .slice A1 L c1) HX.out).far3 (x := w.heap.size + 1) (by omega) (.int .i64 s) (.int .i64 t) (.slice A2 l.length c2))
        have KY := blk_drewP (cyl_set (a := .int .i64 s) (b := .int .i64 t) (c := .slice A2 l.length c2) (HY.out.far3 (x := w.heap.size) (by omega) (.int .i64 s) (.int .i64 t) (.slice A1 L c1)))
        have hh0 : w.heap.size < w1.heap.size := by omega
        have hh1 : w.heap.size + 1 < w1.heap.size := by omega
        have OX := Lib.hid (own_drew1 (own_far3 (own_far3 HO5.out hh0 (.int .i64 s) (.int .i64 t) (.slice A1 L c1)) hh1 (.int .i64 s) (.int .i64 t) (.slice A2 l.length c2)))
        have OY := Lib.hid (own_drew1 (own_far3 (own_far3 HO.out hh0 (.int .i64 s) (.int .i64 t) (.slice A1 L c1)) hh1 (.int .i64 s) (.int .i64 t) (.slice A2 l.length c2)))
        have BX := Lib.hid (below_far3 (below_far3 (B1.grown HGR.out (by omega) (fun k hk => by injection hk with hk; omega)) (x := w.heap.size) (by omega) (.int .i64 s) (.int .i64 t) (.slice A1 L c1)) (x := w.heap.size + 1) (by omega) (.int .i64 s) (.int .i64 t) (.slice A2 l.length c2)).drew
        obtain ⟨r0, r1, r2⟩ := KX.c3
        obtain ⟨r3, r4, r5⟩ := KY.c3
        clear KX KY HX HY HK HO H5 HO5 HGR HC v0 v1 v2 d0 d1 d2 x0 x1 x2 y0 y1 y2 fx0 fx1 fx2 fy0 fy1 fy2
        generalize World.drew _ = wz at *
        go_wp2
        refine bodyPost_ret (v := .tuple #[.agg #[.int .i64 s, .int .i64 t, .slice A1 L c1], .agg #[.int .i64 s, .int .i64 t, .slice A2 l.length c2]]) (by simp [results, Try.results26, go_sem, r0, r1, r2, r3, r4, r5]) rfl ?_
        refine ⟨s, t, xs, l, A1, A2, c1, c2, ?_, HD.out, hl.out.dc (by omega) ⟨s0, s1⟩ ⟨t0, t1⟩, ?_, own_base OY.out (by omega), BX.out⟩
        · rw [LX.out]
        · rw [← LX.out]; exact own_base OX.out (by omega))

end Go.Proofs.Ytjklobhnidbinaa
