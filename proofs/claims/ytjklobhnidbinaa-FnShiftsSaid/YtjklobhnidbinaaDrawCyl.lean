/-
  The drawn cylinder: whatever the bytes (at most 1048576), a valid one of at most nine pins.
-/
import Derived.Test.YtjklobhnidbinaaDrawQ
import Derived.Test.YtjklobhnidbinaaMergeS
namespace Go.Proofs.Ytjklobhnidbinaa
open Go.RowKit

/-- a drawn cylinder -/
def DC (s t : Int) (xs : List (Int × Int)) : Prop := 4 ≤ s ∧ s ≤ 24 ∧ 1 ≤ t ∧ t ≤ 8 ∧ xs.length ≤ 9 ∧ cylB s t xs = true
/-- pins so far -/
def PL (s t : Int) (m : Nat) (l : List (Int × Int)) : Prop := AscQ l ∧ (∀ p ∈ l, inQ s t p) ∧ l.length ≤ m
theorem PL.put {s t : Int} {m : Nat} {l : List (Int × Int)} {x y : Int} (h : PL s t m l) (hx : 0 ≤ x ∧ x < t) (hy : 0 ≤ y ∧ y < s) : PL s t (m + 1) (insQ l (x, y)) := by
  refine ⟨insQ_asc h.1, fun p hp => ?_, by have := insQ_len l (x, y); have := h.2.2; omega⟩
  rcases insQ_mem hp with hp | hp
  · exact h.2.1 p hp
  · subst hp
    exact ⟨hx.1, by simp only; omega, hy.1, by simp only; omega⟩
theorem PL.dc {s t : Int} {m : Nat} {l : List (Int × Int)} (h : PL s t m l) (hm : m ≤ 9) (hs : 4 ≤ s ∧ s ≤ 24) (ht : 1 ≤ t ∧ t ≤ 8) : DC s t l :=
  ⟨hs.1, hs.2, ht.1, ht.2, by have := h.2.2; omega, cyl_iff.2 ⟨⟨hs.1, by omega⟩, ⟨ht.1, by omega⟩, by have := h.2.2; omega, h.2.1, h.1⟩⟩

theorem cyl_tail {w u2 u3 : World} {B g g3 n c L c2 : Nat} {A A2 : Option Addr} {bs : List Int} {a b x : Value} {cells : List Value} (hcu : Cur u2 B g A n c bs) (hbu : Below u2.heap.size u2 u3) (hK : Blk u3 g3 28 #[a, b, x]) (ho : u3.ownsRow u2.heap.size 50 2 (.slice A2 L c2) L cells) (hG : w.grownBy u2 (some g)) (hg : g < w.heap.size) (hB : B ≤ w.heap.size) (h3 : w.heap.size < g3) (h32 : g3 < u2.heap.size) :
    Cur (u3.setCell ⟨g3, 2, none⟩ (.slice A2 L c2)) B g A n c bs ∧ Blk (u3.setCell ⟨g3, 2, none⟩ (.slice A2 L c2)) g3 28 #[a, b, .slice A2 L c2] ∧ (u3.setCell ⟨g3, 2, none⟩ (.slice A2 L c2)).ownsRow (g3 + 1) 50 2 (.slice A2 L c2) L cells ∧ w.grownBy (u3.setCell ⟨g3, 2, none⟩ (.slice A2 L c2)) (some g) := by
  have hs := hG.size
  refine ⟨(hcu.below hbu (by omega) (by omega)).set_ (by simp; omega) (by simp; omega) _, by simpa using hK.set_ 2 (.slice A2 L c2), own_base (own_low ho (p := ⟨g3, 2, none⟩) h32 _) (by omega), grown_new (grown_below hG hbu (by omega)) (by simp; omega) _⟩

set_option maxHeartbeats 8000000 in
theorem l06Cyl_any (B g : Nat) (A : Option Addr) (n c : Nat) (bs : List Int) (w : World) (h : Cur w B g A n c bs) (hBs : B ≤ w.heap.size) :
    Calls Try.prog 42 #[.pointer (some ⟨g, 0, none⟩)] w fun e w' => ∃ (s t : Int) (xs : List (Int × Int)) (A' : Option Addr) (c' : Nat), e = .returned (.agg #[.int .i64 s, .int .i64 t, .slice A' xs.length c']) ∧ DC s t xs ∧ w'.ownsRow w.heap.size 50 2 (.slice A' xs.length c') xs.length (pc xs) ∧ Cur w' B g A n c bs ∧ w.grownBy w' (some g) := by
  have hlt := h.lt
  obtain ⟨hBg, hgw⟩ := hlt
  have H := Lib.hid (h.alloc hBs (.cells #[.int .i64 0, .int .i64 0, .slice none 0 0] 28))
  have KZ0 := Blk.new w 28 #[.int .i64 0, .int .i64 0, .slice none 0 0]
  have GZ0 := grown_alloc (grown_refl w (some g)) (.cells #[.int .i64 0, .int .i64 0, .slice none 0 0] 28)
  clear h
  go_enter Try.func42, Try.ntmps42
  go_wp2_with fail
  refine (l01Below_any _ _ _ _ _ _ _ _ H.out (by omega)).mono ?_
  rintro e w1 ⟨x1, rfl, ⟨a1, a2, _⟩, hc1, hg1⟩
  have a2 := a2 (by omega)
  have k1 := KZ0.grown hg1 (by simp; omega)
  have G1 := grown_two GZ0 hg1
  go_wp2_with fail
  refine (l01Below_any _ _ _ _ _ _ _ _ hc1 (by omega)).mono ?_
  rintro e w2 ⟨x2, rfl, ⟨b1, b2, _⟩, hc2, hg2⟩
  have b2 := b2 (by omega)
  have k2 := k1.grown hg2 (by simp; omega)
  have G2 := grown_two G1 hg2
  obtain ⟨S, hS, S0, S1⟩ : ∃ S, S = 4 + x1 ∧ 4 ≤ S ∧ S ≤ 24 := ⟨_, rfl, by omega, by omega⟩
  obtain ⟨T, hT, T0, T1⟩ : ∃ T, T = 1 + x2 ∧ 1 ≤ T ∧ T ≤ 8 := ⟨_, rfl, by omega, by omega⟩
  have z2 := G2.size
  have HC2 := Lib.hid (hc2.alloc (by omega) (.cells #[.int .i64 S, .int .i64 T, .slice none 0 0] 28))
  have K3 := Blk.new w2 28 #[.int .i64 S, .int .i64 T, .slice none 0 0]
  have k2a := k2.alloc (.cells #[.int .i64 S, .int .i64 T, .slice none 0 0] 28)
  have G2a := grown_alloc G2 (.cells #[.int .i64 S, .int .i64 T, .slice none 0 0] 28)
  have y2 := k2.lt
  clear hc2 hg2 hg1 KZ0 GZ0 k1 G1 G2 k2
  go_wp2_with fail
  rw [← hS, ← hT]
  refine (l01Below_any _ _ _ _ _ _ _ _ HC2.out (by omega)).mono ?_
  rintro e w3 ⟨m, rfl, ⟨m0, m1, _⟩, hc3, hg3⟩
  have m1 := m1 (by omega)
  obtain ⟨m, rfl⟩ := Int.eq_ofNat_of_zero_le m0
  obtain ⟨g3, hg3e⟩ : ∃ g3, g3 = w2.heap.size := ⟨_, rfl⟩
  rw [← hg3e] at K3 y2 z2 ⊢
  have gne : g3 ≠ g := by omega
  have K4 := Lib.hid (K3.grown hg3 (fun e => gne (by injection e)))
  have KZ4 := Lib.hid (k2a.grown hg3 (by simp; omega))
  have G4 := Lib.hid (grown_two G2a hg3)
  have C4 := Lib.hid hc3
  clear hc3 hg3 K3 k2a G2a hS hT m0 hg3e a1 a2 b1 b2
  go_wp2_with fail
  go_loopw [4] (fun i wr => ∃ (k : Nat) (l : List (Int × Int)) (A1 : Option Addr) (c1 : Nat), k ≤ m ∧ i = .int .i64 k ∧ Hid (PL S T (m - k) l) ∧ Cur wr B g A n c bs ∧ Blk wr g3 28 #[.int .i64 S, .int .i64 T, .slice A1 l.length c1] ∧ wr.ownsRow (w.heap.size + 1) 50 2 (.slice A1 l.length c1) l.length (pc l) ∧ Blk wr w.heap.size 28 #[.int .i64 0, .int .i64 0, .slice none 0 0] ∧ w.grownBy wr (some g)) (fun i _ => (intOf i).toNat)
  case atStart => exact ⟨m, [], none, 0, Nat.le_refl _, rfl, ⟨List.Pairwise.nil, by simp, by simp⟩, C4.out, K4.out, World.ownsRow_nil _ _ _ _, KZ4.out, G4.out⟩
  case round =>
    obtain ⟨k, l, A1, c1, hk, rfl, hl, hcu, hK, ho, hZ, hgr⟩ := hrel
    have HK := Lib.hid hK
    have HO := Lib.hid ho
    have HZ := Lib.hid hZ
    have HGR := Lib.hid hgr
    have HC := Lib.hid hcu
    have hg3l := hK.lt
    by_cases hk0 : (0 : Int) < k
    · obtain ⟨d0, d1, d2⟩ := hK.c3
      have hcap := own_capS ho
      have hshape := own_shape2 ho
      have hl9 : l.length ≤ 9 := by have := hl.out.2.2; omega
      have hrs := hgr.size
      have CB1 := Lib.hid (l01Below_any B g A n c bs T wr.drew (show Cur wr.drew B g A n c bs from HC.out) (by omega))
      have SP := Lib.hid (fun x y w h => sPut A1 l.length c1 l x y w h (by omega) hcap hshape)
      clear hK ho hZ hgr hcu hcap hshape
      have hgwr : g < wr.heap.size := by omega
      go_wp2
      go_region_with (first
        | (go_at_call 43; (first
          | ((with_reducible refine CB1.out.mono ?_); rintro e u1 ⟨x, rfl, ⟨p1, p2, _⟩, hcu1, hgu1⟩; have Ku1 := Blk.grown (HK.out.drewN 1) hgu1 (fun e => gne (by injection e)); have Zu1 := Blk.grown (HZ.out.drewN 1) hgu1 (by simp; omega); have Ou1 := own_grown (own_drew1 HO.out) hgu1 (by omega); have Gu1 := grown_two (grown_draws HGR.out 1) hgu1; obtain ⟨m10, m11, m12⟩ := Ku1.c3; have CB2 := Lib.hid (l01Below_any B g A n c bs S u1 hcu1 (by omega)))
          | ((with_reducible refine CB2.out.mono ?_); rintro e u2 ⟨y, rfl, ⟨q1, q2, _⟩, hcu2, hgu2⟩; have Ku2 := Ku1.grown hgu2 (fun e => gne (by injection e)); have Zu2 := Zu1.grown hgu2 (by simp; omega); have Ou2 := own_grown Ou1 hgu2 (by omega); have Gu2 := grown_two Gu1 hgu2; obtain ⟨m20, m21, m22⟩ := Ku2.c3; have SPX := Lib.hid (SP.out x y u2 (Rd.of_own Ou2)))))
        | (go_at_call 38; (with_reducible refine SPX.out.mono ?_); rintro e u3 ⟨A2, c2, rfl, ou3, hbu3⟩; have Ku3 := Ku2.below hbu3 Ku2.lt; have Zu3 := Zu2.below hbu3 Zu2.lt; have y32 := Ku2.lt; have m32 := Ku3.c3.2.2; have fr32 := Ku3.frozen 2))
      all_goals (
        have TT := cyl_tail hcu2 hbu3 Ku3 ou3 Gu2 hgw hBs y2 y32
        have ZZ := Zu3.far (p := ⟨g3, 2, none⟩) (by simp only; omega) (.slice A2 (insQ l (x, y)).length c2)
        have PP := Lib.hid (hl.out.put ⟨p1, p2 (by omega)⟩ ⟨q1, q2 (by omega)⟩)
        clear CB1 CB2 SP SPX Ku1 Ku2 Zu1 Zu2 Ou1 Ou2 Gu1 Gu2 hcu1 hcu2 hgu1 hgu2 ou3 hbu3 m32 fr32 Ku3 Zu3 m10 m11 m12 m20 m21 m22 d0 d1 d2 HK HO HZ HGR HC p1 p2 q1 q2
        obtain ⟨t1, t2, t3, t4⟩ := TT
        generalize u3.setCell _ _ = u4 at *
        go_wp2
        go_roundw
        case rel => exact ⟨k - 1, insQ l (x, y), A2, c2, by omega, by go_num, by rw [show m - (k - 1) = m - k + 1 by omega]; exact PP, t1, t2, own_base t3 (by omega), ZZ, t4⟩
        case measure => simp [intOf] <;> omega)
    · obtain rfl : k = 0 := by omega
      obtain ⟨d0, d1, d2⟩ := hK.c3
      obtain ⟨z0, z1, z2'⟩ := hZ.c3
      have f0 := hZ.frozen 0
      have f1 := hZ.frozen 1
      have f2 := hZ.frozen 2
      have hzl := hZ.lt
      clear hK ho hZ hgr hcu
      go_wp2
      obtain ⟨r0, r1, r2⟩ := (cyl_set (a := .int .i64 S) (b := .int .i64 T) (c := .slice A1 l.length c1) HZ.out).c3
      refine bodyPost_ret (v := .agg #[.int .i64 S, .int .i64 T, .slice A1 l.length c1]) (by simp [results, Try.results42, go_sem, r0, r1, r2]) rfl ?_
      refine ⟨S, T, l, A1, c1, rfl, hl.out.dc (by omega) ⟨S0, S1⟩ ⟨T0, T1⟩, own_base (own_low (own_low (own_low HO.out (by simp only; omega) _) (by simp only; omega) _) (by simp only; omega) _) (by omega), ((HC.out.set_ (by simp only; omega) (by simp only; omega) _).set_ (by simp only; omega) (by simp only; omega) _).set_ (by simp only; omega) (by simp only; omega) _, grown_new (grown_new (grown_new HGR.out (by simp only; omega) _) (by simp only; omega) _) (by simp only; omega) _⟩

end Go.Proofs.Ytjklobhnidbinaa
