/-
  The drawn train, the drawn ratio: whatever the bytes (at most 1048576), at most three gears, each in its bounds; two numbers from 1 to 200.
-/
import Derived.Test.YtiecjmnaphfeaaaDrawMore
import Derived.Test.YtiecjmnaphfeaaaMarkGear
import Derived.Test.YtiecjmnaphfeaaaGearMath
namespace Go.Proofs.Ytiecjmnaphfeaaa
open Go.RowKit

def drawnGear (p : Int × Int) : Prop := 6 ≤ p.1 ∧ p.1 ≤ 44 ∧ 6 ≤ p.2 ∧ p.2 ≤ 63

set_option maxHeartbeats 400000 in
theorem l10Gear_any (B g : Nat) (A : Option Addr) (n c : Nat) (bs : List Int) (w : World) (h : Cur w B g A n c bs) (hBs : B ≤ w.heap.size) :
    Calls Try.prog 64 #[.pointer (some ⟨g, 0, none⟩)] w fun e w' => ∃ x y : Int, e = .returned (.agg #[.int .i64 x, .int .i64 y]) ∧ drawnGear (x, y) ∧ Cur w' B g A n c bs ∧ w.grownBy w' (some g) := by
  have hlt := h.lt
  have H := Lib.hid (h.alloc hBs (.cells #[.int .i64 0, .int .i64 0] 25))
  clear h
  go_enter Try.func64, Try.ntmps64
  go_wp2_with fail
  refine (l01Below_any _ _ _ _ _ _ _ _ H.out (by omega)).mono ?_
  rintro e w1 ⟨x1, rfl, ⟨a1, a2, _⟩, hc1, hg1⟩
  have a2 := a2 (by omega)
  have k1 := (Blk.new w 25 #[.int .i64 0, .int .i64 0]).grown hg1 (by simp; omega)
  go_wp2_with fail
  refine (l01Below_any _ _ _ _ _ _ _ _ hc1 (by omega)).mono ?_
  rintro e w2 ⟨x2, rfl, ⟨b1, b2, _⟩, hc2, hg2⟩
  have b2 := b2 (by omega)
  have k2 := k1.grown hg2 (by simp; omega)
  obtain ⟨d0, d1⟩ := k2.c2
  have f0 := k2.frozen 0
  have f1 := k2.frozen 1
  go_wp2_with fail
  have K : Blk ((w2.setCell ⟨w.heap.size, 0, none⟩ (.int .i64 (6 + 2 * x1))).setCell ⟨w.heap.size, 1, none⟩ (.int .i64 (6 + 3 * x2))) w.heap.size 25 #[.int .i64 (6 + 2 * x1), .int .i64 (6 + 3 * x2)] := by
    simpa using ((k2.set_ 0 (.int .i64 (6 + 2 * x1))).set_ 1 (.int .i64 (6 + 3 * x2)))
  obtain ⟨r0, r1⟩ := K.c2
  refine bodyPost_ret (v := .agg #[.int .i64 (6 + 2 * x1), .int .i64 (6 + 3 * x2)]) (by simp [results, Try.results64, go_sem, r0, r1]) rfl ⟨_, _, rfl, ⟨by simp; omega, by simp; omega, by simp; omega, by simp; omega⟩, ?_, ?_⟩
  · exact (hc2.set_ (by simp; omega) (by simp; omega) _).set_ (by simp; omega) (by simp; omega) _
  · have g0 : w.grownBy w2 (some g) := grown_two (grown_two (grown_alloc (grown_refl w _) _) hg1) hg2
    exact grown_new (grown_new g0 (by simp) _) (by simp) _

/-- a drawn train -/
def Train3 (l : List (Int × Int)) : Prop := l.length ≤ 3 ∧ ∀ p ∈ l, drawnGear p

set_option maxHeartbeats 800000 in
theorem l10List_any (B g : Nat) (A : Option Addr) (n c : Nat) (bs : List Int) (w : World) (h : Cur w B g A n c bs) (hBs : B ≤ w.heap.size) :
    Calls Try.prog 58 #[.pointer (some ⟨g, 0, none⟩)] w fun e w' => ∃ (l : List (Int × Int)) (A' : Option Addr) (c' : Nat), e = .returned (.slice A' l.length c') ∧ Train3 l ∧ w'.ownsRow w.heap.size 25 2 (.slice A' l.length c') l.length (pc l) ∧ w.grownBy w' (some g) := by
  have hlt := h.lt
  obtain ⟨hBg, hgw⟩ := hlt
  have H := Lib.hid (h.alloc hBs (.cells #[] 25))
  have OE := Lib.hid (own_empty w 25 2 w.heap.size (Nat.le_refl _))
  clear h
  go_enter Try.func58, Try.ntmps58
  go_wp2_with fail
  refine (l01Below_any _ _ _ _ _ _ _ _ H.out (by omega)).mono ?_
  rintro e w1 ⟨m, rfl, ⟨m0, m1, _⟩, hc1, hg1⟩
  have m1 := m1 (by omega)
  obtain ⟨m, rfl⟩ := Int.eq_ofNat_of_zero_le m0
  have O1 := Lib.hid (own_grown OE.out hg1 hgw)
  have G1 : w.grownBy w1 (some g) := grown_two (grown_alloc (grown_refl w _) _) hg1
  have HC1 := Lib.hid hc1
  clear hc1 hg1
  go_wp2
  go_loopw [3, 5] (fun v i wr => ∃ (k : Nat) (l : List (Int × Int)), k ≤ m ∧ i = .int .i64 k ∧ Hid (l.length = k ∧ Train3 l) ∧ Cur wr B g A n c bs ∧ wr.ownsRow w.heap.size 25 2 v k (pc l) ∧ w.grownBy wr (some g)) (fun _ i _ => m - (intOf i).toNat)
  case atStart => exact ⟨0, [], Nat.zero_le _, rfl, ⟨rfl, by simp, by simp⟩, HC1.out, O1.out, G1⟩
  case round =>
    obtain ⟨k, l, hk, rfl, hl, hcu, hown, hgr⟩ := hrel
    by_cases hlt : (k : Int) < m
    · have HO := Lib.hid hown
      have HCU := Lib.hid hcu
      have hzr := hgr.size
      clear hown hcu
      go_wp2_with fail
      refine (l10Gear_any _ _ _ _ _ _ _ HCU.out (by omega)).mono ?_
      rintro e w2 ⟨x, y, rfl, hd, hc2, hg2⟩
      have O2 := Lib.hid (own_grown HO.out hg2 hgw)
      have G2 := grown_two hgr hg2
      have hz2 := G2.size
      have O3 := Lib.hid (O2.out.alloc (.cells #[.int .i64 x, .int .i64 y] 25))
      have G3 := Lib.hid (grown_alloc G2 (.cells #[.int .i64 x, .int .i64 y] 25))
      have C3 := Lib.hid (hc2.alloc (by omega) (.cells #[.int .i64 x, .int .i64 y] 25))
      have HD := Lib.hid hd
      clear hc2 hg2 hgr hd G2
      go_wp2_with (at_builtin; refine wpList_app_Gear (w := w2.alloc (.cells #[.int .i64 x, .int .i64 y] 25)) (W := w2.alloc (.cells #[.int .i64 x, .int .i64 y] 25)) rfl (.tmp 17) (.tmp 19) rfl w.heap.size _ _ l x y rfl O3.out (by simp [go_sem]) (by omega) (by simp; omega) (Below.refl _ _) ?_; intro v' w' hown' hg' hbl')
      have HO' := Lib.hid hown'
      clear hown' hg'
      go_roundw
      case rel =>
        refine ⟨k + 1, l ++ [(x, y)], by omega, by go_num, ⟨by simp [hl.out.1], ?_, ?_⟩, C3.out.below hbl' hgw hBs, HO'.out, grown_below G3.out hbl' (Nat.le_refl _)⟩
        · simp; have := hl.out.1; omega
        · intro p hp
          rcases List.mem_append.1 hp with hp | hp
          · exact hl.out.2.2 p hp
          · rw [List.mem_singleton.1 hp]; exact HD.out
      case measure => simp [intOf] <;> omega
    · obtain rfl : k = m := by omega
      have HO := Lib.hid hown
      clear hown
      go_wp2
      go_ret
      obtain ⟨A', c', hv⟩ := own_shape HO.out
      have ho := HO.out
      rw [hv] at ho ⊢
      obtain ⟨hl1, hl2⟩ := hl.out
      subst hl1
      exact ⟨l, A', c', rfl, hl2, ho, hgr⟩

theorem DrawTrain_any (A : Option Addr) (n c : Nat) (bs : List Int) (w : World) (h : Rd w w.heap.size 1 A n (bs.map (Value.int .u8))) (hn : n ≤ 1048576) (hbs : ∀ x ∈ bs, 0 ≤ x ∧ x ≤ 255) :
    Calls Try.prog 36 #[.slice A n c] w fun e w' => ∃ (l : List (Int × Int)), Train3 l ∧ MadeP w l e w' := by
  have H := Lib.hid h
  have HBS := Lib.hid hbs
  clear h hbs
  go_enter Try.func36, Try.ntmps36
  go_wp2_with fail
  refine (l01New_any _ _ _ _ _ H.out hn HBS.out).mono ?_
  rintro e w1 ⟨g, rfl, hc1, hb1⟩
  have z1 := hc1.lt
  have s1 := hb1.size
  go_wp2_with fail
  refine (l10List_any _ _ _ _ _ _ _ hc1 s1).mono ?_
  rintro e w2 ⟨l, A', c', rfl, hd, ho, hg⟩
  have HO := Lib.hid ho
  clear ho
  go_wp2
  go_ret
  have b2 : Below w.heap.size w w2 := hb1.trans (grown_is_below hg z1.1 s1)
  exact ⟨l, hd, A', c', rfl, own_base HO.out s1, b2⟩

theorem DrawRatio_any (A : Option Addr) (n c : Nat) (bs : List Int) (w : World) (h : Rd w w.heap.size 1 A n (bs.map (Value.int .u8))) (hn : n ≤ 1048576) (hbs : ∀ x ∈ bs, 0 ≤ x ∧ x ≤ 255) :
    Calls Try.prog 51 #[.slice A n c] w fun e w' => ∃ x y : Int, e = .returned (.tuple #[.int .i64 x, .int .i64 y]) ∧ 1 ≤ x ∧ x ≤ 200 ∧ 1 ≤ y ∧ y ≤ 200 ∧ Below w.heap.size w w' := by
  have H := Lib.hid h
  have HBS := Lib.hid hbs
  clear h hbs
  go_enter Try.func51, Try.ntmps51
  go_wp2_with fail
  refine (l01New_any _ _ _ _ _ H.out hn HBS.out).mono ?_
  rintro e w1 ⟨g, rfl, hc1, hb1⟩
  have z1 := hc1.lt
  have s1 := hb1.size
  go_wp2_with fail
  refine (l01Below_any _ _ _ _ _ _ _ _ hc1 (by omega)).mono ?_
  rintro e w2 ⟨x, rfl, ⟨a1, a2, _⟩, hc2, hg2⟩
  have a2 := a2 (by omega)
  go_wp2_with fail
  refine (l01Below_any _ _ _ _ _ _ _ _ hc2 (by omega)).mono ?_
  rintro e w3 ⟨y, rfl, ⟨b1, b2, _⟩, hc3, hg3⟩
  have b2 := b2 (by omega)
  go_wp2
  go_ret2
  exact ⟨_, _, rfl, by omega, by omega, by omega, by omega, hb1.trans (grown_is_below (grown_two hg2 hg3) z1.1 s1)⟩

end Go.Proofs.Ytiecjmnaphfeaaa
