/-
  The drawn tune: whatever the bytes (at most 1048576), a valid tune of at most eleven notes.
-/
import Derived.Test.YtjcaamnojinnmaaSortN
import Derived.Test.YtjcaamnojinnmaaDrawMore
namespace Go.Proofs.Ytjcaamnojinnmaa
open Go.RowKit

def drawnNote (p : Int × Int) : Prop := 0 ≤ p.1 ∧ p.1 ≤ 15 ∧ 10 ≤ p.2 ∧ p.2 ≤ 19
/-- a drawn tune -/
def Tune12 (l : List (Int × Int)) : Prop := tuneB l = true ∧ l.length ≤ 11 ∧ ∀ p ∈ l, drawnNote p
theorem tune12_of {l : List (Int × Int)} (h : l.length ≤ 11) (hb : ∀ p ∈ l, drawnNote p) : Tune12 (sortN l) := by
  have hl := sort_len l
  have hm : ∀ p ∈ sortN l, drawnNote p := fun p hp => hb p (sort_mem hp)
  refine ⟨tune_of (sort_asc l) (by omega) fun p hp => ?_, by omega, hm⟩
  have := hm p hp
  unfold drawnNote at this
  omega

set_option maxHeartbeats 800000 in
theorem l02Tune_any (B g : Nat) (A : Option Addr) (n c : Nat) (bs : List Int) (w : World) (h : Cur w B g A n c bs) (hBs : B ≤ w.heap.size) :
    Calls Try.prog 59 #[.pointer (some ⟨g, 0, none⟩)] w fun e w' => ∃ (l : List (Int × Int)) (A' : Option Addr) (c' : Nat), e = .returned (.slice A' l.length c') ∧ Tune12 l ∧ w'.ownsRow w.heap.size 67 2 (.slice A' l.length c') l.length (pc l) ∧ Cur w' B g A n c bs ∧ w.grownBy w' (some g) := by
  have hlt := h.lt
  obtain ⟨hBg, hgw⟩ := hlt
  have H := Lib.hid (h.alloc hBs (.cells #[] 67))
  have OE := Lib.hid (own_empty w 67 2 w.heap.size (Nat.le_refl _))
  clear h
  go_enter Try.func59, Try.ntmps59
  go_wp2_with fail
  refine (l01Below_any _ _ _ _ _ _ _ _ H.out (by omega)).mono ?_
  rintro e w1 ⟨m, rfl, ⟨m0, m1, _⟩, hc1, hg1⟩
  have m1 := m1 (by omega)
  obtain ⟨m, rfl⟩ := Int.eq_ofNat_of_zero_le m0
  have O1 := Lib.hid (own_grown OE.out hg1 hgw)
  have G1 : w.grownBy w1 (some g) := grown_two (grown_alloc (grown_refl w _) _) hg1
  have HC1 := Lib.hid hc1
  clear hc1 hg1
  go_wp2
  go_loopw [3, 5] (fun v i wr => ∃ (k : Nat) (l : List (Int × Int)), k ≤ m ∧ i = .int .i64 k ∧ Hid (l.length = k ∧ ∀ p ∈ l, drawnNote p) ∧ Cur wr B g A n c bs ∧ wr.ownsRow w.heap.size 67 2 v k (pc l) ∧ w.grownBy wr (some g)) (fun _ i _ => m - (intOf i).toNat)
  case atStart => exact ⟨0, [], Nat.zero_le _, rfl, ⟨rfl, by simp⟩, HC1.out, O1.out, G1⟩
  case round =>
    obtain ⟨k, l, hk, rfl, hl, hcu, hown, hgr⟩ := hrel
    by_cases hlt : (k : Int) < m
    · have HO := Lib.hid hown
      have HCU := Lib.hid hcu
      have hzr := hgr.size
      clear hown hcu
      go_wp2_with fail
      refine (l01Below_any _ _ _ _ _ _ _ _ HCU.out (by omega)).mono ?_
      rintro e w2 ⟨x, rfl, ⟨a1, a2, _⟩, hc2, hg2⟩
      have a2 := a2 (by omega)
      have O2 := Lib.hid (own_grown HO.out hg2 hgw)
      have G2 := grown_two hgr hg2
      have HC2 := Lib.hid hc2
      clear hc2 hg2 hgr
      go_wp2_with fail
      refine (l01Below_any _ _ _ _ _ _ _ _ HC2.out (by omega)).mono ?_
      rintro e w3 ⟨y, rfl, ⟨b1, b2, _⟩, hc3, hg3⟩
      have b2 := b2 (by omega)
      have O3 := Lib.hid (own_grown O2.out hg3 hgw)
      have G3 := grown_two G2 hg3
      have hz3 := G3.size
      have HC3 := Lib.hid hc3
      clear hc3 hg3 G2
      go_wp2_with (at_builtin; refine wpList_app_Note (w := w3) (W := w3) rfl (.tmp 14) (.tmp 21) rfl w.heap.size _ _ l x (10 + y) rfl O3.out (by simp [go_sem]) (by omega) hz3 (Below.refl _ _) ?_; intro v' w' hown' hg' hbl')
      have HO' := Lib.hid hown'
      clear hown' hg'
      go_roundw
      case rel =>
        refine ⟨k + 1, l ++ [(x, 10 + y)], by omega, by go_num, ⟨by simp [hl.out.1], ?_⟩, HC3.out.below hbl' hgw hBs, HO'.out, grown_below G3 hbl' (Nat.le_refl _)⟩
        intro p hp
        rcases List.mem_append.1 hp with hp | hp
        · exact hl.out.2 p hp
        · rw [List.mem_singleton.1 hp]
          unfold drawnNote
          simp only
          omega
      case measure => simp [intOf] <;> omega
    · obtain rfl : k = m := by omega
      have HO := Lib.hid hown
      clear hown
      obtain ⟨A', c', rfl⟩ := own_shape HO.out
      obtain ⟨hl1, hl2⟩ := hl.out
      have HT := Lib.hid (tune12_of (by omega) hl2)
      have HCU := Lib.hid hcu
      have hk40 : k ≤ 40 := by omega
      clear hl1 hl2 hcu
      go_wp2_with fail
      refine (sSortNotes _ _ _ l _ (Rd.of_own HO.out) hk40).mono ?_
      rintro e w2 ⟨A2, c2, rfl, ho2, hb2⟩
      have O2 := Lib.hid ho2
      clear ho2
      go_wp2
      go_ret
      have hz := hgr.size
      exact ⟨_, A2, c2, rfl, HT.out, own_base O2.out hz, HCU.out.below hb2 (by omega) (by omega), grown_below hgr hb2 hz⟩

end Go.Proofs.Ytjcaamnojinnmaa
