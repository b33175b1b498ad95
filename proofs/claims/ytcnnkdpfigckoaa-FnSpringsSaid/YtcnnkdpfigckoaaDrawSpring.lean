/-
  The drawn spring: whatever the bytes (at most 1048576), it is a valid one.
-/
import Derived.Test.YtcnnkdpfigckoaaDraw
import Derived.Test.YtcnnkdpfigckoaaSpring
namespace Go.Proofs.Ytcnnkdpfigckoaa
open Go.RowKit

/-- a drawn spring's bounds -/
def drawnSpr (t m f : Int) : Prop := 1 ≤ m ∧ m ≤ 20 ∧ 0 ≤ t ∧ t ≤ m ∧ 1 ≤ f ∧ f ≤ 598

set_option maxHeartbeats 400000 in
theorem l12Spring_any (B g : Nat) (A : Option Addr) (n c : Nat) (bs : List Int) (w : World) (h : Cur w B g A n c bs) (hBs : B ≤ w.heap.size) :
    Calls Try.prog 47 #[.pointer (some ⟨g, 0, none⟩)] w fun e w' => ∃ t m f : Int, e = .returned (.agg #[.int .i64 t, .int .i64 m, .int .i64 f]) ∧ drawnSpr t m f ∧ Cur w' B g A n c bs ∧ w.grownBy w' (some g) := by
  have hlt := h.lt
  have H := Lib.hid (h.alloc hBs (.cells #[.int .i64 0, .int .i64 0, .int .i64 0] 25))
  clear h
  go_enter Try.func47, Try.ntmps47
  go_wp2_with fail
  refine (l01Below_any _ _ _ _ _ _ _ _ H.out (by omega)).mono ?_
  rintro e w1 ⟨x1, rfl, ⟨a1, a2, _⟩, hc1, hg1⟩
  have a2 := a2 (by omega)
  have k1 := (Blk.new w 25 #[.int .i64 0, .int .i64 0, .int .i64 0]).grown hg1 (by simp; omega)
  go_wp2_with fail
  refine (l01Below_any _ _ _ _ _ _ _ _ hc1 (by omega)).mono ?_
  rintro e w2 ⟨x2, rfl, ⟨b1, b2, _⟩, hc2, hg2⟩
  have b2 := b2 (by omega)
  have k2 := k1.grown hg2 (by simp; omega)
  go_wp2_with fail
  refine (l01Below_any _ _ _ _ _ _ _ _ hc2 (by omega)).mono ?_
  rintro e w3 ⟨x3, rfl, ⟨c1, c2, _⟩, hc3, hg3⟩
  have c2 := c2 (by omega)
  have k3 := k2.grown hg3 (by simp; omega)
  obtain ⟨d0, d1, d2⟩ := k3.c3
  have f0 := k3.frozen 0
  have f1 := k3.frozen 1
  have f2 := k3.frozen 2
  go_wp2_with fail
  have K : Blk (((w3.setCell ⟨w.heap.size, 0, none⟩ (.int .i64 x2)).setCell ⟨w.heap.size, 1, none⟩ (.int .i64 (1 + x1))).setCell ⟨w.heap.size, 2, none⟩ (.int .i64 (1 + 3 * x3))) w.heap.size 25 #[.int .i64 x2, .int .i64 (1 + x1), .int .i64 (1 + 3 * x3)] := by
    simpa using (((k3.set_ 0 (.int .i64 x2)).set_ 1 (.int .i64 (1 + x1))).set_ 2 (.int .i64 (1 + 3 * x3)))
  obtain ⟨r0, r1, r2⟩ := K.c3
  refine bodyPost_ret (v := .agg #[.int .i64 x2, .int .i64 (1 + x1), .int .i64 (1 + 3 * x3)]) (by simp [results, Try.results47, go_sem, r0, r1, r2]) rfl ⟨_, _, _, rfl, ⟨by omega, by omega, by omega, by omega, by omega, by omega⟩, ?_, ?_⟩
  · exact ((hc3.set_ (by simp; omega) (by simp; omega) _).set_ (by simp; omega) (by simp; omega) _).set_ (by simp; omega) (by simp; omega) _
  · have g0 : w.grownBy w3 (some g) := grown_two (grown_two (grown_two (grown_alloc (grown_refl w _) _) hg1) hg2) hg3
    exact grown_new (grown_new (grown_new g0 (by simp) _) (by simp) _) (by simp) _

theorem DrawSpring_any (A : Option Addr) (n c : Nat) (bs : List Int) (w : World) (h : Rd w w.heap.size 1 A n (bs.map (Value.int .u8))) (hn : n ≤ 1048576) (hbs : ∀ x ∈ bs, 0 ≤ x ∧ x ≤ 255) :
    Calls Try.prog 31 #[.slice A n c] w fun e w' => ∃ t m f : Int, e = .returned (.agg #[.int .i64 t, .int .i64 m, .int .i64 f]) ∧ drawnSpr t m f ∧ Below w.heap.size w w' := by
  have H := Lib.hid ((h.alloc (Nat.le_refl _) (.cells #[.int .i64 0, .int .i64 0, .int .i64 0] 25)).more (B' := (w.alloc (.cells #[.int .i64 0, .int .i64 0, .int .i64 0] 25)).heap.size) (by simp))
  have HBS := Lib.hid hbs
  clear h hbs
  go_enter Try.func31, Try.ntmps31
  go_wp2_with fail
  refine (l01New_any _ _ _ _ _ H.out hn HBS.out).mono ?_
  rintro e w1 ⟨g, rfl, hc1, hb1⟩
  have k1 := (Blk.new w 25 #[.int .i64 0, .int .i64 0, .int .i64 0]).below hb1 (by simp)
  have z1 := hc1.lt
  simp at z1
  go_wp2_with fail
  refine (l12Spring_any _ _ _ _ _ _ _ hc1 (by simp; omega)).mono ?_
  rintro e w2 ⟨t, m, f, rfl, hd, hc2, hg2⟩
  have k2 := k1.grown hg2 (by simp; omega)
  obtain ⟨d0, d1, d2⟩ := k2.c3
  have f0 := k2.frozen 0
  have f1 := k2.frozen 1
  have f2 := k2.frozen 2
  go_wp2_with fail
  have K : Blk (((w2.setCell ⟨w.heap.size, 0, none⟩ (.int .i64 t)).setCell ⟨w.heap.size, 1, none⟩ (.int .i64 m)).setCell ⟨w.heap.size, 2, none⟩ (.int .i64 f)) w.heap.size 25 #[.int .i64 t, .int .i64 m, .int .i64 f] := by
    simpa using (((k2.set_ 0 (.int .i64 t)).set_ 1 (.int .i64 m)).set_ 2 (.int .i64 f))
  obtain ⟨r0, r1, r2⟩ := K.c3
  refine bodyPost_ret (v := .agg #[.int .i64 t, .int .i64 m, .int .i64 f]) (by simp [results, Try.results31, go_sem, r0, r1, r2]) rfl ⟨_, _, _, rfl, hd, ?_⟩
  have b1 : Below w.heap.size w w1 := ((Below.refl _ _).alloc (Nat.le_refl _) _).trans (hb1.mono (by simp))
  have b2 : Below w.heap.size w w2 := b1.grown hg2 b1.size (fun k hk => by injection hk with hk; omega)
  exact ((b2.setCell (by simp) _).setCell (by simp) _).setCell (by simp) _

end Go.Proofs.Ytcnnkdpfigckoaa
