/-
  The reference's l06Copy: a cylinder with pins of its own.
-/
import Derived.Test.YtjklobhnidbinaaShiftNo
import Derived.Test.YtjklobhnidbinaaRowPin
namespace Go.Proofs.Ytjklobhnidbinaa
open Go.RowKit

/-- a cylinder that a call made, its row at an address of its own -/
def OwnC (w : World) (s t : Int) (xs : List (Int × Int)) (E : Ending) (w' : World) : Prop :=
  ∃ g c, E = .returned (.agg #[.int .i64 s, .int .i64 t, .slice (some ⟨g, 0, none⟩) xs.length c]) ∧ w'.ownsRow w.heap.size 50 2 (.slice (some ⟨g, 0, none⟩) xs.length c) xs.length (pc xs) ∧ Below w.heap.size w w'

set_option maxHeartbeats 1000000 in
theorem sCopyCyl (s t : Int) (A : Option Addr) (n c : Nat) (xs : List (Int × Int)) (w : World) (h : Rd w w.heap.size 2 A n (pc xs)) (hn : n ≤ 1048576) :
    Calls Try.prog 37 #[.agg #[.int .i64 s, .int .i64 t, .slice A n c]] w (OwnC w s t xs) := by
  have hlen := h.pair
  have HL := Lib.hid hlen
  have B2 := Lib.hid (two_below w (.cells #[.int .i64 s, .int .i64 t, .slice A n c] 28) (.cells #[.int .i64 0, .int .i64 0, .slice none 0 0] 28))
  have J0 := Lib.hid (blk_first w 28 #[.int .i64 s, .int .i64 t, .slice A n c] (.cells #[.int .i64 0, .int .i64 0, .slice none 0 0] 28))
  have K0 := Lib.hid (blk_second w (.cells #[.int .i64 s, .int .i64 t, .slice A n c] 28) 28 #[.int .i64 0, .int .i64 0, .slice none 0 0])
  have H := Lib.hid h
  have hni : (n : Int) ≤ 1048576 := by omega
  obtain ⟨w2, hw2⟩ : ∃ w2, w2 = (w.alloc (.cells #[.int .i64 s, .int .i64 t, .slice A n c] 28)).alloc (.cells #[.int .i64 0, .int .i64 0, .slice none 0 0] 28) := ⟨_, rfl⟩
  have z2 : w2.heap.size = w.heap.size + 2 := by rw [hw2]; simp
  rw [← hw2] at B2 J0 K0
  have HZ2 := Lib.hid z2
  have HW2 := Lib.hid hw2
  clear h hlen z2 hw2
  go_enter Try.func37, Try.ntmps37
  go_wp2
  rw [← HW2.out]
  clear HW2
  have HR := Lib.hid ((H.out.below B2.out).alloc B2.out.size (.cells #[] 50))
  have OE := Lib.hid (own_empty w2 50 2 w2.heap.size (Nat.le_refl _))
  have JE := Lib.hid (J0.out.alloc (.cells #[] 50))
  have KE := Lib.hid (K0.out.alloc (.cells #[] 50))
  have BE := Lib.hid (B2.out.alloc B2.out.size (.cells #[] 50))
  obtain ⟨x0, x1, x2⟩ := J0.out.c3
  obtain ⟨y0, y1, y2⟩ := JE.out.c3
  have zz : w.heap.size + 1 < w2.heap.size := by have := HZ2.out; omega
  go_region_held3 (fun w' => w'.cell? ⟨w.heap.size, 0, none⟩ = some (.int .i64 s) ∧ w'.cell? ⟨w.heap.size, 1, none⟩ = some (.int .i64 t) ∧ w'.cell? ⟨w.heap.size, 2, none⟩ = some (.slice A n c)) (first | exact ⟨x0, x1, x2⟩ | exact ⟨y0, y1, y2⟩ | exact ⟨z0, z1, z2⟩ | exact ⟨u0, u1, u2⟩) ((refine step_app_any (w := (w2.alloc (.cells #[] 50)).drew) (by rfl) (.tmp 7) (.tmp 9) (by rfl) w2.heap.size _ 0 0 w.heap.size [] xs A n c (by rfl) (own_drew1 OE.out) (by rfl) HR.out.drew (by omega) (by simp) ?_; intro g3 c3 w3 o3 hg3; rw [Nat.zero_add] at o3 ⊢; have J3 := (JE.out.drewN 1).grown hg3 (fun e => by injection e with e; omega); have K3 := (KE.out.drewN 1).grown hg3 (fun e => by injection e with e; omega); obtain ⟨z0, z1, z2⟩ := J3.c3; have k0 := K3.c3.1; have k1 := K3.c3.2.1; have k2 := K3.c3.2.2; have f0 := K3.frozen 0; have f1 := K3.frozen 1; have f2 := K3.frozen 2; have J4 := ((J3.far (p := ⟨w.heap.size + 1, 0, none⟩) (by simp) (.int .i64 s)).far (p := ⟨w.heap.size + 1, 1, none⟩) (by simp) (.int .i64 t)).far (p := ⟨w.heap.size + 1, 2, none⟩) (by simp) (.slice (some ⟨g3, 0, none⟩) n c3); obtain ⟨u0, u1, u2⟩ := J4.c3))
  all_goals
    have K4 := cyl_set (a := .int .i64 s) (b := .int .i64 t) (c := .slice (some ⟨g3, 0, none⟩) n c3) K3
    obtain ⟨r0, r1, r2⟩ := K4.c3
    have B3 := BE.out.drew.grown hg3 BE.out.size (fun k hk => by injection hk with hk; omega)
    have o4 := own_low (own_low (own_low o3 (p := ⟨w.heap.size + 1, 0, none⟩) (by simp; omega) (.int .i64 s)) (p := ⟨w.heap.size + 1, 1, none⟩) (by simp; omega) (.int .i64 t)) (p := ⟨w.heap.size + 1, 2, none⟩) (by simp; omega) (.slice (some ⟨g3, 0, none⟩) n c3)
    have O4 := Lib.hid (own_base o4 (show w.heap.size ≤ w2.heap.size by omega))
    have BF := Lib.hid (((B3.setCell (p := ⟨w.heap.size + 1, 0, none⟩) (by simp) (.int .i64 s)).setCell (p := ⟨w.heap.size + 1, 1, none⟩) (by simp) (.int .i64 t)).setCell (p := ⟨w.heap.size + 1, 2, none⟩) (by simp) (.slice (some ⟨g3, 0, none⟩) n c3))
    clear o3 o4 hg3 J3 K3 J4 K4 B3 x0 x1 x2 y0 y1 y2 z0 z1 z2 k0 k1 k2 f0 f1 f2 u0 u1 u2
    go_wp2
    refine bodyPost_ret (v := .agg #[.int .i64 s, .int .i64 t, .slice (some ⟨g3, 0, none⟩) n c3]) (by simp [results, Try.results37, go_sem, r0, r1, r2]) rfl ⟨g3, c3, ?_, ?_, BF.out⟩
    · rw [HL.out]
    · rw [HL.out]
      simpa using O4.out

end Go.Proofs.Ytjklobhnidbinaa
