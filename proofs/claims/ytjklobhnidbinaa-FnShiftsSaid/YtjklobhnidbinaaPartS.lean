/-
  PartAt of spec: the pins of one shift, as a cylinder of their own.
-/
import Derived.Test.YtjklobhnidbinaaShiftNo
namespace Go.Proofs.Ytjklobhnidbinaa
open Go.RowKit

set_option maxHeartbeats 2000000 in
theorem sPartAt_yes (s t : Int) (A : Option Addr) (n c : Nat) (xs : List (Int × Int)) (d k : Int) (w : World) (h : Rd w w.heap.size 2 A n (pc xs)) (hn : n ≤ 1048576) (hyes : shiftB s t xs d k = true) :
    Calls Try.prog 9 #[.agg #[.int .i64 s, .int .i64 t, .slice A n c], .int .i64 d, .int .i64 k] w (MadeCO w (some (s, (t + d - 1) / d, partL d k xs))) := by
  obtain ⟨hq, ⟨hd0, hd1⟩, hk0, hk1⟩ := shiftB_iff.1 hyes
  obtain ⟨⟨hs0, hs1⟩, ⟨ht0, ht1⟩, hl100, hpb, hasc⟩ := cyl_iff.1 hq
  have hlen := h.pair
  have hni : (n : Int) ≤ 100 := by omega
  have H := Lib.hid h
  have HL := Lib.hid hlen
  have CO := Lib.hid (fun w h => sCylOk s t A n c xs w h hn)
  rw [hq] at CO
  have WD := Lib.hid (fun w => l01In_any d 1 20 w)
  rw [inB_true ⟨hd0, hd1⟩] at WD
  have WK := Lib.hid (fun w => l01In_any k 0 (d - 1) w)
  rw [inB_true ⟨hk0, hk1⟩] at WK
  have B2 := Lib.hid (two_below w (.cells #[.int .i64 s, .int .i64 t, .slice A n c] 28) (.cells #[.int .i64 0, .int .i64 0, .slice none 0 0] 28))
  have HK0 := Lib.hid (blk_second w (.cells #[.int .i64 s, .int .i64 t, .slice A n c] 28) 28 #[.int .i64 0, .int .i64 0, .slice none 0 0])
  have J0 := Lib.hid (blk_first w 28 #[.int .i64 s, .int .i64 t, .slice A n c] (.cells #[.int .i64 0, .int .i64 0, .slice none 0 0] 28))
  have HQ := Lib.hid hq
  clear h hlen hl100 hq hyes hpb hasc
  have hw1 : IntKind.i64.wrap (t + d) = t + d := IntWalk.i64_in _ (by omega)
  have hw2 : IntKind.i64.wrap (t + d - 1) = t + d - 1 := IntWalk.i64_in _ (by omega)
  obtain ⟨q, hqe⟩ : ∃ q, q = (t + d - 1) / d := ⟨_, rfl⟩
  have hw3 : IntKind.i64.wrap ((t + d - 1).tdiv d) = q := by rw [hqe]; exact IntWalk.i64_quo _ _ (by omega)
  rw [← hqe]
  clear hqe
  have hgz : ¬ d = 0 := by omega
  go_enter Try.func9, Try.ntmps9
  go_wp2_with fail
  refine (CO.out _ ((H.out.below B2.out).more B2.out.size)).mono ?_
  rintro e w1 ⟨rfl, hb1⟩
  have b1 := B2.out.trans (hb1.mono B2.out.size)
  have K1 := Lib.hid (HK0.out.below hb1 (by simp))
  have J1 := J0.out.below hb1 (by simp; omega)
  obtain ⟨j0, j1, j2⟩ := J1.c3
  have HJ1 := Lib.hid J1
  clear J1
  go_wp2_with (first | ((with_reducible (go_at_call 31; refine (WD.out _).mono ?_; rintro e w' ⟨rfl, rfl⟩))) | ((with_reducible (go_at_call 31; refine (WK.out _).mono ?_; rintro e w' ⟨rfl, rfl⟩))))
  have n0 := World.new_ne w1 _ j0
  have n1 := World.new_ne w1 _ j1
  go_region_held3 (fun w' => w'.cell? ⟨w.heap.size, 0, none⟩ = some (.int .i64 s) ∧ w'.cell? ⟨w.heap.size, 1, none⟩ = some (.int .i64 t)) (go_keep) (fail)
  clear hw1 hw2 hw3 n0 n1 j0 j1 j2
  have z1 : w.heap.size + 2 ≤ w1.heap.size := by have := hb1.size; simp at this; omega
  obtain ⟨g, hg⟩ : ∃ g, g = w1.heap.size := ⟨_, rfl⟩
  obtain ⟨wd, hwd⟩ : ∃ wd, wd = (w1.alloc (.cells #[.int .i64 s, .int .i64 q, .slice none 0 0] 28)).drew := ⟨_, rfl⟩
  have KD := Lib.hid ((Blk.new w1 28 #[.int .i64 s, .int .i64 q, .slice none 0 0]).drewN 1)
  have KR := Lib.hid ((K1.out.alloc (.cells #[.int .i64 s, .int .i64 q, .slice none 0 0] 28)).drewN 1)
  have KC := (HJ1.out.alloc (.cells #[.int .i64 s, .int .i64 q, .slice none 0 0] 28)).drewN 1
  have BD := Lib.hid (b1.alloc b1.size (.cells #[.int .i64 s, .int .i64 q, .slice none 0 0] 28)).drew
  change Hid (Blk (w1.alloc (.cells #[.int .i64 s, .int .i64 q, .slice none 0 0] 28)).drew w1.heap.size _ _) at KD
  change Hid (Blk (w1.alloc (.cells #[.int .i64 s, .int .i64 q, .slice none 0 0] 28)).drew _ _ _) at KR
  change Blk (w1.alloc (.cells #[.int .i64 s, .int .i64 q, .slice none 0 0] 28)).drew _ _ _ at KC
  rw [← hwd] at KD KR KC BD ⊢
  rw [← hg] at KD z1 ⊢
  have HKC := Lib.hid KC
  clear b1 hb1 K1 HJ1 hwd hg KC
  go_wp2
  go_loopw [9] (fun i wr => ∃ (j m : Nat) (v : Value), j ≤ n ∧ i = .int .i64 j ∧ Blk wr g 28 #[.int .i64 s, .int .i64 q, v] ∧ wr.ownsRow (g + 1) 50 2 v m (pc (partL d k (xs.take j))) ∧ Blk wr (w.heap.size + 1) 28 #[.int .i64 0, .int .i64 0, .slice none 0 0] ∧ Blk wr w.heap.size 28 #[.int .i64 s, .int .i64 t, .slice A n c] ∧ Below w.heap.size w wr) (fun i _ => n - (intOf i).toNat)
  case atStart => exact ⟨0, 0, _, Nat.zero_le _, rfl, KD.out, World.ownsRow_nil _ _ _ _, KR.out, HKC.out, BD.out⟩
  case round =>
    obtain ⟨j, m, v, hj, rfl, hD, ho, hR, hC, hbl⟩ := hrel
    have HC := Lib.hid hC
    obtain ⟨_, _, l2⟩ := hC.c3
    have zw := hC.lt
    have HD := Lib.hid hD
    have HO := Lib.hid ho
    have HR := Lib.hid hR
    obtain ⟨_, _, e2⟩ := hD.c3
    have zg := hD.lt
    have hm : m ≤ j := by
      have h1 := own_pair_len ho
      have h2 := partL_len d k (xs.take j)
      have h3 := List.length_take_le j xs
      omega
    clear hD ho hR hC
    by_cases hlt : (j : Int) < n
    · obtain ⟨b, o, rfl, hbB, hcell⟩ := H.out.pairAt (by omega)
      obtain ⟨⟨x, y⟩, hx⟩ : ∃ p, xs[j]? = some p := ⟨_, List.getElem?_eq_getElem (by rw [HL.out]; omega)⟩
      obtain ⟨g0, g1⟩ := hcell j _ hx
      obtain ⟨x0, x1, y0, y1⟩ := pin_lo HQ.out hx
      simp only at x0 x1 y0 y1
      have c0 : wr.cell? ⟨b, o + j * 2, none⟩ = some (.int .i64 x) := (hbl.cell (p := ⟨b, o + j * 2, none⟩) hbB).trans g0
      have c1 : wr.cell? ⟨b, o + j * 2 + 1, none⟩ = some (.int .i64 y) := (hbl.cell (p := ⟨b, o + j * 2 + 1, none⟩) hbB).trans g1
      have hst := part_step (d := d) (k := k) hx
      clear hcell g0 g1 hx
      by_cases hmk : x % d = k
      · rw [if_pos hmk] at hst
        have HST := Lib.hid hst
        have hb : (x % d == k) = true := by simpa using hmk
        clear hst hmk
        have hw4 : IntKind.i64.wrap (x.tdiv d) = x / d := IntWalk.i64_quo _ _ (by omega)
        have n0 := World.new_ne wr _ c0
        have n1 := World.new_ne wr _ c1
        have n2 := World.new_ne wr _ e2
        have n3 := World.new_ne wr _ l2
        go_wp2
        go_region_law ((refine step_app_Pin (w := wr) (W := wr) (by rfl) (.tmp 54) (.tmp 70) (by rfl) (g + 1) _ _ _ (x / d) y (by rfl) HO.out (by rfl) (by omega) (by omega) (Below.refl _ _) ?_; intro v' w' hown' hg' hbl'; obtain ⟨A', c', rfl⟩ := own_shape hown'; have KX := HD.out.grown hg' (own_ne HO.out (by omega)); have e2b := KX.c3.2.2; have f2b := KX.frozen 2; have q2b := KX.put 2 (by simp)))
        all_goals
          have HKX := Lib.hid (KX.set_ 2 (.slice A' (m + 1) c'))
          have HO2 := Lib.hid (own_low hown' (p := ⟨g, 2, none⟩) (by simp) (.slice A' (m + 1) c'))
          have HR2 := Lib.hid ((HR.out.grown hg' (own_ne HO.out (by omega))).far (p := ⟨g, 2, none⟩) (by simp; omega) (.slice A' (m + 1) c'))
          have HC2 := Lib.hid ((HC.out.grown hg' (own_ne HO.out (by omega))).far (p := ⟨g, 2, none⟩) (by simp; omega) (.slice A' (m + 1) c'))
          have BL := Lib.hid ((hbl.grown hg' hbl.size (fun q hq => by have := (HO.out.lt q hq).1; omega)).setCell (p := ⟨g, 2, none⟩) (by simp; omega) (.slice A' (m + 1) c'))
          clear hown' hg' hbl' KX e2b f2b q2b
          go_wp2
          go_roundw
          case rel => exact ⟨j + 1, m + 1, _, by omega, by go_num, by simpa using HKX.out, by rw [HST.out]; exact HO2.out, HR2.out, HC2.out, BL.out⟩
          case measure => simp [intOf]; omega
      · rw [if_neg hmk] at hst
        have HST := Lib.hid hst
        have hb : (x % d == k) = false := by simpa using hmk
        clear hst hmk
        go_wp2
        go_roundw
        case rel => exact ⟨j + 1, m, v, by omega, by go_num, HD.out, by rw [HST.out]; exact HO.out, HR.out, HC.out, hbl⟩
        case measure => simp [intOf]; omega
    · obtain rfl : j = n := by omega
      rw [List.take_of_length_le (by rw [HL.out]; exact Nat.le_refl _)] at HO
      obtain ⟨r0, r1, r2⟩ := HR.out.c3
      have f0 := HR.out.frozen 0
      have f1 := HR.out.frozen 1
      have f2 := HR.out.frozen 2
      obtain ⟨A', c', rfl⟩ := own_shape HO.out
      obtain ⟨e0, e1, e2'⟩ := HD.out.c3
      go_wp2
      have KF := cyl_set (a := .int .i64 s) (b := .int .i64 q) (c := .slice A' m c') HR.out
      obtain ⟨r0, r1, r2⟩ := KF.c3
      refine bodyPost_ret (v := .tuple #[.agg #[.int .i64 s,   .int .i64 q, .slice A' m c'], .bool true]) (by simp [results, Try.results9, go_sem, r0, r1, r2]) rfl (madeCO_yes (own_base (own_low (own_low (own_low HO.out (by simp; omega) _) (by simp; omega) _) (by simp; omega) _) (by omega)) ?_)
      exact ((hbl.setCell (by simp) _).setCell (by simp) _).setCell (by simp) _

end Go.Proofs.Ytjklobhnidbinaa
