/-
  GapAround and Disturbs of impl: how many pins of two valid cylinders disturb each other.
-/
import Derived.Test.YtjklobhnidbinaaMag
import Derived.Test.YtjklobhnidbinaaCylOk
import Derived.Test.YtjklobhnidbinaaShiftNo
namespace Go.Proofs.Ytjklobhnidbinaa
open Go.RowKit

theorem gap_abs (a b s : Int) : gapZ a b s = min (absZ (a - b)) (s - absZ (a - b)) := by
  unfold gapZ absZ
  have : (if a - b < 0 then -(a - b) else a - b) = max (a - b) (-(a - b)) := by split <;> omega
  rw [this]
theorem iGap (a b s : Int) (w : World) (hs : 4 ≤ s ∧ s ≤ 96) (ha : 0 ≤ a ∧ a ≤ s - 1) (hb : 0 ≤ b ∧ b ≤ s - 1) :
    Calls Try.prog 44 #[.int .i64 a, .int .i64 b, .int .i64 s] w fun e w' => e = .returned (.int .i64 (gapZ a b s)) ∧ w = w' := by
  obtain ⟨s0, s1⟩ := hs
  obtain ⟨a0, a1⟩ := ha
  obtain ⟨b0, b1⟩ := hb
  have W1 := Lib.hid (fun w => within_any s 1 1000 w)
  rw [inB_true (by omega)] at W1
  have W2 := Lib.hid (fun w => within_any a 0 (s - 1) w)
  rw [inB_true (by omega)] at W2
  have W3 := Lib.hid (fun w => within_any b 0 (s - 1) w)
  rw [inB_true (by omega)] at W3
  have MG := Lib.hid (fun w => magnitude_any (a - b) w (by omega) (by omega))
  rw [gap_abs]
  have hm0 : 0 ≤ absZ (a - b) ∧ absZ (a - b) ≤ 96 := by unfold absZ; omega
  obtain ⟨m0, m1⟩ := hm0
  obtain ⟨m, hm⟩ : ∃ m, m = absZ (a - b) := ⟨_, rfl⟩
  rw [← hm] at MG m0 m1 ⊢
  clear hm
  have hmin : min m (s - m) = m ∨ min m (s - m) = s - m := by omega
  by_cases hc : m ≤ s - m
  · rw [show min m (s - m) = m by omega]
    clear hmin
    go_enter Try.func44, Try.ntmps44
    go_wp2_with (first | ((with_reducible (go_at_call 33; refine (W1.out _).mono ?_; rintro e w' ⟨rfl, rfl⟩))) | ((with_reducible (go_at_call 33; refine (W2.out _).mono ?_; rintro e w' ⟨rfl, rfl⟩))) | ((with_reducible (go_at_call 33; refine (W3.out _).mono ?_; rintro e w' ⟨rfl, rfl⟩))) | (go_at_call 51; refine (MG.out _).mono ?_; rintro e w' ⟨rfl, rfl⟩))
    all_goals
      go_ret
      exact ⟨by first | rfl | exact ret_int (by omega), rfl⟩
  · rw [show min m (s - m) = s - m by omega]
    clear hmin
    go_enter Try.func44, Try.ntmps44
    go_wp2_with (first | ((with_reducible (go_at_call 33; refine (W1.out _).mono ?_; rintro e w' ⟨rfl, rfl⟩))) | ((with_reducible (go_at_call 33; refine (W2.out _).mono ?_; rintro e w' ⟨rfl, rfl⟩))) | ((with_reducible (go_at_call 33; refine (W3.out _).mono ?_; rintro e w' ⟨rfl, rfl⟩))) | (go_at_call 51; refine (MG.out _).mono ?_; rintro e w' ⟨rfl, rfl⟩))
    all_goals
      go_ret
      exact ⟨by first | rfl | exact ret_int (by omega), rfl⟩

theorem dist_snoc (s r : Int) (a b : List (Int × Int)) (p : Int × Int) : distL s r (a ++ [p]) b = distL s r a b + b.countP (hitQ s r p) := by simp [distL]
theorem take_ch2 {α : Type} {l : List α} {k : Nat} {y : α} (h : l[k]? = some y) : l.take (k + 1) = l.take k ++ [y] := by
  obtain ⟨hk, rfl⟩ := List.getElem?_eq_some_iff.1 h
  rw [List.take_succ_eq_append_getElem hk]
theorem count_snoc (f : Int × Int → Bool) (l : List (Int × Int)) (p : Int × Int) : (l ++ [p]).countP f = l.countP f + if f p = true then 1 else 0 := by
  rw [List.countP_append, List.countP_cons]; simp
theorem dist_le (s r : Int) (a b : List (Int × Int)) : distL s r a b ≤ a.length * b.length := by
  induction a with
  | nil => simp [distL]
  | cons p a ih =>
    rw [dist_cons, List.length_cons, Nat.succ_mul]
    have := List.countP_le_length (p := hitQ s r p) (l := b)
    omega

set_option maxHeartbeats 2000000 in
theorem iDisturbs (s t : Int) (A : Option Addr) (n c : Nat) (xs : List (Int × Int)) (t' : Int) (A' : Option Addr) (n' c' : Nat) (ys : List (Int × Int)) (r : Int) (w : World) (h : Rd w w.heap.size 2 A n (pc xs)) (h' : Rd w w.heap.size 2 A' n' (pc ys)) (hn : n ≤ 1048576) (hn' : n' ≤ 1048576) (ha : cylB s t xs = true) (hb : cylB s t' ys = true) (hr : 1 ≤ r ∧ r ≤ 96) :
    Calls Try.prog 27 #[.agg #[.int .i64 s, .int .i64 t, .slice A n c], .agg #[.int .i64 s, .int .i64 t', .slice A' n' c'], .int .i64 r] w fun e w' => e = .returned (.int .i64 (distL s r xs ys : Nat)) ∧ Below w.heap.size w w' := by
  obtain ⟨hr0, hr1⟩ := hr
  obtain ⟨⟨hs0, hs1⟩, _, hxl, hpb, _⟩ := cyl_iff.1 ha
  obtain ⟨_, _, hyl, hqb, _⟩ := cyl_iff.1 hb
  have hlx := h.pair
  have hly := h'.pair
  have HPB := Lib.hid hpb
  have HQB := Lib.hid hqb
  have LX := Lib.hid hlx
  have LY := Lib.hid hly
  have hni : (n : Int) ≤ 100 := by omega
  have hni' : (n' : Int) ≤ 100 := by omega
  have CA := Lib.hid (fun w h => iCylOk s t A n c xs w h hn)
  have CB := Lib.hid (fun w h => iCylOk s t' A' n' c' ys w h hn')
  rw [ha] at CA
  rw [hb] at CB
  have WR := Lib.hid (fun w => within_any r 1 96 w)
  rw [inB_true (by omega)] at WR
  have H := Lib.hid h
  have H' := Lib.hid h'
  have B2 := Lib.hid (two_below w (.cells #[.int .i64 s, .int .i64 t, .slice A n c] 28) (.cells #[.int .i64 s, .int .i64 t', .slice A' n' c'] 28))
  have KA := Lib.hid (blk_first w 28 #[.int .i64 s, .int .i64 t, .slice A n c] (.cells #[.int .i64 s, .int .i64 t', .slice A' n' c'] 28))
  have KB := Lib.hid (blk_second w (.cells #[.int .i64 s, .int .i64 t, .slice A n c] 28) 28 #[.int .i64 s, .int .i64 t', .slice A' n' c'])
  clear h h' ha hb hlx hly hpb hqb hxl hyl
  go_enter Try.func27, Try.ntmps27
  go_wp2_with fail
  refine (CA.out _ ((H.out.below B2.out).more B2.out.size)).mono ?_
  rintro e w1 ⟨rfl, hb1⟩
  have b1 := B2.out.trans (hb1.mono B2.out.size)
  have KA1 := Lib.hid (KA.out.below hb1 KA.out.lt)
  have KB1 := Lib.hid (KB.out.below hb1 KB.out.lt)
  obtain ⟨y0, y1, y2⟩ := KB1.out.c3
  clear hb1
  go_wp2_with fail
  refine (CB.out _ ((H'.out.below b1).more b1.size)).mono ?_
  rintro e w2 ⟨rfl, hb2⟩
  have b2 := b1.trans (hb2.mono b1.size)
  have KA2 := Lib.hid (KA1.out.below hb2 KA1.out.lt)
  have KB2 := Lib.hid (KB1.out.below hb2 KB1.out.lt)
  clear hb2 y0 y1 y2
  obtain ⟨x0, x1, x2⟩ := KA2.out.c3
  obtain ⟨y0, y1, y2⟩ := KB2.out.c3
  have hss : (s != s) = false := by simp
  go_wp2_with (go_at_call 33; refine (WR.out _).mono ?_; rintro e w' ⟨rfl, rfl⟩)
  clear hss x0 x1 x2 y0 y1 y2
  go_loopw [7, 35] (fun q i wr => ∃ k : Nat, k ≤ n ∧ i = .int .i64 k ∧ q = .int .i64 (distL s r (xs.take k) ys : Nat) ∧ Blk wr w.heap.size 28 #[.int .i64 s, .int .i64 t, .slice A n c] ∧ Blk wr (w.heap.size + 1) 28 #[.int .i64 s, .int .i64 t', .slice A' n' c'] ∧ Below w.heap.size w wr) (fun _ i _ => n - (intOf i).toNat)
  case atStart => exact ⟨0, Nat.zero_le _, rfl, by simp [distL], KA2.out, KB2.out, b2⟩
  case round =>
    obtain ⟨k, hk, rfl, rfl, hA, hB, hbl⟩ := hrel
    have HA := Lib.hid hA
    have HB := Lib.hid hB
    have za := hA.lt
    have zb := hB.lt
    clear hA hB
    obtain ⟨D, hD⟩ : ∃ D, D = distL s r (xs.take k) ys := ⟨_, rfl⟩
    have hDb : (D : Int) ≤ 10000 := by
      have h1 := dist_le s r (xs.take k) ys
      have h2 : (xs.take k).length ≤ 100 := by have := List.length_take_le k xs; omega
      have h3 : ys.length ≤ 100 := by have := LY.out; omega
      have h4 := Nat.mul_le_mul h2 h3
      omega
    rw [← hD]
    by_cases hlt : (k : Int) < n
    · obtain ⟨b, o, hAe, hbB, hcell⟩ := H.out.pairAt (by omega)
      obtain ⟨⟨x, y⟩, hx⟩ : ∃ p, xs[k]? = some p := ⟨_, List.getElem?_eq_getElem (by rw [LX.out]; omega)⟩
      obtain ⟨g0, g1⟩ := hcell k _ hx
      obtain ⟨_, _, py0, py1⟩ := HPB.out _ (List.mem_of_getElem? hx)
      simp only at py0 py1
      subst hAe
      have c0 : wr.cell? ⟨b, o + k * 2, none⟩ = some (.int .i64 x) := (hbl.cell (p := ⟨b, o + k * 2, none⟩) hbB).trans g0
      have c1 : wr.cell? ⟨b, o + k * 2 + 1, none⟩ = some (.int .i64 y) := (hbl.cell (p := ⟨b, o + k * 2 + 1, none⟩) hbB).trans g1
      have hst : distL s r (xs.take (k + 1)) ys = D + ys.countP (hitQ s r (x, y)) := by rw [take_ch2 hx, dist_snoc, hD]
      have HST := Lib.hid hst
      obtain ⟨_, _, e2⟩ := (HB.out.alloc (.cells #[.int .i64 x, .int .i64 y] 50)).c3
      have HP0 := Lib.hid (Blk.new wr 50 #[.int .i64 x, .int .i64 y])
      have HA0 := Lib.hid (HA.out.alloc (.cells #[.int .i64 x, .int .i64 y] 50))
      have HB0 := Lib.hid (HB.out.alloc (.cells #[.int .i64 x, .int .i64 y] 50))
      have BL0 := Lib.hid (hbl.alloc hbl.size (.cells #[.int .i64 x, .int .i64 y] 50))
      clear hD hcell g0 g1 hx hst
      go_wp2
      clear e2 c0 c1
      obtain ⟨gp, hgp⟩ : ∃ gp, gp = wr.heap.size := ⟨_, rfl⟩
      obtain ⟨wo, hwo⟩ : ∃ wo, wo = wr.alloc (.cells #[.int .i64 x, .int .i64 y] 50) := ⟨_, rfl⟩
      rw [← hwo] at HP0 HA0 HB0 BL0 ⊢
      rw [← hgp] at HP0 ⊢
      clear hwo hgp HA HB hbl za zb
      go_loopw [7, 42] (fun q i wr => ∃ j : Nat, j ≤ n' ∧ i = .int .i64 j ∧ q = .int .i64 ((D + (ys.take j).countP (hitQ s r (x, y)) : Nat) : Int) ∧ Blk wr gp 50 #[.int .i64 x, .int .i64 y] ∧ Blk wr w.heap.size 28 #[.int .i64 s, .int .i64 t, .slice (some ⟨b, o, none⟩) n c] ∧ Blk wr (w.heap.size + 1) 28 #[.int .i64 s, .int .i64 t', .slice A' n' c'] ∧ Below w.heap.size w wr) (fun _ i _ => n' - (intOf i).toNat)
      case atStart => exact ⟨0, Nat.zero_le _, rfl, by simp, HP0.out, HA0.out, HB0.out, BL0.out⟩
      case round =>
        obtain ⟨j, hj, rfl, rfl, hP, hA, hB, hbl⟩ := hrel
        have HP := Lib.hid hP
        have HA := Lib.hid hA
        have HB := Lib.hid hB
        clear hP hA hB
        by_cases hjt : (j : Int) < n'
        · obtain ⟨b', o', hAe, hbB', hcell⟩ := H'.out.pairAt (by omega)
          obtain ⟨⟨u, v⟩, hz⟩ : ∃ p, ys[j]? = some p := ⟨_, List.getElem?_eq_getElem (by rw [LY.out]; omega)⟩
          obtain ⟨g0, g1⟩ := hcell j _ hz
          obtain ⟨_, _, qy0, qy1⟩ := HQB.out _ (List.mem_of_getElem? hz)
          simp only at qy0 qy1
          subst hAe
          have c0 : wr.cell? ⟨b', o' + j * 2, none⟩ = some (.int .i64 u) := (hbl.cell (p := ⟨b', o' + j * 2, none⟩) hbB').trans g0
          have c1 : wr.cell? ⟨b', o' + j * 2 + 1, none⟩ = some (.int .i64 v) := (hbl.cell (p := ⟨b', o' + j * 2 + 1, none⟩) hbB').trans g1
          have hst : (ys.take (j + 1)).countP (hitQ s r (x, y)) = (ys.take j).countP (hitQ s r (x, y)) + if hitQ s r (x, y) (u, v) = true then 1 else 0 := by rw [take_ch2 hz, count_snoc]
          have hcb : (ys.take j).countP (hitQ s r (x, y)) ≤ 100 := by
            have h1 := List.countP_le_length (p := hitQ s r (x, y)) (l := ys.take j)
            have h2 := List.length_take_le j ys
            omega
          obtain ⟨C, hC⟩ : ∃ C, C = (ys.take j).countP (hitQ s r (x, y)) := ⟨_, rfl⟩
          rw [← hC] at hst hcb ⊢
          have hCi : (C : Int) ≤ 100 := by omega
          have HST2 := Lib.hid hst
          have GAP := Lib.hid (fun w => iGap y v s w ⟨hs0, hs1⟩ ⟨py0, py1⟩ ⟨qy0, qy1⟩)
          obtain ⟨gz, hgz⟩ : ∃ gz, gz = gapZ y v s := ⟨_, rfl⟩
          rw [← hgz] at GAP
          have HGZ := Lib.hid hgz
          have PA := HP.out.alloc (.cells #[.int .i64 u, .int .i64 v] 50)
          have AA := HA.out.alloc (.cells #[.int .i64 u, .int .i64 v] 50)
          have BA := HB.out.alloc (.cells #[.int .i64 u, .int .i64 v] 50)
          obtain ⟨p0, p1⟩ := PA.c2
          obtain ⟨s0', _, _⟩ := AA.c3
          have HPA := Lib.hid PA
          have HAA := Lib.hid AA
          have HBA := Lib.hid BA
          have BL1 := Lib.hid (hbl.alloc hbl.size (.cells #[.int .i64 u, .int .i64 v] 50))
          clear hC hcb hst hcell g0 g1 hz hgz PA AA BA hbl
          by_cases hxu : x = u
          · have hq1 : (x == u) = true := by simpa using hxu
            by_cases hgr : gz < r
            · have hh : hitQ s r (x, y) (u, v) = true := by unfold hitQ; rw [decide_eq_true hxu, decide_eq_true (show gapZ y v s < r by rw [← HGZ.out]; exact hgr)]; rfl
              have HH := Lib.hid hh
              clear hh hxu
              go_wp2_with (go_at_call 44; refine (GAP.out _).mono ?_; rintro e w' ⟨rfl, rfl⟩)
              go_roundw
              case rel => exact ⟨j + 1, by omega, by go_num, by rw [HST2.out, if_pos HH.out]; go_num, HPA.out, HAA.out, HBA.out, BL1.out⟩
              case measure => simp [intOf] <;> omega
            · have hh : hitQ s r (x, y) (u, v) = false := by unfold hitQ; rw [decide_eq_false (show ¬ gapZ y v s < r by rw [← HGZ.out]; exact hgr), Bool.and_false]
              have HH := Lib.hid hh
              clear hh hxu
              go_wp2_with (go_at_call 44; refine (GAP.out _).mono ?_; rintro e w' ⟨rfl, rfl⟩)
              go_roundw
              case rel => exact ⟨j + 1, by omega, by go_num, by rw [HST2.out, if_neg (by rw [HH.out]; simp)]; rfl, HPA.out, HAA.out, HBA.out, BL1.out⟩
              case measure => simp [intOf] <;> omega
          · have hq1 : (x == u) = false := by simpa using hxu
            have hh : hitQ s r (x, y) (u, v) = false := by unfold hitQ; rw [decide_eq_false hxu, Bool.false_and]
            have HH := Lib.hid hh
            clear hh hxu
            go_wp2
            go_roundw
            case rel => exact ⟨j + 1, by omega, by go_num, by rw [HST2.out, if_neg (by rw [HH.out]; simp)]; rfl, HPA.out, HAA.out, HBA.out, BL1.out⟩
            case measure => simp [intOf] <;> omega
        · obtain rfl : j = n' := by omega
          rw [List.take_of_length_le (by rw [LY.out]; exact Nat.le_refl _)]
          go_wp2
          go_roundw
          case rel => exact ⟨k + 1, by omega, by go_num, by rw [HST.out], HA.out, HB.out, hbl⟩
          case measure => simp [intOf] <;> omega
    · obtain rfl : k = n := by omega
      rw [List.take_of_length_le (by rw [LX.out]; exact Nat.le_refl _)] at hD
      have HD := Lib.hid hD
      clear hD
      go_wp2
      go_ret
      exact ⟨by rw [← HD.out]; rfl, hbl⟩

end Go.Proofs.Ytjklobhnidbinaa
