/-
  The law FnGears, walked: a train that is turned around divides what it multiplied. True for all bytes.
-/
import Derived.Test.YtiecjmnaphfeaaaTurn
import Derived.Test.YtiecjmnaphfeaaaGearB
import Derived.Test.YtiecjmnaphfeaaaDrawGear
import Derived.Deep.DeepCutAuto
import Derived.Deep.RegionHeld3
namespace Go.Proofs.Ytiecjmnaphfeaaa
open Go.RowKit

theorem train3_ok {l : List (Int × Int)} (h : Train3 l) : trainB l = true :=
  trainB_iff.2 ⟨by have := h.1; omega, fun g hg => gearB_iff.2 (by have := h.2 g hg; unfold drawnGear at this; omega)⟩
/-- a train's slice, in a world in which nothing of W has turned -/
def GI (W : World) (A : Option Addr) (n c : Nat) (xs : List (Int × Int)) (w : World) : Prop := w.ownsRow W.heap.size 25 2 (.slice A n c) n (pc xs) ∧ Below W.heap.size W w
theorem GI.step {W w w' : World} {A : Option Addr} {n c : Nat} {xs : List (Int × Int)} (h : GI W A n c xs w) (hb : Below w.heap.size w w') : GI W A n c xs w' :=
  ⟨own_below h.1 hb, h.2.trans (hb.mono h.2.size)⟩
theorem GI.drew {W w : World} {A : Option Addr} {n c : Nat} {xs : List (Int × Int)} (h : GI W A n c xs w) : GI W A n c xs w.drew := ⟨own_drew1 h.1, h.2.drew⟩
theorem GI.alloc {W w : World} {A : Option Addr} {n c : Nat} {xs : List (Int × Int)} (h : GI W A n c xs w) (o : Obj) : GI W A n c xs (w.alloc o) := ⟨h.1.alloc o, h.2.alloc h.2.size o⟩
theorem GI.not_new {W w : World} {A : Option Addr} {n c : Nat} {xs : List (Int × Int)} (h : GI W A n c xs w) : Value.ownBlock (.slice A n c) = none ∨ Value.ownBlock (.slice A n c) ≠ some w.heap.size := by
  cases e : Value.ownBlock (.slice A n c) with
  | none => exact Or.inl rfl
  | some q => right; intro k; injection k with k; have := (h.1.lt q e).2; omega
theorem GI.set_ {W w : World} {A : Option Addr} {n c g i : Nat} {u : Value} {xs : List (Int × Int)} (h : GI W A n c xs w) (hq : Value.ownBlock (.slice A n c) = none ∨ Value.ownBlock (.slice A n c) ≠ some g) (hg : W.heap.size ≤ g) : GI W A n c xs (w.setCell ⟨g, i, none⟩ u) :=
  ⟨h.1.kept (grown_set1 u) hq, h.2.setCell hg _⟩
theorem GI.rd {W w : World} {A : Option Addr} {n c : Nat} {xs : List (Int × Int)} (h : GI W A n c xs w) : Rd w w.heap.size 2 A n (pc xs) := Rd.of_own h.1
theorem turns_yes {xs : List (Int × Int)} (h : trainB xs = true) {j : Int} (h0 : 0 ≤ j) (hk : j * ratBot xs ≤ 1000000) : turnsV xs (j * ratBot xs) = .tuple #[.int .i64 (j * ratTop xs), .bool true] := by
  have hp := rat_pos h
  have e1 : j * ratBot xs * ratTop xs = j * ratTop xs * ratBot xs := by rw [Int.mul_assoc, Int.mul_comm (ratBot xs), ← Int.mul_assoc]
  unfold turnsV
  rw [if_pos, e1, Int.mul_ediv_cancel _ (by omega)]
  unfold TurnsB
  rw [h, e1, Int.mul_emod_left, inB_true ⟨Int.mul_nonneg h0 (by omega), hk⟩]
  rfl
theorem turns_out {xs : List (Int × Int)} {k : Int} (hk : 1000000 < k) : turnsV xs k = .tuple #[.int .i64 0, .bool false] := by
  unfold turnsV
  rw [if_neg]
  unfold TurnsB
  rw [inB_false (by omega)]
  simp
theorem turns_less {xs : List (Int × Int)} (h : trainB xs = true) {k : Int} (h0 : 0 < k) (hk : k < ratBot xs) : turnsV xs k = .tuple #[.int .i64 0, .bool false] := by
  have := no_less h h0 hk
  unfold turnsV
  rw [if_neg]
  unfold TurnsB
  simp [this]
theorem ratV_swap (xs : List (Int × Int)) : ratV (swapL xs) = .tuple #[.int .i64 (ratBot xs), .int .i64 (ratTop xs)] := by
  unfold ratV
  rw [ratTop_swap, ratBot_swap]
/-- what GearsFor gives for a gear's own ratio -/
theorem gears_own {t b x y : Int} {ok : Bool} (h : GearsOf t b x y ok) (ht : 6 ≤ t ∧ t ≤ 44) (hb : 6 ≤ b ∧ b ≤ 63) : ok = true ∧ 6 ≤ x ∧ x ≤ t ∧ 6 ≤ y ∧ y ≤ 120 ∧ x * b = t * y := by
  unfold GearsOf at h
  rw [if_pos ⟨inB_true (by omega), inB_true (by omega)⟩] at h
  have e : b * t = t * b := Int.mul_comm _ _
  rcases h with ⟨rfl, h1, h2, h3, h4, h5, h6⟩ | ⟨rfl, rfl, rfl, h6⟩
  · refine ⟨rfl, h1, ?_, h3, h4, by rw [← h5, Int.mul_comm]⟩
    rcases Int.lt_or_le t x with hlt | hle
    · exact absurd e (h6 t b (by omega) hlt (by omega) (by omega))
    · exact hle
  · exact absurd e (h6 t b (by omega) (by omega) (by omega) (by omega))
theorem gears_half {x y : Int} {ok : Bool} (h : GearsOf 1 2 x y ok) : x = 6 ∧ y = 12 ∧ ok = true := by
  refine h.one ?_
  unfold GearsOf
  rw [if_pos ⟨inB_true (by omega), inB_true (by omega)⟩]
  exact Or.inl ⟨rfl, by omega, by omega, by omega, by omega, by omega, fun x' y' h1 h2 => by omega⟩
def GearAt (W : World) (A : Option Addr) (n c : Nat) (xs : List (Int × Int)) (t b : Int) (p q : Value) (w : World) : Prop :=
  ∃ (g : Nat) (x y : Int), p = .pointer (some ⟨g, 0, none⟩) ∧ q = .bool true ∧ Blk w g 25 #[.int .i64 x, .int .i64 y] ∧ 6 ≤ x ∧ x ≤ t ∧ 6 ≤ y ∧ y ≤ 120 ∧ x * b = t * y ∧ GI W A n c xs w

set_option maxHeartbeats 8000000 in
set_option maxRecDepth 100000 in
theorem fnGears_walk (W : World) (A : Option Addr) (n c : Nat) (bs : List Int) (r : Rd W W.heap.size 1 A n (bs.map (Value.int .u8))) (_l : bs.length = n) (_nc : n ≤ c) (_nm : n ≤ 9223372036854775807)
    (wb : ∀ x ∈ bs, (Lit.int .u8 x).wf = true) :
    Calls Try.prog 9 #[.slice A n c] W fun e w' => e = .returned (.bool true) ∧ Below W.heap.size W w' := by
  have hbs : ∀ x ∈ bs, 0 ≤ x ∧ x ≤ 255 := fun x hx => bounds_u8 (wb x hx)
  have R := Lib.hid r
  have HBS := Lib.hid hbs
  clear r hbs wb
  by_cases hn : n ≤ 1048576
  case neg =>
    have hb : decide (1048576 < n) = true := by simp; omega
    go_enter Try.func9, Try.ntmps9
    go_wp2_with (go_at_call 35; refine (big_any _ _ _ _).mono ?_; rintro e w' ⟨rfl, rfl⟩; rw [hb])
    go_ret
    exact ⟨rfl, Below.refl _ _⟩
  have hb : decide (1048576 < n) = false := by simp; omega
  have HB := Lib.hid hb
  clear hb
  go_enter Try.func9, Try.ntmps9
  go_wp2_with fail
  refine (big_any _ _ _ _).mono ?_
  rintro e w' ⟨rfl, rfl⟩
  rw [HB.out]
  go_wp2_with fail
  refine (DrawTrain_any _ _ _ _ _ R.out hn HBS.out).mono ?_
  rintro e w1 ⟨xs, hd, A1, c1, rfl, ho1, hb1⟩
  obtain ⟨N, hN⟩ : ∃ N, N = xs.length := ⟨_, rfl⟩
  rw [← hN] at ho1 ⊢
  have hN3 : N ≤ 3 := by rw [hN]; exact hd.1
  have hN4 : N ≤ 1048576 := by omega
  have ht := train3_ok hd
  have hp := rat_pos ht
  have HTR := Lib.hid (fun w (h : GI W A1 N c1 xs w) => iTrainRatio A1 N c1 xs w h.rd hN4)
  have HTT := Lib.hid (fun w (h : GI W A1 N c1 xs w) => iTurnTrain A1 N c1 xs w h.rd hN4)
  have HLW := Lib.hid (fun w (h : GI W A1 N c1 xs w) => iLeastWhole A1 N c1 xs w h.rd hN4)
  have HTO := Lib.hid (fun k w (h : GI W A1 N c1 xs w) => iTurnsOf A1 N c1 xs k w h.rd hN4)
  unfold MadeP at HTT
  rw [turnV_yes ht, show (swapL xs).length = N by rw [hN]; simp [swapL]] at HTT
  unfold ratV at HTR
  have T1 := Lib.hid (fun (h : 3 * ratBot xs ≤ 1000000) => turns_yes ht (j := 3) (by omega) h)
  have T2 := Lib.hid (fun (h : 1000000 < 3 * ratBot xs) => turns_out (xs := xs) h)
  have T3 := Lib.hid (fun (h : 3 * ratTop xs ≤ 1000000) => turns_yes (xs := swapL xs) (by rw [trainB_swap]; exact ht) (j := 3) (by omega) (by rw [ratBot_swap]; exact h))
  have T4 := Lib.hid (fun (h : 1000000 < 3 * ratTop xs) => turns_out (xs := swapL xs) h)
  have T5 := Lib.hid (fun (h : 1 < ratBot xs) => turns_less ht (k := ratBot xs - 1) (by omega) (by omega))
  have V1 := Lib.hid (ratV_swap xs)
  rw [ratBot_swap, ratTop_swap] at T3
  generalize ratTop xs = a at *
  generalize ratBot xs = b at *
  obtain ⟨a0, a1, b0, b1⟩ := hp
  have HD := Lib.hid hd.2
  have HNN := Lib.hid hN
  have I1 : GI W A1 N c1 xs w1 := ⟨ho1, hb1⟩
  clear hd ht hN ho1 hb1
  go_wp2_with fail
  refine (HTR.out _ I1).mono ?_
  rintro e w2 ⟨rfl, hb2⟩
  have I2 := I1.step hb2
  clear I1 hb2
  go_wp2_with fail
  refine (HTT.out _ I2).mono ?_
  rintro e w3 ⟨A3, c3, rfl, ho3, hb3⟩
  have I3 := I2.step hb3
  have J3 : GI W A3 N c3 (swapL xs) w3 := ⟨own_base ho3 I2.2.size, I3.2⟩
  clear I2 hb3 ho3
  go_wp2_with fail
  refine (iTrainRatio A3 N c3 (swapL xs) _ J3.rd hN4).mono ?_
  rintro e w4 ⟨rfl, hb4⟩
  rw [V1.out]
  have I4 := I3.step hb4
  have J4 := J3.step hb4
  clear I3 J3 hb4
  go_wp2_with fail
  refine (HLW.out _ I4).mono ?_
  rintro e w5 ⟨rfl, hb5⟩
  have I5 := I4.step hb5
  have J5 := J4.step hb5
  clear I4 J4 hb5
  by_cases h3 : 3 * b ≤ 1000000
  case neg =>
    have T := T2.out (by omega)
    have HT := Lib.hid T
    clear T
    go_wp2_with fail
    refine (HTO.out _ _ I5).mono ?_
    rintro e w6 ⟨rfl, hb6⟩
    rw [HT.out]
    have I6 := I5.step hb6
    clear I5 J5 hb6
    have T := T5.out (by omega)
    have HT := Lib.hid T
    clear T
    have hb2 : 1 < b := by omega
    go_wp2_with fail
    refine (HTO.out _ _ I6).mono ?_
    rintro e w8 ⟨rfl, hb8⟩
    rw [HT.out]
    have I8 := I6.step hb8
    clear I6 hb8
    go_wp2_with fail
    go_loopw [16] (fun i wr => ∃ k : Nat, k ≤ N ∧ i = .int .i64 k ∧ GI W A1 N c1 xs wr) (fun i _ => N - (intOf i).toNat)
    case atStart => exact ⟨0, Nat.zero_le _, rfl, I8⟩
    case round =>
      obtain ⟨k, hk, rfl, hI⟩ := hrel
      by_cases hlt : (k : Int) < N
      · obtain ⟨bb, o, rfl, hbB, hcell⟩ := hI.rd.pairAt (by omega)
        obtain ⟨⟨x, y⟩, hx⟩ : ∃ p, xs[k]? = some p := ⟨_, List.getElem?_eq_getElem (by rw [← HNN.out]; omega)⟩
        obtain ⟨d0, d1, d2, d3⟩ := HD.out _ (List.mem_of_getElem? hx)
        simp only at d0 d1 d2 d3
        obtain ⟨c0, c1'⟩ := hcell k _ hx
        have hgb : gearB x y = true := gearB_iff.2 (by omega)
        have HX := Lib.hid hx
        have HGB := Lib.hid hgb
        clear hcell hx hgb
        go_wp2_with fail
        refine (iGearOk _ _ _).mono ?_
        rintro e w10 ⟨rfl, hb10⟩
        rw [HGB.out]
        have I10 := hI.step hb10
        have e0 := (hb10.cell (p := ⟨bb, o + k * 2, none⟩) hbB).trans c0
        have e1 := (hb10.cell (p := ⟨bb, o + k * 2 + 1, none⟩) hbB).trans c1'
        have hbw : bb < w10.heap.size := by have := hb10.size; omega
        have E0 := Lib.hid e0
        have E1 := Lib.hid e1
        have I10h := Lib.hid I10
        clear hI hb10 I10
        go_upto_region 24 with fail
        go_cut [17, 18] (fun p q wx => GearAt W (some ⟨bb, o, none⟩) N c1 xs x y p q wx)
        case first =>
          have n0 := World.new_ne w10 _ e0
          have n1 := World.new_ne w10 _ e1
          go_wp2_with fail
          go_region_held3 (fun w' => w'.cell? ⟨bb, o + k * 2, none⟩ = some (.int .i64 x) ∧ w'.cell? ⟨bb, o + k * 2 + 1, none⟩ = some (.int .i64 y)) (first | go_keep | exact ⟨q0, q1⟩) ((go_at_call 33; refine (iGearsFor _ _ _).mono ?_; rintro e w11 ⟨u, v, ok, rfl, hgo, hb11⟩; have q0 := (hb11.cell (p := ⟨bb, o + k * 2, none⟩) (by first | exact hbw | (simp; omega))).trans (by first | exact E0.out | exact (World.cell?_alloc_lt _ _ _ hbw).trans E0.out); have q1 := (hb11.cell (p := ⟨bb, o + k * 2 + 1, none⟩) (by first | exact hbw | (simp; omega))).trans (by first | exact E1.out | exact (World.cell?_alloc_lt _ _ _ hbw).trans E1.out); obtain ⟨hcc, hff⟩ := bcell hb11))
          all_goals
            obtain ⟨rfl, u0, u1, v0, v1, huv⟩ := gears_own hgo ⟨d0, d1⟩ ⟨d2, d3⟩
            go_wp2_with fail
            go_meet
            first
              | exact ⟨w11.heap.size, u, v, rfl, rfl, Blk.new _ _ _, u0, u1, v0, v1, huv, ((I10h.out.drew).step hb11).alloc _⟩
              | (refine ⟨w10.heap.size, u, v, rfl, rfl, ?_, u0, u1, v0, v1, huv, ((((I10h.out.drew).alloc _).step hb11).set_ (I10h.out.not_new) I10h.out.2.size).set_ (I10h.out.not_new) I10h.out.2.size⟩
                 have := (((Blk.new w10.drew 25 #[.int .i64 0, .int .i64 0]).below hb11 (by simp)).set_ 0 (.int .i64 u)).set_ 1 (.int .i64 v)
                 simpa using this)
        case rest =>
          obtain ⟨g, u, v, rfl, rfl, hB, u0, u1, v0, v1, huv, hI2⟩ := hcut
          clear e0 e1 c0 c1' hbw I10h E0 E1
          obtain ⟨e0, e1⟩ := hB.c2
          obtain ⟨bb', o', hbo, hbB', hcell'⟩ := hI2.rd.pairAt (by omega)
          injection hbo with hbo
          injection hbo with hbo1 hbo2
          subst hbo1 hbo2
          obtain ⟨c0, c1'⟩ := hcell' k _ HX.out
          have huv2 : (u * y == x * v) = true := by simp [huv]
          have huv3 : (u * y != x * v) = false := by simp [huv]
          have huv4 : decide (x < u) = false := by simp; omega
          have HI2 := Lib.hid hI2
          have m1 : 0 ≤ u * y ∧ u * y ≤ 44 * 63 := ⟨Int.mul_nonneg (by omega) (by omega), by have := Int.mul_le_mul (show u ≤ 44 by omega) (show y ≤ 63 by omega) (by omega) (by omega); omega⟩
          obtain ⟨m10, m11⟩ := m1
          have m12 := m10
          have m13 := m11
          rw [huv] at m12 m13
          have hw1 : IntKind.i64.wrap (u * y) = u * y := IntWalk.i64_in _ (by omega)
          have hw2 : IntKind.i64.wrap (x * v) = x * v := IntWalk.i64_in _ (by omega)
          clear hcell' hI2 huv
          go_wp2_with fail
          go_quiet (fail)
          go_wp2
          go_roundw
          case rel => exact ⟨k + 1, by omega, by go_num, HI2.out.1, HI2.out.2.trans (Go.Joins.below_draws _ _ _)⟩
          case measure => simp [intOf] <;> omega
      · obtain rfl : k = N := by omega
        go_wp2_with fail
        refine (iGearsFor _ _ _).mono ?_
        rintro e w12 ⟨u, v, ok, rfl, hgo, hb12⟩
        obtain ⟨rfl, rfl, rfl⟩ := gears_half hgo
        have I12 := hI.step hb12
        clear hI hgo
        go_wp2
        go_ret
        exact ⟨rfl, (I12.2.alloc I12.2.size _)⟩
  case pos =>
    have T := T1.out h3
    have HT := Lib.hid T
    clear T
    go_wp2_with fail
    refine (HTO.out _ _ I5).mono ?_
    rintro e w6 ⟨rfl, hb6⟩
    rw [HT.out]
    have I6 := I5.step hb6
    have J6 := J5.step hb6
    clear I5 J5 hb6
    by_cases h4 : 3 * a ≤ 1000000
    case neg =>
      have T := T4.out (by omega)
      have HT := Lib.hid T
      clear T
      go_wp2_with fail
      refine (iTurnsOf A3 N c3 (swapL xs) _ _ J6.rd hN4).mono ?_
      rintro e w7 ⟨rfl, hb7⟩
      rw [HT.out]
      have I7 := I6.step hb7
      clear I6 J6 hb7
      by_cases hb2 : 1 < b
      case pos =>
        have T := T5.out hb2
        have HT := Lib.hid T
        clear T
        go_wp2_with fail
        refine (HTO.out _ _ I7).mono ?_
        rintro e w8 ⟨rfl, hb8⟩
        rw [HT.out]
        have I8 := I7.step hb8
        clear I7 hb8
        go_wp2_with fail
        go_loopw [16] (fun i wr => ∃ k : Nat, k ≤ N ∧ i = .int .i64 k ∧ GI W A1 N c1 xs wr) (fun i _ => N - (intOf i).toNat)
        case atStart => exact ⟨0, Nat.zero_le _, rfl, I8⟩
        case round =>
          obtain ⟨k, hk, rfl, hI⟩ := hrel
          by_cases hlt : (k : Int) < N
          · obtain ⟨bb, o, rfl, hbB, hcell⟩ := hI.rd.pairAt (by omega)
            obtain ⟨⟨x, y⟩, hx⟩ : ∃ p, xs[k]? = some p := ⟨_, List.getElem?_eq_getElem (by rw [← HNN.out]; omega)⟩
            obtain ⟨d0, d1, d2, d3⟩ := HD.out _ (List.mem_of_getElem? hx)
            simp only at d0 d1 d2 d3
            obtain ⟨c0, c1'⟩ := hcell k _ hx
            have hgb : gearB x y = true := gearB_iff.2 (by omega)
            have HX := Lib.hid hx
            have HGB := Lib.hid hgb
            clear hcell hx hgb
            go_wp2_with fail
            refine (iGearOk _ _ _).mono ?_
            rintro e w10 ⟨rfl, hb10⟩
            rw [HGB.out]
            have I10 := hI.step hb10
            have e0 := (hb10.cell (p := ⟨bb, o + k * 2, none⟩) hbB).trans c0
            have e1 := (hb10.cell (p := ⟨bb, o + k * 2 + 1, none⟩) hbB).trans c1'
            have hbw : bb < w10.heap.size := by have := hb10.size; omega
            have E0 := Lib.hid e0
            have E1 := Lib.hid e1
            have I10h := Lib.hid I10
            clear hI hb10 I10
            go_upto_region 24 with fail
            go_cut [17, 18] (fun p q wx => GearAt W (some ⟨bb, o, none⟩) N c1 xs x y p q wx)
            case first =>
              have n0 := World.new_ne w10 _ e0
              have n1 := World.new_ne w10 _ e1
              go_wp2_with fail
              go_region_held3 (fun w' => w'.cell? ⟨bb, o + k * 2, none⟩ = some (.int .i64 x) ∧ w'.cell? ⟨bb, o + k * 2 + 1, none⟩ = some (.int .i64 y)) (first | go_keep | exact ⟨q0, q1⟩) ((go_at_call 33; refine (iGearsFor _ _ _).mono ?_; rintro e w11 ⟨u, v, ok, rfl, hgo, hb11⟩; have q0 := (hb11.cell (p := ⟨bb, o + k * 2, none⟩) (by first | exact hbw | (simp; omega))).trans (by first | exact E0.out | exact (World.cell?_alloc_lt _ _ _ hbw).trans E0.out); have q1 := (hb11.cell (p := ⟨bb, o + k * 2 + 1, none⟩) (by first | exact hbw | (simp; omega))).trans (by first | exact E1.out | exact (World.cell?_alloc_lt _ _ _ hbw).trans E1.out); obtain ⟨hcc, hff⟩ := bcell hb11))
              all_goals
                obtain ⟨rfl, u0, u1, v0, v1, huv⟩ := gears_own hgo ⟨d0, d1⟩ ⟨d2, d3⟩
                go_wp2_with fail
                go_meet
                first
                  | exact ⟨w11.heap.size, u, v, rfl, rfl, Blk.new _ _ _, u0, u1, v0, v1, huv, ((I10h.out.drew).step hb11).alloc _⟩
                  | (refine ⟨w10.heap.size, u, v, rfl, rfl, ?_, u0, u1, v0, v1, huv, ((((I10h.out.drew).alloc _).step hb11).set_ (I10h.out.not_new) I10h.out.2.size).set_ (I10h.out.not_new) I10h.out.2.size⟩
                     have := (((Blk.new w10.drew 25 #[.int .i64 0, .int .i64 0]).below hb11 (by simp)).set_ 0 (.int .i64 u)).set_ 1 (.int .i64 v)
                     simpa using this)
            case rest =>
              obtain ⟨g, u, v, rfl, rfl, hB, u0, u1, v0, v1, huv, hI2⟩ := hcut
              clear e0 e1 c0 c1' hbw I10h E0 E1
              obtain ⟨e0, e1⟩ := hB.c2
              obtain ⟨bb', o', hbo, hbB', hcell'⟩ := hI2.rd.pairAt (by omega)
              injection hbo with hbo
              injection hbo with hbo1 hbo2
              subst hbo1 hbo2
              obtain ⟨c0, c1'⟩ := hcell' k _ HX.out
              have huv2 : (u * y == x * v) = true := by simp [huv]
              have huv3 : (u * y != x * v) = false := by simp [huv]
              have huv4 : decide (x < u) = false := by simp; omega
              have HI2 := Lib.hid hI2
              have m1 : 0 ≤ u * y ∧ u * y ≤ 44 * 63 := ⟨Int.mul_nonneg (by omega) (by omega), by have := Int.mul_le_mul (show u ≤ 44 by omega) (show y ≤ 63 by omega) (by omega) (by omega); omega⟩
              obtain ⟨m10, m11⟩ := m1
              have m12 := m10
              have m13 := m11
              rw [huv] at m12 m13
              have hw1 : IntKind.i64.wrap (u * y) = u * y := IntWalk.i64_in _ (by omega)
              have hw2 : IntKind.i64.wrap (x * v) = x * v := IntWalk.i64_in _ (by omega)
              clear hcell' hI2 huv
              go_wp2_with fail
              go_quiet (fail)
              go_wp2
              go_roundw
              case rel => exact ⟨k + 1, by omega, by go_num, HI2.out.1, HI2.out.2.trans (Go.Joins.below_draws _ _ _)⟩
              case measure => simp [intOf] <;> omega
          · obtain rfl : k = N := by omega
            go_wp2_with fail
            refine (iGearsFor _ _ _).mono ?_
            rintro e w12 ⟨u, v, ok, rfl, hgo, hb12⟩
            obtain ⟨rfl, rfl, rfl⟩ := gears_half hgo
            have I12 := hI.step hb12
            clear hI hgo
            go_wp2
            go_ret
            exact ⟨rfl, (I12.2.alloc I12.2.size _)⟩
      case neg =>
        have I8 := I7
        clear I7
        go_wp2_with fail
        go_loopw [16] (fun i wr => ∃ k : Nat, k ≤ N ∧ i = .int .i64 k ∧ GI W A1 N c1 xs wr) (fun i _ => N - (intOf i).toNat)
        case atStart => exact ⟨0, Nat.zero_le _, rfl, I8⟩
        case round =>
          obtain ⟨k, hk, rfl, hI⟩ := hrel
          by_cases hlt : (k : Int) < N
          · obtain ⟨bb, o, rfl, hbB, hcell⟩ := hI.rd.pairAt (by omega)
            obtain ⟨⟨x, y⟩, hx⟩ : ∃ p, xs[k]? = some p := ⟨_, List.getElem?_eq_getElem (by rw [← HNN.out]; omega)⟩
            obtain ⟨d0, d1, d2, d3⟩ := HD.out _ (List.mem_of_getElem? hx)
            simp only at d0 d1 d2 d3
            obtain ⟨c0, c1'⟩ := hcell k _ hx
            have hgb : gearB x y = true := gearB_iff.2 (by omega)
            have HX := Lib.hid hx
            have HGB := Lib.hid hgb
            clear hcell hx hgb
            go_wp2_with fail
            refine (iGearOk _ _ _).mono ?_
            rintro e w10 ⟨rfl, hb10⟩
            rw [HGB.out]
            have I10 := hI.step hb10
            have e0 := (hb10.cell (p := ⟨bb, o + k * 2, none⟩) hbB).trans c0
            have e1 := (hb10.cell (p := ⟨bb, o + k * 2 + 1, none⟩) hbB).trans c1'
            have hbw : bb < w10.heap.size := by have := hb10.size; omega
            have E0 := Lib.hid e0
            have E1 := Lib.hid e1
            have I10h := Lib.hid I10
            clear hI hb10 I10
            go_upto_region 24 with fail
            go_cut [17, 18] (fun p q wx => GearAt W (some ⟨bb, o, none⟩) N c1 xs x y p q wx)
            case first =>
              have n0 := World.new_ne w10 _ e0
              have n1 := World.new_ne w10 _ e1
              go_wp2_with fail
              go_region_held3 (fun w' => w'.cell? ⟨bb, o + k * 2, none⟩ = some (.int .i64 x) ∧ w'.cell? ⟨bb, o + k * 2 + 1, none⟩ = some (.int .i64 y)) (first | go_keep | exact ⟨q0, q1⟩) ((go_at_call 33; refine (iGearsFor _ _ _).mono ?_; rintro e w11 ⟨u, v, ok, rfl, hgo, hb11⟩; have q0 := (hb11.cell (p := ⟨bb, o + k * 2, none⟩) (by first | exact hbw | (simp; omega))).trans (by first | exact E0.out | exact (World.cell?_alloc_lt _ _ _ hbw).trans E0.out); have q1 := (hb11.cell (p := ⟨bb, o + k * 2 + 1, none⟩) (by first | exact hbw | (simp; omega))).trans (by first | exact E1.out | exact (World.cell?_alloc_lt _ _ _ hbw).trans E1.out); obtain ⟨hcc, hff⟩ := bcell hb11))
              all_goals
                obtain ⟨rfl, u0, u1, v0, v1, huv⟩ := gears_own hgo ⟨d0, d1⟩ ⟨d2, d3⟩
                go_wp2_with fail
                go_meet
                first
                  | exact ⟨w11.heap.size, u, v, rfl, rfl, Blk.new _ _ _, u0, u1, v0, v1, huv, ((I10h.out.drew).step hb11).alloc _⟩
                  | (refine ⟨w10.heap.size, u, v, rfl, rfl, ?_, u0, u1, v0, v1, huv, ((((I10h.out.drew).alloc _).step hb11).set_ (I10h.out.not_new) I10h.out.2.size).set_ (I10h.out.not_new) I10h.out.2.size⟩
                     have := (((Blk.new w10.drew 25 #[.int .i64 0, .int .i64 0]).below hb11 (by simp)).set_ 0 (.int .i64 u)).set_ 1 (.int .i64 v)
                     simpa using this)
            case rest =>
              obtain ⟨g, u, v, rfl, rfl, hB, u0, u1, v0, v1, huv, hI2⟩ := hcut
              clear e0 e1 c0 c1' hbw I10h E0 E1
              obtain ⟨e0, e1⟩ := hB.c2
              obtain ⟨bb', o', hbo, hbB', hcell'⟩ := hI2.rd.pairAt (by omega)
              injection hbo with hbo
              injection hbo with hbo1 hbo2
              subst hbo1 hbo2
              obtain ⟨c0, c1'⟩ := hcell' k _ HX.out
              have huv2 : (u * y == x * v) = true := by simp [huv]
              have huv3 : (u * y != x * v) = false := by simp [huv]
              have huv4 : decide (x < u) = false := by simp; omega
              have HI2 := Lib.hid hI2
              have m1 : 0 ≤ u * y ∧ u * y ≤ 44 * 63 := ⟨Int.mul_nonneg (by omega) (by omega), by have := Int.mul_le_mul (show u ≤ 44 by omega) (show y ≤ 63 by omega) (by omega) (by omega); omega⟩
              obtain ⟨m10, m11⟩ := m1
              have m12 := m10
              have m13 := m11
              rw [huv] at m12 m13
              have hw1 : IntKind.i64.wrap (u * y) = u * y := IntWalk.i64_in _ (by omega)
              have hw2 : IntKind.i64.wrap (x * v) = x * v := IntWalk.i64_in _ (by omega)
              clear hcell' hI2 huv
              go_wp2_with fail
              go_quiet (fail)
              go_wp2
              go_roundw
              case rel => exact ⟨k + 1, by omega, by go_num, HI2.out.1, HI2.out.2.trans (Go.Joins.below_draws _ _ _)⟩
              case measure => simp [intOf] <;> omega
          · obtain rfl : k = N := by omega
            go_wp2_with fail
            refine (iGearsFor _ _ _).mono ?_
            rintro e w12 ⟨u, v, ok, rfl, hgo, hb12⟩
            obtain ⟨rfl, rfl, rfl⟩ := gears_half hgo
            have I12 := hI.step hb12
            clear hI hgo
            go_wp2
            go_ret
            exact ⟨rfl, (I12.2.alloc I12.2.size _)⟩
    case pos =>
      have T := T3.out h4
      have HT := Lib.hid T
      clear T
      go_wp2_with fail
      refine (iTurnsOf A3 N c3 (swapL xs) _ _ J6.rd hN4).mono ?_
      rintro e w7 ⟨rfl, hb7⟩
      rw [HT.out]
      have I7 := I6.step hb7
      clear I6 J6 hb7
      by_cases hb2 : 1 < b
      case pos =>
        have T := T5.out hb2
        have HT := Lib.hid T
        clear T
        go_wp2_with fail
        refine (HTO.out _ _ I7).mono ?_
        rintro e w8 ⟨rfl, hb8⟩
        rw [HT.out]
        have I8 := I7.step hb8
        clear I7 hb8
        go_wp2_with fail
        go_loopw [16] (fun i wr => ∃ k : Nat, k ≤ N ∧ i = .int .i64 k ∧ GI W A1 N c1 xs wr) (fun i _ => N - (intOf i).toNat)
        case atStart => exact ⟨0, Nat.zero_le _, rfl, I8⟩
        case round =>
          obtain ⟨k, hk, rfl, hI⟩ := hrel
          by_cases hlt : (k : Int) < N
          · obtain ⟨bb, o, rfl, hbB, hcell⟩ := hI.rd.pairAt (by omega)
            obtain ⟨⟨x, y⟩, hx⟩ : ∃ p, xs[k]? = some p := ⟨_, List.getElem?_eq_getElem (by rw [← HNN.out]; omega)⟩
            obtain ⟨d0, d1, d2, d3⟩ := HD.out _ (List.mem_of_getElem? hx)
            simp only at d0 d1 d2 d3
            obtain ⟨c0, c1'⟩ := hcell k _ hx
            have hgb : gearB x y = true := gearB_iff.2 (by omega)
            have HX := Lib.hid hx
            have HGB := Lib.hid hgb
            clear hcell hx hgb
            go_wp2_with fail
            refine (iGearOk _ _ _).mono ?_
            rintro e w10 ⟨rfl, hb10⟩
            rw [HGB.out]
            have I10 := hI.step hb10
            have e0 := (hb10.cell (p := ⟨bb, o + k * 2, none⟩) hbB).trans c0
            have e1 := (hb10.cell (p := ⟨bb, o + k * 2 + 1, none⟩) hbB).trans c1'
            have hbw : bb < w10.heap.size := by have := hb10.size; omega
            have E0 := Lib.hid e0
            have E1 := Lib.hid e1
            have I10h := Lib.hid I10
            clear hI hb10 I10
            go_upto_region 24 with fail
            go_cut [17, 18] (fun p q wx => GearAt W (some ⟨bb, o, none⟩) N c1 xs x y p q wx)
            case first =>
              have n0 := World.new_ne w10 _ e0
              have n1 := World.new_ne w10 _ e1
              go_wp2_with fail
              go_region_held3 (fun w' => w'.cell? ⟨bb, o + k * 2, none⟩ = some (.int .i64 x) ∧ w'.cell? ⟨bb, o + k * 2 + 1, none⟩ = some (.int .i64 y)) (first | go_keep | exact ⟨q0, q1⟩) ((go_at_call 33; refine (iGearsFor _ _ _).mono ?_; rintro e w11 ⟨u, v, ok, rfl, hgo, hb11⟩; have q0 := (hb11.cell (p := ⟨bb, o + k * 2, none⟩) (by first | exact hbw | (simp; omega))).trans (by first | exact E0.out | exact (World.cell?_alloc_lt _ _ _ hbw).trans E0.out); have q1 := (hb11.cell (p := ⟨bb, o + k * 2 + 1, none⟩) (by first | exact hbw | (simp; omega))).trans (by first | exact E1.out | exact (World.cell?_alloc_lt _ _ _ hbw).trans E1.out); obtain ⟨hcc, hff⟩ := bcell hb11))
              all_goals
                obtain ⟨rfl, u0, u1, v0, v1, huv⟩ := gears_own hgo ⟨d0, d1⟩ ⟨d2, d3⟩
                go_wp2_with fail
                go_meet
                first
                  | exact ⟨w11.heap.size, u, v, rfl, rfl, Blk.new _ _ _, u0, u1, v0, v1, huv, ((I10h.out.drew).step hb11).alloc _⟩
                  | (refine ⟨w10.heap.size, u, v, rfl, rfl, ?_, u0, u1, v0, v1, huv, ((((I10h.out.drew).alloc _).step hb11).set_ (I10h.out.not_new) I10h.out.2.size).set_ (I10h.out.not_new) I10h.out.2.size⟩
                     have := (((Blk.new w10.drew 25 #[.int .i64 0, .int .i64 0]).below hb11 (by simp)).set_ 0 (.int .i64 u)).set_ 1 (.int .i64 v)
                     simpa using this)
            case rest =>
              obtain ⟨g, u, v, rfl, rfl, hB, u0, u1, v0, v1, huv, hI2⟩ := hcut
              clear e0 e1 c0 c1' hbw I10h E0 E1
              obtain ⟨e0, e1⟩ := hB.c2
              obtain ⟨bb', o', hbo, hbB', hcell'⟩ := hI2.rd.pairAt (by omega)
              injection hbo with hbo
              injection hbo with hbo1 hbo2
              subst hbo1 hbo2
              obtain ⟨c0, c1'⟩ := hcell' k _ HX.out
              have huv2 : (u * y == x * v) = true := by simp [huv]
              have huv3 : (u * y != x * v) = false := by simp [huv]
              have huv4 : decide (x < u) = false := by simp; omega
              have HI2 := Lib.hid hI2
              have m1 : 0 ≤ u * y ∧ u * y ≤ 44 * 63 := ⟨Int.mul_nonneg (by omega) (by omega), by have := Int.mul_le_mul (show u ≤ 44 by omega) (show y ≤ 63 by omega) (by omega) (by omega); omega⟩
              obtain ⟨m10, m11⟩ := m1
              have m12 := m10
              have m13 := m11
              rw [huv] at m12 m13
              have hw1 : IntKind.i64.wrap (u * y) = u * y := IntWalk.i64_in _ (by omega)
              have hw2 : IntKind.i64.wrap (x * v) = x * v := IntWalk.i64_in _ (by omega)
              clear hcell' hI2 huv
              go_wp2_with fail
              go_quiet (fail)
              go_wp2
              go_roundw
              case rel => exact ⟨k + 1, by omega, by go_num, HI2.out.1, HI2.out.2.trans (Go.Joins.below_draws _ _ _)⟩
              case measure => simp [intOf] <;> omega
          · obtain rfl : k = N := by omega
            go_wp2_with fail
            refine (iGearsFor _ _ _).mono ?_
            rintro e w12 ⟨u, v, ok, rfl, hgo, hb12⟩
            obtain ⟨rfl, rfl, rfl⟩ := gears_half hgo
            have I12 := hI.step hb12
            clear hI hgo
            go_wp2
            go_ret
            exact ⟨rfl, (I12.2.alloc I12.2.size _)⟩
      case neg =>
        have I8 := I7
        clear I7
        go_wp2_with fail
        go_loopw [16] (fun i wr => ∃ k : Nat, k ≤ N ∧ i = .int .i64 k ∧ GI W A1 N c1 xs wr) (fun i _ => N - (intOf i).toNat)
        case atStart => exact ⟨0, Nat.zero_le _, rfl, I8⟩
        case round =>
          obtain ⟨k, hk, rfl, hI⟩ := hrel
          by_cases hlt : (k : Int) < N
          · obtain ⟨bb, o, rfl, hbB, hcell⟩ := hI.rd.pairAt (by omega)
            obtain ⟨⟨x, y⟩, hx⟩ : ∃ p, xs[k]? = some p := ⟨_, List.getElem?_eq_getElem (by rw [← HNN.out]; omega)⟩
            obtain ⟨d0, d1, d2, d3⟩ := HD.out _ (List.mem_of_getElem? hx)
            simp only at d0 d1 d2 d3
            obtain ⟨c0, c1'⟩ := hcell k _ hx
            have hgb : gearB x y = true := gearB_iff.2 (by omega)
            have HX := Lib.hid hx
            have HGB := Lib.hid hgb
            clear hcell hx hgb
            go_wp2_with fail
            refine (iGearOk _ _ _).mono ?_
            rintro e w10 ⟨rfl, hb10⟩
            rw [HGB.out]
            have I10 := hI.step hb10
            have e0 := (hb10.cell (p := ⟨bb, o + k * 2, none⟩) hbB).trans c0
            have e1 := (hb10.cell (p := ⟨bb, o + k * 2 + 1, none⟩) hbB).trans c1'
            have hbw : bb < w10.heap.size := by have := hb10.size; omega
            have E0 := Lib.hid e0
            have E1 := Lib.hid e1
            have I10h := Lib.hid I10
            clear hI hb10 I10
            go_upto_region 24 with fail
            go_cut [17, 18] (fun p q wx => GearAt W (some ⟨bb, o, none⟩) N c1 xs x y p q wx)
            case first =>
              have n0 := World.new_ne w10 _ e0
              have n1 := World.new_ne w10 _ e1
              go_wp2_with fail
              go_region_held3 (fun w' => w'.cell? ⟨bb, o + k * 2, none⟩ = some (.int .i64 x) ∧ w'.cell? ⟨bb, o + k * 2 + 1, none⟩ = some (.int .i64 y)) (first | go_keep | exact ⟨q0, q1⟩) ((go_at_call 33; refine (iGearsFor _ _ _).mono ?_; rintro e w11 ⟨u, v, ok, rfl, hgo, hb11⟩; have q0 := (hb11.cell (p := ⟨bb, o + k * 2, none⟩) (by first | exact hbw | (simp; omega))).trans (by first | exact E0.out | exact (World.cell?_alloc_lt _ _ _ hbw).trans E0.out); have q1 := (hb11.cell (p := ⟨bb, o + k * 2 + 1, none⟩) (by first | exact hbw | (simp; omega))).trans (by first | exact E1.out | exact (World.cell?_alloc_lt _ _ _ hbw).trans E1.out); obtain ⟨hcc, hff⟩ := bcell hb11))
              all_goals
                obtain ⟨rfl, u0, u1, v0, v1, huv⟩ := gears_own hgo ⟨d0, d1⟩ ⟨d2, d3⟩
                go_wp2_with fail
                go_meet
                first
                  | exact ⟨w11.heap.size, u, v, rfl, rfl, Blk.new _ _ _, u0, u1, v0, v1, huv, ((I10h.out.drew).step hb11).alloc _⟩
                  | (refine ⟨w10.heap.size, u, v, rfl, rfl, ?_, u0, u1, v0, v1, huv, ((((I10h.out.drew).alloc _).step hb11).set_ (I10h.out.not_new) I10h.out.2.size).set_ (I10h.out.not_new) I10h.out.2.size⟩
                     have := (((Blk.new w10.drew 25 #[.int .i64 0, .int .i64 0]).below hb11 (by simp)).set_ 0 (.int .i64 u)).set_ 1 (.int .i64 v)
                     simpa using this)
            case rest =>
              obtain ⟨g, u, v, rfl, rfl, hB, u0, u1, v0, v1, huv, hI2⟩ := hcut
              clear e0 e1 c0 c1' hbw I10h E0 E1
              obtain ⟨e0, e1⟩ := hB.c2
              obtain ⟨bb', o', hbo, hbB', hcell'⟩ := hI2.rd.pairAt (by omega)
              injection hbo with hbo
              injection hbo with hbo1 hbo2
              subst hbo1 hbo2
              obtain ⟨c0, c1'⟩ := hcell' k _ HX.out
              have huv2 : (u * y == x * v) = true := by simp [huv]
              have huv3 : (u * y != x * v) = false := by simp [huv]
              have huv4 : decide (x < u) = false := by simp; omega
              have HI2 := Lib.hid hI2
              have m1 : 0 ≤ u * y ∧ u * y ≤ 44 * 63 := ⟨Int.mul_nonneg (by omega) (by omega), by have := Int.mul_le_mul (show u ≤ 44 by omega) (show y ≤ 63 by omega) (by omega) (by omega); omega⟩
              obtain ⟨m10, m11⟩ := m1
              have m12 := m10
              have m13 := m11
              rw [huv] at m12 m13
              have hw1 : IntKind.i64.wrap (u * y) = u * y := IntWalk.i64_in _ (by omega)
              have hw2 : IntKind.i64.wrap (x * v) = x * v := IntWalk.i64_in _ (by omega)
              clear hcell' hI2 huv
              go_wp2_with fail
              go_quiet (fail)
              go_wp2
              go_roundw
              case rel => exact ⟨k + 1, by omega, by go_num, HI2.out.1, HI2.out.2.trans (Go.Joins.below_draws _ _ _)⟩
              case measure => simp [intOf] <;> omega
          · obtain rfl : k = N := by omega
            go_wp2_with fail
            refine (iGearsFor _ _ _).mono ?_
            rintro e w12 ⟨u, v, ok, rfl, hgo, hb12⟩
            obtain ⟨rfl, rfl, rfl⟩ := gears_half hgo
            have I12 := hI.step hb12
            clear hI hgo
            go_wp2
            go_ret
            exact ⟨rfl, (I12.2.alloc I12.2.size _)⟩
end Go.Proofs.Ytiecjmnaphfeaaa
