/-
  The law FnNearest, walked: quotients give their fraction back, and no gear is closer than the nearest one. True for all bytes.
-/
import Derived.Test.YtiecjmnaphfeaaaGearB
import Derived.Test.YtiecjmnaphfeaaaCont
import Derived.Test.YtiecjmnaphfeaaaFrac
import Derived.Test.YtiecjmnaphfeaaaDrawGear
import Derived.Test.YtiecjmnaphfeaaaAt
import Derived.Test.YtiecjmnaphfeaaaCls
import Derived.Deep.DeepCutAuto
namespace Go.Proofs.Ytiecjmnaphfeaaa
open Go.RowKit

/-! ### Plain facts -/
theorem cont_cf : ∀ (k : Nat) (a b : Int), 0 ≤ a → 0 ≤ b → b.toNat ≤ k → contZ a b = cf a b
  | 0, a, b, _, hb, h => by
    obtain rfl : b = 0 := by omega
    rw [contZ_nil, cf_nil (Int.le_refl _)]
  | k + 1, a, b, ha, hb, h => by
    by_cases h0 : 0 < b
    · have m0 := Int.emod_nonneg a (show b ≠ 0 by omega)
      have m1 := Int.emod_lt_of_pos a h0
      rw [contZ_step ha h0, cf_cons h0, cont_cf k b (a % b) hb m0 (by omega)]
    · obtain rfl : b = 0 := by omega
      rw [contZ_nil, cf_nil (Int.le_refl _)]
theorem contV_cf {a b : Int} (ha : 1 ≤ a ∧ a ≤ 200) (hb : 1 ≤ b ∧ b ≤ 200) : contV a b = cf a b := by
  rw [contV_yes (inB_true (by omega)) (inB_true (by omega)), cont_cf b.toNat a b (by omega) (by omega) (Nat.le_refl _)]
theorem cf_pos {a b : Int} (hb : 1 ≤ b) : 1 ≤ (cf a b).length := by
  rw [cf_cons (show 0 < b by omega)]
  simp
theorem cf_quot {a b : Int} (ha : 1 ≤ a ∧ a ≤ 200) (hb : 1 ≤ b ∧ b ≤ 200) (h : (cf a b).length ≤ 12) : quotB (cf a b) = true := by
  have hp := cf_pos (a := a) hb.1
  have ht := cf_tail b.toNat a b (Nat.le_refl _) (by omega) (by omega)
  have hh : 0 ≤ (cf a b).headD 0 ∧ (cf a b).headD 0 ≤ 1000 := by
    rw [cf_cons (show 0 < b by omega)]
    have q0 := Int.ediv_nonneg (show 0 ≤ a by omega) (show 0 ≤ b by omega)
    have q1 := Int.ediv_le_self b (show 0 ≤ a by omega)
    simp
    omega
  unfold quotB
  rw [decide_eq_true hp, decide_eq_true h, decide_eq_true hh]
  simp only [Bool.true_and, List.all_eq_true]
  intro q hq
  have := ht q hq
  simp
  omega
/-- the fraction comes back -/
theorem frac_cf {a b : Int} (ha : 1 ≤ a ∧ a ≤ 200) (hb : 1 ≤ b ∧ b ≤ 200) (h : (cf a b).length ≤ 12) :
    ∃ t d, fracV (FracZ (cf a b)) = .tuple #[.int .i64 t, .int .i64 d, .bool true] ∧ t * b = a * d ∧ 0 ≤ t ∧ t ≤ 200 ∧ 0 ≤ d ∧ d ≤ 200 := by
  obtain ⟨t, d, g, hf, h1, h2, hg, t0, t1, d0, d1⟩ := frS_cf b.toNat a b (Nat.le_refl _) (by omega) (by omega) (by omega) (by omega)
  exact ⟨t, d, frac_some (cf_quot ha hb h) hf, frac_back h1 h2, t0, by omega, d0, by omega⟩

theorem near_is {a b u v : Int} {ok : Bool} (h : NearOf a b u v ok) (ha : 1 ≤ a ∧ a ≤ 200) (hb : 1 ≤ b ∧ b ≤ 200) : ok = true ∧ NearIs a b u v := by
  unfold NearOf at h
  rw [if_pos ⟨inB_true (by omega), inB_true (by omega)⟩] at h
  exact ⟨h.2, h.1⟩
theorem cls_all4 {a b x y u v : Int} (ha : 1 ≤ a ∧ a ≤ 200) (hb : 1 ≤ b ∧ b ≤ 200) (hx : 6 ≤ x ∧ x ≤ 120) (hy : 6 ≤ y ∧ y ≤ 120) (hu : 6 ≤ u ∧ u ≤ 120) (hv : 6 ≤ v ∧ v ≤ 120) : clsB a b x y u v = true := by
  simp [clsB, okK, inB]
  omega
theorem closer_three {a b x y u v : Int} (h : NearIs a b u v) (ha : 1 ≤ a ∧ a ≤ 200) (hb : 1 ≤ b ∧ b ≤ 200) (hx : 6 ≤ x ∧ x ≤ 120) (hy : 6 ≤ y ∧ y ≤ 120) :
    0 ≤ CloserZ a b x y u v ∧ CloserZ a b x y u v ≤ 1 ∧ CloserZ a b u v x y = -CloserZ a b x y u v := by
  obtain ⟨h1, h2, h3, h4, h5, h6⟩ := h
  have := h5 x y hx.1 hx.2 hy.1 hy.2 (by unfold lexB; omega)
  unfold CloserZ
  rw [if_pos (cls_all4 ha hb hx hy ⟨h1, h2⟩ ⟨h3, h4⟩), if_pos (cls_all4 ha hb ⟨h1, h2⟩ ⟨h3, h4⟩ hx hy)]
  rw [if_neg (show ¬ dst a b x y * v < dst a b u v * y by omega)]
  by_cases e : dst a b u v * y < dst a b x y * v
  · rw [if_pos e, if_pos e]
    omega
  · rw [if_neg e, if_neg e, if_neg (by omega)]
    omega
theorem err_is {a b x y : Int} (ha : 1 ≤ a ∧ a ≤ 200) (hb : 1 ≤ b ∧ b ≤ 200) (hx : 6 ≤ x ∧ x ≤ 120) (hy : 6 ≤ y ∧ y ≤ 120) : ErrZ a b x y = dst a b x y * 1000000 / (a * y) := by
  unfold ErrZ
  rw [if_pos ⟨gearB_iff.2 (by omega), inB_true (by omega), inB_true (by omega)⟩]
theorem err_two {a b x y u v : Int} (h : NearIs a b u v) (ha : 1 ≤ a ∧ a ≤ 200) (hb : 1 ≤ b ∧ b ≤ 200) (hx : 6 ≤ x ∧ x ≤ 120) (hy : 6 ≤ y ∧ y ≤ 120) : 0 ≤ ErrZ a b u v ∧ ErrZ a b u v ≤ ErrZ a b x y := by
  obtain ⟨h1, h2, h3, h4, h5, h6⟩ := h
  rw [err_is ha hb ⟨h1, h2⟩ ⟨h3, h4⟩, err_is ha hb hx hy]
  refine ⟨Int.ediv_nonneg (by have := dst_nn a b u v; omega) (Int.mul_nonneg (by omega) (by omega)), ?_⟩
  exact parts_mono (by omega) (by omega) (by omega) (h5 x y hx.1 hx.2 hy.1 hy.2 (by unfold lexB; omega))
theorem exact_same {a b u v p q : Int} {ok : Bool} (h : NearIs a b u v) (hg : GearsOf a b p q ok) (ha : 1 ≤ a ∧ a ≤ 200) (hb : 1 ≤ b ∧ b ≤ 200) : ok = false ∨ (ok = true ∧ ErrZ a b u v = 0 ∧ p = u ∧ q = v) := by
  unfold GearsOf at hg
  rw [if_pos ⟨inB_true (by omega), inB_true (by omega)⟩] at hg
  rcases hg with ⟨rfl, g1, g2, g3, g4, g5, g6⟩ | ⟨rfl, _⟩
  · right
    obtain ⟨h1, h2, h3, h4, h5, h6⟩ := h
    have hz : dst a b p q = 0 := dst_zero.2 (by rw [← g5, Int.mul_comm])
    have h7 := h5 p q g1 g2 g3 g4 (by unfold lexB; omega)
    rw [hz, Int.zero_mul] at h7
    have h8 : dst a b u v = 0 := by
      rcases Int.lt_or_le 0 (dst a b u v) with hlt | hle
      · have := Int.mul_pos hlt (show 0 < q by omega); omega
      · have := dst_nn a b u v; omega
    have h9 := dst_zero.1 h8
    refine ⟨rfl, by rw [err_is ha hb ⟨h1, h2⟩ ⟨h3, h4⟩, h8]; simp, ?_⟩
    have hpu : p = u := by
      rcases Int.lt_trichotomy p u with hl | hl | hl
      · have := h6 p q g1 g2 g3 g4 (Or.inl hl)
        rw [hz, h8] at this
        omega
      · exact hl
      · exact absurd (by rw [h9, Int.mul_comm]) (g6 u v h1 hl h3 h4)
    subst hpu
    refine ⟨rfl, ?_⟩
    have e : q * a = v * a := by rw [g5, h9, Int.mul_comm]
    exact Int.eq_of_mul_eq_mul_right (show a ≠ 0 by omega) e
  · exact Or.inl rfl

set_option maxHeartbeats 400000 in
theorem sameInts_same (A A' : Option Addr) (n c c' : Nat) (xs : List Int) (w : World) (h : Rd w w.heap.size 1 A n (xs.map (Value.int .i64))) (h' : Rd w w.heap.size 1 A' n (xs.map (Value.int .i64))) (hn : n ≤ 9223372036854775807) :
    Calls Try.prog 53 #[.slice A n c, .slice A' n c'] w fun e w' => e = .returned (.bool true) ∧ Below w.heap.size w w' := by
  have hlen : xs.length = n := by simpa using h.1
  have H := Lib.hid h
  have H' := Lib.hid h'
  have HL := Lib.hid hlen
  clear h hlen h'
  go_enter Try.func53, Try.ntmps53
  go_wp2
  go_loopw [5] (fun i wr => ∃ k : Nat, k ≤ n ∧ i = .int .i64 k ∧ Below w.heap.size w wr) (fun i _ => n - (intOf i).toNat)
  case atStart => exact ⟨0, Nat.zero_le _, rfl, Below.refl _ _⟩
  case round =>
    obtain ⟨k, hk, rfl, hbl⟩ := hrel
    by_cases hlt : k < n
    · obtain ⟨b, o, rfl, hbB, hcell⟩ := H.out.cell (by omega)
      obtain ⟨b', o', rfl, hbB', hcell'⟩ := H'.out.cell (by omega)
      have hx : (xs.map (Value.int .i64))[k]? = some (.int .i64 (xs[k]'(by rw [HL.out]; exact hlt))) := by simp
      obtain ⟨x, hxe⟩ : ∃ x, x = xs[k]'(by rw [HL.out]; exact hlt) := ⟨_, rfl⟩
      rw [← hxe] at hx
      have c1 : wr.cell? ⟨b, o + k, none⟩ = some (.int .i64 x) := (hbl.cell (p := ⟨b, o + k, none⟩) hbB).trans (hcell k _ hx)
      have c2 : wr.cell? ⟨b', o' + k, none⟩ = some (.int .i64 x) := (hbl.cell (p := ⟨b', o' + k, none⟩) hbB').trans (hcell' k _ hx)
      have hi : (k : Int) < (n : Int) := by omega
      clear hx hxe hcell hcell'
      go_wp2
      go_quiet (fail)
      go_wp2
      go_roundw
      case rel => exact ⟨k + 1, by omega, by go_num, hbl.trans (Go.Joins.below_draws _ _ _)⟩
      case measure => simp [intOf]; omega
    · obtain rfl : k = n := by omega
      go_wp2
      go_ret
      exact ⟨rfl, hbl⟩

/-- a row of numbers, in a world in which nothing of W has turned -/
def QI (W : World) (A : Option Addr) (n c : Nat) (xs : List Int) (w : World) : Prop := w.ownsRow W.heap.size 3 1 (.slice A n c) n (xs.map (Value.int .i64)) ∧ Below W.heap.size W w
theorem QI.step {W w w' : World} {A : Option Addr} {n c : Nat} {xs : List Int} (h : QI W A n c xs w) (hb : Below w.heap.size w w') : QI W A n c xs w' :=
  ⟨own_below h.1 hb, h.2.trans (hb.mono h.2.size)⟩
theorem QI.rd {W w : World} {A : Option Addr} {n c : Nat} {xs : List Int} (h : QI W A n c xs w) : Rd w w.heap.size 1 A n (xs.map (Value.int .i64)) := Rd.of_own h.1
/-- the nearest gear's block, in a world in which nothing of W has turned -/
def NI (W : World) (g : Nat) (u v : Int) (w : World) : Prop := Blk w g 25 #[.int .i64 u, .int .i64 v] ∧ Below W.heap.size W w
theorem NI.step {W : World} {g : Nat} {u v : Int} (w w' : World) (h : NI W g u v w) (hb : Below w.heap.size w w') : NI W g u v w' :=
  ⟨h.1.below hb h.1.lt, h.2.trans (hb.mono h.2.size)⟩
def GivesN (f : FuncId) (args : Array Value) (v : Value) : Prop := ∀ w : World, Calls Try.prog f args w fun e w' => e = .returned v ∧ Below w.heap.size w w'
theorem gives_clsN {f : FuncId} {args : Array Value} {v : Value} {Inv : World → Prop} (hg : GivesN f args v) (hs : ∀ w w', Inv w → Below w.heap.size w w' → Inv w') (p : Cls Inv) :
    Calls Try.prog f args p.w fun e w'' => e = .returned v ∧ ∃ q : Cls Inv, w'' = q.w := Calls.cls ((hg p.w).mono fun _ _ ⟨he, hb⟩ => ⟨he, hs _ _ p.h hb⟩)
theorem rd_lit3 {w : World} {g n size : Nat} {t : TypeId} {cs : Array Value} (h : Blk w g t cs) (hs : cs.size = n * size) : Rd w w.heap.size size (some ⟨g, 0, none⟩) n cs.toList :=
  ⟨by simpa using hs, fun _ => ⟨g, 0, rfl, h.lt, fun j u hu => by
    rw [Nat.zero_add, h.cell j]
    simpa using hu⟩⟩

theorem same3 (A : Option Addr) (c base a : Nat) (w : World) (hg : w.heap.size = a) (ho : w.ownsRow base 3 1 (.slice A 3 c) 3 ([3, 7, 16].map (Value.int .i64))) :
    Calls Try.prog 53 #[.slice A 3 c, .slice (some ⟨a, 0, none⟩) 3 3] (w.alloc (.cells #[.int .i64 3, .int .i64 7, .int .i64 16] 3)) fun e w' => e = .returned (.bool true) ∧ Below (w.alloc (.cells #[.int .i64 3, .int .i64 7, .int .i64 16] 3)).heap.size (w.alloc (.cells #[.int .i64 3, .int .i64 7, .int .i64 16] 3)) w' := by
  subst hg
  exact sameInts_same _ _ 3 c 3 [3, 7, 16] _ (Rd.of_own (ho.alloc _)) (rd_lit3 (Blk.new _ _ _) (by simp)) (by omega)

set_option maxHeartbeats 8000000 in
set_option maxRecDepth 100000 in
theorem fnNearest_walk (W : World) (A : Option Addr) (n c : Nat) (bs : List Int) (r : Rd W W.heap.size 1 A n (bs.map (Value.int .u8))) (_l : bs.length = n) (_nc : n ≤ c) (_nm : n ≤ 9223372036854775807)
    (wb : ∀ x ∈ bs, (Lit.int .u8 x).wf = true) :
    Calls Try.prog 15 #[.slice A n c] W fun e w' => e = .returned (.bool true) ∧ Below W.heap.size W w' := by
  have hbs : ∀ x ∈ bs, 0 ≤ x ∧ x ≤ 255 := fun x hx => bounds_u8 (wb x hx)
  have R := Lib.hid r
  have HBS := Lib.hid hbs
  clear r hbs wb
  by_cases hn : n ≤ 1048576
  case neg =>
    have hb : decide (1048576 < n) = true := by simp; omega
    go_enter Try.func15, Try.ntmps15
    go_wp2_with (go_at_call 35; refine (big_any _ _ _ _).mono ?_; rintro e w' ⟨rfl, rfl⟩; rw [hb])
    go_ret
    exact ⟨rfl, Below.refl _ _⟩
  have hb : decide (1048576 < n) = false := by simp; omega
  have HB := Lib.hid hb
  clear hb
  go_enter Try.func15, Try.ntmps15
  go_wp2_with fail
  refine (big_any _ _ _ _).mono ?_
  rintro e w' ⟨rfl, rfl⟩
  rw [HB.out]
  go_wp2_with fail
  refine (DrawRatio_any _ _ _ _ _ R.out hn HBS.out).mono ?_
  rintro e w1 ⟨a, b, rfl, a0, a1, b0, b1, hb1⟩
  go_wp2_with fail
  refine (iContinuedOf _ _ _).mono ?_
  rintro e w2 ⟨A2, c2, rfl, ho2, hb2⟩
  rw [contV_cf ⟨a0, a1⟩ ⟨b0, b1⟩] at ho2 ⊢
  have hp := cf_pos (a := a) b0
  have htl := cf_tail b.toNat a b (Nat.le_refl _) (by omega) (by omega)
  have hfr := frac_cf ⟨a0, a1⟩ ⟨b0, b1⟩
  have hle := cf_length b.toNat a b (by omega) (Nat.le_refl _)
  obtain ⟨qs, hqs⟩ : ∃ qs, qs = cf a b := ⟨_, rfl⟩
  rw [← hqs] at ho2 hp htl hfr hle ⊢
  obtain ⟨L, hL⟩ : ∃ L, L = qs.length := ⟨_, rfl⟩
  rw [← hL] at ho2 hp hfr hle ⊢
  have I2 : QI W A2 L c2 qs w2 := ⟨own_base ho2 hb1.size, hb1.trans (hb2.mono hb1.size)⟩
  have hL1 : (1 : Int) ≤ L := by omega
  have hL2 : L ≤ 1048576 := by omega
  have hl0 : ((L : Int) == 0) = false := by simp; omega
  have HLL := Lib.hid hL
  have HTL := Lib.hid htl
  have HFR := Lib.hid hfr
  have II2 := Lib.hid I2
  clear ho2 hqs hL htl hfr hle hb1 hb2 I2
  go_upto_if 32 with fail
  go_cut [6] (fun _ wx => QI W A2 L c2 qs wx)
  case first =>
    by_cases h12 : (L : Int) ≤ 12
    · obtain ⟨t, d, hf, htd, t0, t1, d0, d1⟩ := HFR.out (by omega)
      have HF := Lib.hid hf
      have he : (t * b != a * d) = false := by simp [htd]
      have m1 : 0 ≤ t * b ∧ t * b ≤ 200 * 200 := ⟨Int.mul_nonneg (by omega) (by omega), Int.mul_le_mul (by omega) (by omega) (by omega) (by omega)⟩
      have m2 : 0 ≤ a * d ∧ a * d ≤ 200 * 200 := ⟨Int.mul_nonneg (by omega) (by omega), Int.mul_le_mul (by omega) (by omega) (by omega) (by omega)⟩
      obtain ⟨m10, m11⟩ := m1
      obtain ⟨m20, m21⟩ := m2
      clear hf htd
      go_wp2_with fail
      refine (iFractionOf _ _ _ _ _ II2.out.rd (own_capS II2.out.1) hL2).mono ?_
      rintro e w3 ⟨rfl, hb3⟩
      rw [HF.out]
      go_wp2
      go_meet
      exact II2.out.step hb3
    · go_wp2
      go_meet
      exact II2.out
  case rest =>
    obtain ⟨w3, rfl⟩ : ∃ w3 : World, w3 = wc := ⟨_, rfl⟩
    have I3 := hcut
    go_wp2
    go_loopw [9] (fun i wr => ∃ k : Nat, 1 ≤ k ∧ k ≤ L ∧ i = .int .i64 k ∧ wr = w3) (fun i _ => L - (intOf i).toNat)
    case atStart => exact ⟨1, Nat.le_refl _, by omega, rfl, rfl⟩
    case round =>
      obtain ⟨k, hk1, hk, rfl, rfl⟩ := hrel
      by_cases hlt : (k : Int) < L
      · obtain ⟨bb, o, rfl, hbB, hcell⟩ := I3.rd.cell (by omega)
        obtain ⟨y, hy⟩ : ∃ y, qs[k]? = some y := ⟨_, List.getElem?_eq_getElem (by rw [← HLL.out]; omega)⟩
        have c1 : wr.cell? ⟨bb, o + k, none⟩ = some (.int .i64 y) := hcell k _ (by simp [hy])
        obtain ⟨y0, y1⟩ := HTL.out y (by
          obtain ⟨j, rfl⟩ : ∃ j, k = j + 1 := ⟨k - 1, by omega⟩
          cases qs with
          | nil => simp at hy
          | cons q l => simp at hy; exact List.mem_of_getElem? hy)
        clear hy hcell I3 hcut
        go_wp2
        go_roundw
        case rel => exact ⟨k + 1, by omega, by omega, by go_num, by trivial⟩
        case measure => simp [intOf] <;> omega
      · obtain rfl : k = L := by omega
        have b3 := I3.2
        have B3 := Lib.hid b3
        clear I3 b3 hcut II2
        go_wp2_with fail
        refine (iNearestGear _ _ _).mono ?_
        rintro e w4 ⟨u, v, ok, rfl, hno, hb4⟩
        obtain ⟨rfl, hni⟩ := near_is hno ⟨a0, a1⟩ ⟨b0, b1⟩
        have hun := hni
        obtain ⟨u0, u1, v0, v1, _⟩ := hun
        have b4 := B3.out.trans (hb4.mono B3.out.size)
        have s4 := Blk.new w4 25 #[.int .i64 u, .int .i64 v]
        have N4 : NI W w4.heap.size u v (w4.alloc (.cells #[.int .i64 u, .int .i64 v] 25)) := ⟨s4, b4.alloc b4.size _⟩
        have HNI := Lib.hid hni
        have hgb : gearB u v = true := gearB_iff.2 (by omega)
        have HGB := Lib.hid hgb
        clear hno hb4 b4 s4 hni hgb B3
        obtain ⟨k0, k1⟩ := N4.1.c2
        go_wp2_with fail
        refine (sGearOk _ _ _).mono ?_
        rintro e w5 ⟨rfl, hb5⟩
        rw [HGB.out]
        have N5 := N4.step _ _ hb5
        clear N4 hb5 k0 k1
        have A0 := atZ_bd HBS.out 0
        have A1 := atZ_bd HBS.out 1
        go_wp2_with fail
        refine (at_is _ _ _ bs _ _ _ (R.out.below N5.2) HBS.out hn (by omega) (by omega)).mono ?_
        rintro e w' ⟨rfl, rfl⟩
        go_wp2_with fail
        refine (at_is _ _ _ bs _ _ _ (R.out.below N5.2) HBS.out hn (by omega) (by omega)).mono ?_
        rintro e w' ⟨rfl, rfl⟩
        generalize atZ bs 0 = p0 at *
        generalize atZ bs 1 = p1 at *
        obtain ⟨x, hx⟩ : ∃ x, x = 6 + p0 % 115 := ⟨_, rfl⟩
        obtain ⟨y, hy⟩ : ∃ y, y = 6 + p1 % 115 := ⟨_, rfl⟩
        have x0 : 6 ≤ x ∧ x ≤ 120 := by omega
        have y0 : 6 ≤ y ∧ y ≤ 120 := by omega
        have HX := Lib.hid hx
        have HY := Lib.hid hy
        obtain ⟨A00, A01⟩ := A0
        obtain ⟨A10, A11⟩ := A1
        clear hx hy
        have C1 : GivesN 46 #[.int .i64 a, .int .i64 b, .int .i64 x, .int .i64 y, .int .i64 u, .int .i64 v] (.int .i64 (CloserZ a b x y u v)) := fun w => iCloserOf a b x y u v w
        have C2 : GivesN 46 #[.int .i64 a, .int .i64 b, .int .i64 u, .int .i64 v, .int .i64 x, .int .i64 y] (.int .i64 (CloserZ a b u v x y)) := fun w => iCloserOf a b u v x y w
        obtain ⟨l0, l1, l2⟩ := closer_three HNI.out ⟨a0, a1⟩ ⟨b0, b1⟩ x0 y0
        obtain ⟨e0, e1⟩ := err_two HNI.out ⟨a0, a1⟩ ⟨b0, b1⟩ x0 y0
        have E1 := Lib.hid (iErrorParts a b u v)
        have E2 := Lib.hid (iErrorParts a b x y)
        have EX := Lib.hid (fun p q ok (h : GearsOf a b p q ok) => exact_same HNI.out h ⟨a0, a1⟩ ⟨b0, b1⟩)
        generalize CloserZ a b u v x y = cw at *
        generalize CloserZ a b x y u v = cz at *
        generalize ErrZ a b u v = e1z at *
        generalize ErrZ a b x y = e2z at *
        have HC1 := Lib.hid C1
        have HC2 := Lib.hid C2
        have q1 : decide (cz < 0) = false := by simp; omega
        have q2 : decide (0 < cw) = false := by simp; omega
        have q3 : -cw = cz := by omega
        have q4 : IntKind.i64.wrap (-cw) = cz := by rw [IntWalk.i64_in _ (by omega)]; omega
        clear C1 C2 l2
        obtain ⟨k0, k1⟩ := N5.1.c2
        go_wp2_with fail
        rw [← HX.out, ← HY.out]
        clear HX HY
        have HQ3 := Lib.hid q3
        clear q3
        refine wp_region_cls (Inv := NI W w4.heap.size u v) (by kernel_rfl) (by kernel_rfl) ⟨N5.1, N5.2.drew⟩ ?_
        haveI : Nonempty (Cls (NI W w4.heap.size u v)) := ⟨⟨_, N5⟩⟩
        have j0 := fun p : Cls (NI W w4.heap.size u v) => p.h.1.c2.1
        have j1 := fun p : Cls (NI W w4.heap.size u v) => p.h.1.c2.2
        repeat (first | go_big_quiet_step ((go_at_call 46; first | (with_reducible exact gives_clsN HC1.out NI.step _) | (with_reducible exact gives_clsN HC2.out NI.step _))))
        refine wpQuiet_nil ?_
        rintro _ ⟨p, rfl⟩
        have N6 := p.h
        obtain ⟨w6, hw6⟩ : ∃ w6, w6 = p.w := ⟨_, rfl⟩
        rw [← hw6] at N6 ⊢
        clear hw6 j0 j1 k0 k1 N5 q1 q2 q4 HQ3
        obtain ⟨k0, k1⟩ := N6.1.c2
        go_wp2_with fail
        refine (E1.out _).mono ?_
        rintro e w7 ⟨rfl, hb7⟩
        have N7 := N6.step _ _ hb7
        clear N6 hb7 k0 k1
        go_wp2_with fail
        refine (sGearsFor _ _ _).mono ?_
        rintro e w8 ⟨p, q, ok, rfl, hgo, hb8⟩
        have hex := EX.out _ _ _ hgo
        have N8 := N7.step _ _ hb8
        clear N7 hb8 hgo EX
        have N9 : NI W w4.heap.size u v (w8.alloc (.cells #[.int .i64 p, .int .i64 q] 25)) := ⟨N8.1.alloc _, N8.2.alloc N8.2.size _⟩
        have HN9 := Lib.hid N9
        obtain ⟨k0, k1⟩ := N8.1.c2
        have l8 := N8.1.lt
        have hEX := Lib.hid hex
        clear hex N8 N9
        rcases hEX.out with rfl | ⟨rfl, rfl, rfl, rfl⟩
        all_goals
          clear hEX
          go_wp2_with fail
          refine (E2.out _).mono ?_
          rintro e w10 ⟨rfl, hb10⟩
          have N10 := HN9.out.step _ _ hb10
          go_wp2_with fail
          refine (iContinuedOf _ _ _).mono ?_
          rintro e w11 ⟨A11', c11', rfl, ho11, hb11⟩
          rw [show contV 355 113 = [3, 7, 16] by decide] at ho11 ⊢
          have N11 := N10.step _ _ hb11
          go_wp2_with fail
          refine (same3 _ _ _ _ _ rfl ho11).mono ?_
          rintro e w12 ⟨rfl, hb12⟩
          go_wp2
          go_ret
          exact ⟨rfl, (N11.2.alloc N11.2.size _).trans (hb12.mono (by have := N11.2.size; simp; omega))⟩

end Go.Proofs.Ytiecjmnaphfeaaa
