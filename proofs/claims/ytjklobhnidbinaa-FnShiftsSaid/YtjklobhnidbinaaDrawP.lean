/-
  The reference's drawing of inputs out of bytes: of a cursor over at most 1048576 bytes. Nothing is said of which number is drawn, but that it lies in its range; only the cursor's own block is written.
-/
import Derived.Test.YtjklobhnidbinaaWithin
import Derived.Laws.BitsAllLaws
namespace Go.Proofs.Ytjklobhnidbinaa
open Go.RowKit

/-- a cursor in block g, over n bytes that lie below block B -/
def Cur (w : World) (B g : Nat) (A : Option Addr) (n c : Nat) (bs : List Int) : Prop :=
  ∃ i h : Int, Blk w g 73 #[.slice A n c, .int .i64 i, .int .i64 h] ∧ 0 ≤ i ∧ i ≤ n ∧ Rd w B 1 A n (bs.map (Value.int .u8)) ∧ B ≤ g ∧ n ≤ 1048576 ∧ ∀ x ∈ bs, 0 ≤ x ∧ x ≤ 255

theorem and_small (y : Int) (m : Nat) (hm : m < 9223372036854775808) : 0 ≤ bits .and .i64 y (m : Int) ∧ bits .and .i64 y (m : Int) ≤ m := by
  have e : bits .and .i64 y (m : Int) = IntKind.i64.wrap ((BitVec.ofInt 64 y &&& BitVec.ofInt 64 (m : Int)).toNat : Int) := rfl
  have hmm : (BitVec.ofInt 64 (m : Int)).toNat = m := by
    rw [BitVec.ofInt_natCast, BitVec.toNat_ofNat]
    exact Nat.mod_eq_of_lt (by omega)
  rw [e, BitVec.toNat_and, hmm, IntKind.wrap_i64]
  have := Nat.and_le_right (n := (BitVec.ofInt 64 y).toNat) (m := m)
  omega

theorem grown_set {w : World} {g i : Nat} (u : Value) : w.grownBy (w.setCell ⟨g, i, none⟩ u) (some g) :=
  ⟨rfl, rfl, rfl, by simp [World.setCell], fun k _ hk => Below.heap_setCell _ _ _ _ (fun e => hk (by rw [e]))⟩
theorem grown_draws {w w' : World} {r : Option Nat} (h : w.grownBy w' r) (k : Nat) : w.grownBy (w'.drewN k) r := ⟨h.os, h.tape, h.output, h.size, h.block⟩
theorem grown_two {a b c : World} {g : Nat} (h : a.grownBy b (some g)) (k : b.grownBy c (some g)) : a.grownBy c (some g) :=
  ⟨k.os.trans h.os, k.tape.trans h.tape, k.output.trans h.output, Nat.le_trans h.size k.size, fun i hi hne => (k.block i (Nat.lt_of_lt_of_le hi h.size) hne).trans (h.block i hi hne)⟩
theorem rd_grown {w w' : World} {B size n g : Nat} {A : Option Addr} {xs : List Value} (h : Rd w B size A n xs) (hg : w.grownBy w' (some g)) (hB : B ≤ g) (hs : B ≤ w.heap.size) : Rd w' B size A n xs :=
  h.keep fun p hp => World.cell?_of_block (hg.block p.block (by omega) (fun e => by injection e with e; omega))

set_option maxHeartbeats 400000 in
theorem l01Byte_any (B g : Nat) (A : Option Addr) (n c : Nat) (bs : List Int) (w : World) (h : Cur w B g A n c bs) :
    Calls Try.prog 50 #[.pointer (some ⟨g, 0, none⟩)] w fun e w' => ∃ x : Int, e = .returned (.int .i64 x) ∧ 0 ≤ x ∧ x ≤ 255 ∧ Cur w' B g A n c bs ∧ w.grownBy w' (some g) := by
  obtain ⟨i, hh, hB, hi0, hi1, hr, hg, hn, hbs⟩ := h
  obtain ⟨c0, c1, c2⟩ := hB.c3
  have f1 := hB.frozen 1
  have f2 := hB.frozen 2
  have q2 := hB.put 2 (by simp)
  have hgs := hB.lt
  have HB := Lib.hid hB
  have HR := Lib.hid hr
  have HBS := Lib.hid hbs
  clear hB hr hbs
  obtain ⟨i, rfl⟩ := Int.eq_ofNat_of_zero_le hi0
  go_enter Try.func50, Try.ntmps50
  go_wp2
  generalize wrap64 (wrap64 (hh * 6364136223846793005) + 1442695040888963407) = h2
  go_quiet (fail)
  go_wp2
  have hx := and_small (bits .xor .i64 (h2 / 8589934592) (h2 / 35184372088832)) 255 (by omega)
  simp only [Int.cast_ofNat_Int] at hx
  generalize bits .and .i64 (bits .xor .i64 (h2 / 8589934592) (h2 / 35184372088832)) 255 = x at *
  generalize bits .xor .i64 (h2 / 8589934592) (h2 / 35184372088832) = y at *
  generalize h2 / 8589934592 = y1 at *
  generalize h2 / 35184372088832 = y2 at *
  have B2 : Blk ((w.setCell ⟨g, 2, none⟩ (.int .i64 h2)).drewN nq) g 73 #[.slice A n c, .int .i64 i, .int .i64 h2] := by
    have : Blk (w.setCell ⟨g, 2, none⟩ (.int .i64 h2)) g 73 #[.slice A n c, .int .i64 i, .int .i64 h2] := by
      simpa using HB.out.set_ 2 (.int .i64 h2)
    exact this
  have G2 : w.grownBy ((w.setCell ⟨g, 2, none⟩ (.int .i64 h2)).drewN nq) (some g) := grown_draws (grown_set _) _
  generalize (w.setCell ⟨g, 2, none⟩ (.int .i64 h2)).drewN nq = w2 at *
  clear c0 c1 c2 f1 f2 q2
  obtain ⟨c0, c1, c2⟩ := B2.c3
  have f1 := B2.frozen 1
  have q1 := B2.put 1 (by simp)
  have HB2 := Lib.hid B2
  clear B2
  by_cases hlt : i < n
  · have R2 := rd_grown HR.out G2 hg (by omega)
    obtain ⟨b, o, rfl, hbB, hcell⟩ := R2.cell (by omega)
    obtain ⟨v, hv⟩ : ∃ v, bs[i]? = some v := ⟨_, List.getElem?_eq_getElem (by have := R2.1; simp at this; omega)⟩
    have hvb := HBS.out v (List.mem_of_getElem? hv)
    have cb : w2.cell? ⟨b, o + i, none⟩ = some (.int .u8 v) := hcell i _ (by simp [hv])
    have HC := Lib.hid hcell
    have HV := Lib.hid hv
    have HRR := Lib.hid R2
    clear hcell hv R2
    have hlt' : (i : Int) < (n : Int) := by omega
    go_quiet (fail)
    go_wp2
    go_quiet (fail)
    go_wp2
    have hx2 := and_small (x + v) 255 (by omega)
    simp only [Int.cast_ofNat_Int] at hx2
    go_ret
    refine ⟨_, rfl, hx2.1, hx2.2, ⟨i + 1, h2, ?_, by omega, by omega, ?_, hg, hn, HBS.out⟩, ?_⟩
    · have : Blk (w2.setCell ⟨g, 1, none⟩ (.int .i64 (i + 1))) g 73 #[.slice (some ⟨b, o, none⟩) n c, .int .i64 (i + 1), .int .i64 h2] := by
        simpa using HB2.out.set_ 1 (.int .i64 (i + 1))
      exact this
    · exact rd_grown HRR.out (grown_draws (grown_set _) _) hg (by have := G2.size; omega)
    · exact grown_two G2 (grown_draws (grown_set _) _)
  · go_quiet (fail)
    go_wp2
    go_ret
    exact ⟨x, rfl, hx.1, hx.2, ⟨i, h2, HB2.out, by omega, by omega, rd_grown HR.out (grown_draws G2 _) hg (by omega), hg, hn, HBS.out⟩, grown_draws G2 _⟩

/-- what a call that draws leaves: a number of which P holds, the cursor, and nothing else written -/
def Drawn (P : Int → Prop) (w : World) (B g : Nat) (A : Option Addr) (n c : Nat) (bs : List Int) (e : Ending) (w' : World) : Prop :=
  ∃ x : Int, e = .returned (.int .i64 x) ∧ P x ∧ Cur w' B g A n c bs ∧ w.grownBy w' (some g)

theorem l01Below_any (B g : Nat) (A : Option Addr) (n c : Nat) (bs : List Int) (m : Int) (w : World) (h : Cur w B g A n c bs) (hm : m ≤ 1048576) :
    Calls Try.prog 43 #[.pointer (some ⟨g, 0, none⟩), .int .i64 m] w (Drawn (fun x => 0 ≤ x ∧ (0 < m → x < m) ∧ (m ≤ 0 → x = 0)) w B g A n c bs) := by
  have H := Lib.hid h
  clear h
  by_cases h0 : m ≤ 0
  · go_enter Try.func43, Try.ntmps43
    go_wp2
    go_ret
    exact ⟨0, rfl, ⟨by omega, by omega, fun _ => rfl⟩, H.out, ⟨rfl, rfl, rfl, Nat.le_refl _, fun _ _ _ => rfl⟩⟩
  by_cases h1 : m ≤ 256
  · go_enter Try.func43, Try.ntmps43
    go_wp2_with (go_at_call 50; refine (l01Byte_any _ _ _ _ _ _ _ H.out).mono ?_; rintro e w1 ⟨x, rfl, hx0, hx1, hc1, hg1⟩)
    go_ret
    refine ⟨_, rfl, ⟨?_, fun _ => ?_, fun hh => absurd hh (by omega)⟩, hc1, hg1⟩
    · exact Int.emod_nonneg _ (by omega)
    · exact Int.emod_lt_of_pos _ (by omega)
  · go_enter Try.func43, Try.ntmps43
    go_wp2_with fail
    refine (l01Byte_any _ _ _ _ _ _ _ H.out).mono ?_
    rintro e w1 ⟨x1, rfl, hx10, hx11, hc1, hg1⟩
    go_wp2_with fail
    refine (l01Byte_any _ _ _ _ _ _ _ hc1).mono ?_
    rintro e w2 ⟨x2, rfl, hx20, hx21, hc2, hg2⟩
    go_wp2_with fail
    refine (l01Byte_any _ _ _ _ _ _ _ hc2).mono ?_
    rintro e w3 ⟨x3, rfl, hx30, hx31, hc3, hg3⟩
    go_wp2_with fail
    refine (l01Byte_any _ _ _ _ _ _ _ hc3).mono ?_
    rintro e w4 ⟨x4, rfl, hx40, hx41, hc4, hg4⟩
    go_wp2_with fail
    go_ret
    refine ⟨_, rfl, ⟨?_, fun _ => ?_, fun hh => absurd hh (by omega)⟩, hc4, grown_two (grown_two (grown_two hg1 hg2) hg3) hg4⟩
    · exact Int.emod_nonneg _ (by omega)
    · exact Int.emod_lt_of_pos _ (by omega)

set_option maxHeartbeats 400000 in
theorem l01New_any (A : Option Addr) (n c : Nat) (bs : List Int) (w : World) (h : Rd w w.heap.size 1 A n (bs.map (Value.int .u8))) (hn : n ≤ 1048576) (hbs : ∀ x ∈ bs, 0 ≤ x ∧ x ≤ 255) :
    Calls Try.prog 41 #[.slice A n c] w fun e w' => ∃ g, e = .returned (.pointer (some ⟨g, 0, none⟩)) ∧ Cur w' w.heap.size g A n c bs ∧ Below w.heap.size w w' := by
  have hlen : bs.length = n := by simpa using h.1
  have H := Lib.hid h
  have HL := Lib.hid hlen
  have HBS := Lib.hid hbs
  clear h hlen hbs
  go_enter Try.func41, Try.ntmps41
  go_wp2
  go_loop [3, 4] (fun h i => ∃ (k : Nat) (x : Int), k ≤ n ∧ i = .int .i64 k ∧ h = .int .i64 x) (fun _ i => n - (intOf i).toNat)
  case atStart => exact ⟨0, _, Nat.zero_le _, rfl, rfl⟩
  case round =>
    obtain ⟨k, x, hk, rfl, rfl⟩ := hrel
    by_cases hlt : k < n
    · by_cases h4 : (k : Int) < 4000
      · obtain ⟨b, o, rfl, hbB, hcell⟩ := H.out.cell (by omega)
        obtain ⟨v, hv⟩ : ∃ v, bs[k]? = some v := ⟨_, List.getElem?_eq_getElem (by rw [HL.out]; exact hlt)⟩
        have hvb := HBS.out v (List.mem_of_getElem? hv)
        have cb : w.cell? ⟨b, o + k, none⟩ = some (.int .u8 v) := hcell k _ (by simp [hv])
        clear hcell hv
        go_wp2
        go_round
        case rel => exact ⟨k + 1, _, by omega, by go_num, rfl⟩
        case measure => simp [intOf]; omega
      · go_wp2
        go_ret
        refine ⟨w.heap.size, rfl, ?_, (Below.refl _ _).alloc (Nat.le_refl _) _⟩
        exact ⟨0, x, Blk.new _ _ _, by omega, by omega, H.out.alloc (Nat.le_refl _) _, Nat.le_refl _, hn, HBS.out⟩
    · go_wp2
      go_ret
      refine ⟨w.heap.size, rfl, ?_, (Below.refl _ _).alloc (Nat.le_refl _) _⟩
      exact ⟨0, x, Blk.new _ _ _, by omega, by omega, H.out.alloc (Nat.le_refl _) _, Nat.le_refl _, hn, HBS.out⟩

/-- the cursor stays while other blocks are made or written -/
theorem Cur.alloc {w : World} {B g : Nat} {A : Option Addr} {n c : Nat} {bs : List Int} (h : Cur w B g A n c bs) (hB : B ≤ w.heap.size) (o : Obj) : Cur (w.alloc o) B g A n c bs := by
  obtain ⟨i, hh, hb, h0, h1, hr, r⟩ := h
  exact ⟨i, hh, hb.alloc o, h0, h1, hr.alloc hB o, r⟩
theorem Cur.set_ {w : World} {B g : Nat} {A : Option Addr} {n c : Nat} {bs : List Int} (h : Cur w B g A n c bs) {p : Addr} (hp : g ≠ p.block) (hB : B ≤ p.block) (u : Value) : Cur (w.setCell p u) B g A n c bs := by
  obtain ⟨i, hh, hb, h0, h1, hr, r⟩ := h
  exact ⟨i, hh, hb.far hp u, h0, h1, hr.keep (fun q hq => World.cell?_setCell_other w p q u (fun e => by subst e; omega)), r⟩
theorem Cur.lt {w : World} {B g : Nat} {A : Option Addr} {n c : Nat} {bs : List Int} (h : Cur w B g A n c bs) : B ≤ g ∧ g < w.heap.size := by
  obtain ⟨i, hh, hb, h0, h1, hr, hg, r⟩ := h
  exact ⟨hg, hb.lt⟩
theorem grown_alloc {a w : World} {r : Option Nat} (h : a.grownBy w r) (o : Obj) : a.grownBy (w.alloc o) r :=
  ⟨h.os, h.tape, h.output, Nat.le_trans h.size (by simp), fun i hi hne => (Below.heap_alloc w o i (Nat.lt_of_lt_of_le hi h.size)).trans (h.block i hi hne)⟩
theorem grown_new {a w : World} {r : Option Nat} (h : a.grownBy w r) {p : Addr} (hp : a.heap.size ≤ p.block) (u : Value) : a.grownBy (w.setCell p u) r :=
  ⟨h.os, h.tape, h.output, by simpa [World.setCell] using h.size, fun i hi hne => (Below.heap_setCell w p u i (by omega)).trans (h.block i hi hne)⟩
theorem grown_refl (w : World) (r : Option Nat) : w.grownBy w r := ⟨rfl, rfl, rfl, Nat.le_refl _, fun _ _ _ => rfl⟩

/-- laws.big, of at most 1048576 bytes and of more -/
theorem big_any (A : Option Addr) (n c : Nat) (w : World) : Calls Try.prog 25 #[.slice A n c] w fun e w' => e = .returned (.bool (decide (1048576 < n))) ∧ w = w' := by
  by_cases h : n ≤ 1048576
  · rw [show decide (1048576 < n) = false by simpa using h]
    go_enter Try.func25, Try.ntmps25
    go_wp2
    go_ret
    exact ⟨by simp; omega, rfl⟩
  · rw [show decide (1048576 < n) = true by simp; omega]
    go_enter Try.func25, Try.ntmps25
    go_wp2
    go_ret
    exact ⟨by simp; omega, rfl⟩

end Go.Proofs.Ytjklobhnidbinaa
