/-
  BeatsOf of impl and of spec: the greatest common divisor of a tune's times, counted from its first note. What each returns for all tunes; it reads and makes blocks of its own.
-/
import Derived.Test.YtbiokfgkiillkaaTuneI
import Derived.Test.YtbiokfgkiillkaaTuneMath
import Derived.Test.YtbiokfgkiillkaaNoteS
import Derived.Test.YtbiokfgkiillkaaGcd
namespace Go.Proofs.Ytbiokfgkiillkaa
open Go.RowKit

def bt (xs : List (Int × Int)) (k : Nat) : Int := (nt xs k).1 - (nt xs 0).1
def beatsTo (xs : List (Int × Int)) : Nat → Int
  | 0 => 0
  | k + 1 => gcdZ (beatsTo xs k) (bt xs k)
def beatsZ (xs : List (Int × Int)) : Int := if tuneB xs = true then beatsTo xs xs.length else 0
theorem bt_bd {xs : List (Int × Int)} {k : Nat} (h : tuneB xs = true) (hk : k < xs.length) : 0 ≤ bt xs k ∧ bt xs k ≤ 1000 := by
  have h1 := tune_mono h (Nat.zero_le k) hk
  have h2 := tune_at h hk
  have h3 := tune_at h (show 0 < xs.length by omega)
  unfold bt
  omega
theorem beatsTo_bd {xs : List (Int × Int)} (h : tuneB xs = true) : ∀ k, k ≤ xs.length → 0 ≤ beatsTo xs k ∧ beatsTo xs k ≤ 1000
  | 0, _ => by simp [beatsTo]
  | k + 1, hk => by
    have h1 := beatsTo_bd h k (by omega)
    have h2 := bt_bd h (show k < xs.length by omega)
    exact gcdZ_bd h1.1 h2.1 h1.2 h2.2

theorem beats_not {xs : List (Int × Int)} (h : tuneB xs = false) : beatsZ xs = 0 := by simp [beatsZ, h]
theorem beats_yes {xs : List (Int × Int)} (h : tuneB xs = true) : beatsZ xs = beatsTo xs xs.length := by simp [beatsZ, h]
theorem iTuneF {A : Option Addr} {n c : Nat} {xs : List (Int × Int)} {b : Bool} (hq : tuneB xs = b) (hn : n ≤ 1048576) (w : World) (h : Rd w w.heap.size 2 A n (pc xs)) :
    Calls Try.prog 38 #[.slice A n c] w fun e w' => e = .returned (.bool b) ∧ Below w.heap.size w w' := by rw [← hq]; exact iTuneOk A n c xs w h hn
theorem sTuneF {A : Option Addr} {n c : Nat} {xs : List (Int × Int)} {b : Bool} (hq : tuneB xs = b) (hn : n ≤ 1048576) (w : World) (h : Rd w w.heap.size 2 A n (pc xs)) :
    Calls Try.prog 35 #[.slice A n c] w fun e w' => e = .returned (.bool b) ∧ Below w.heap.size w w' := by rw [← hq]; exact sTuneOk A n c xs w h hn

set_option maxHeartbeats 800000 in
theorem iBeatsOf (A : Option Addr) (n c : Nat) (xs : List (Int × Int)) (w : World) (h : Rd w w.heap.size 2 A n (pc xs)) (hn : n ≤ 1048576) :
    Calls Try.prog 19 #[.slice A n c] w fun e w' => e = .returned (.int .i64 (beatsZ xs)) ∧ Below w.heap.size w w' := by
  have hlen := h.pair
  have H := Lib.hid h
  have HL := Lib.hid hlen
  clear h hlen
  cases hq : tuneB xs
  · rw [beats_not hq]
    have TH := Lib.hid (fun w h => iTuneF (A := A) (n := n) (c := c) hq hn w h)
    clear hq
    go_enter Try.func19, Try.ntmps19
    go_wp2_with (go_at_call 38; refine (TH.out _ H.out).mono ?_; rintro e w1 ⟨rfl, hb1⟩)
    go_ret
    exact ⟨rfl, by (repeat (first | exact Below.refl _ _ | assumption | refine Below.alloc ?_ (by first | omega | (simp <;> omega)) _ | refine Below.setCell ?_ (by first | omega | (simp <;> omega)) _ | refine Below.drew ?_ | refine Below.trans ?_ (Below.mono (by assumption) (by first | omega | (simp <;> omega)))))⟩
  rw [beats_yes hq, HL.out]
  have hn40 : (n : Int) ≤ 40 := by have := tune_len hq; have := HL.out; omega
  have TH := Lib.hid (fun w h => iTuneF (A := A) (n := n) (c := c) hq hn w h)
  have HQ := Lib.hid hq
  clear hq
  go_enter Try.func19, Try.ntmps19
  go_wp2_with (go_at_call 38; refine (TH.out _ H.out).mono ?_; rintro e w1 ⟨rfl, hb1⟩)
  go_loopw [3, 11] (fun s i wr => ∃ k : Nat, k ≤ n ∧ i = .int .i64 k ∧ s = .int .i64 (beatsTo xs k) ∧ Below w.heap.size w wr) (fun _ i _ => n - (intOf i).toNat)
  case atStart => exact ⟨0, Nat.zero_le _, rfl, rfl, by (repeat (first | exact Below.refl _ _ | assumption | refine Below.alloc ?_ (by first | omega | (simp <;> omega)) _ | refine Below.setCell ?_ (by first | omega | (simp <;> omega)) _ | refine Below.drew ?_ | refine Below.trans ?_ (Below.mono (by assumption) (by first | omega | (simp <;> omega)))))⟩
  case round =>
    obtain ⟨k, hk, rfl, rfl, hbl⟩ := hrel
    by_cases hlt : (k : Int) < n
    · obtain ⟨b, o, rfl, hbB, hcell⟩ := H.out.pairAt (by omega)
      obtain ⟨⟨x, y⟩, hx⟩ : ∃ p, xs[k]? = some p := ⟨_, List.getElem?_eq_getElem (by rw [HL.out]; omega)⟩
      obtain ⟨⟨x0, y0⟩, hx0⟩ : ∃ p, xs[0]? = some p := ⟨_, List.getElem?_eq_getElem (by rw [HL.out]; omega)⟩
      obtain ⟨g0, g1⟩ := hcell k _ hx
      obtain ⟨g2, _⟩ := hcell 0 _ hx0
      rw [show o + 0 * 2 = o by omega] at g2
      have c0 : wr.cell? ⟨b, o + k * 2, none⟩ = some (.int .i64 x) := (hbl.cell (p := ⟨b, o + k * 2, none⟩) hbB).trans g0
      have c1 : wr.cell? ⟨b, o + k * 2 + 1, none⟩ = some (.int .i64 y) := (hbl.cell (p := ⟨b, o + k * 2 + 1, none⟩) hbB).trans g1
      have hbs : b < wr.heap.size := by have := hbl.size; omega
      have d0 : (wr.alloc (.cells #[.int .i64 x, .int .i64 y] 44)).cell? ⟨b, o, none⟩ = some (.int .i64 x0) := (World.cell?_alloc_lt wr _ _ hbs).trans ((hbl.cell (p := ⟨b, o, none⟩) hbB).trans g2)
      have ht := bt_bd HQ.out (show k < xs.length by rw [HL.out]; omega)
      have hte : bt xs k = x - x0 := by unfold bt; rw [nt_of hx, nt_of hx0]
      rw [hte] at ht
      have hg := beatsTo_bd HQ.out k (by rw [HL.out]; omega)
      have hst : beatsTo xs (k + 1) = gcdZ (beatsTo xs k) (x - x0) := by rw [beatsTo, hte]
      obtain ⟨s, hs⟩ : ∃ s, s = beatsTo xs k := ⟨_, rfl⟩
      rw [← hs] at hst hg ⊢
      have HST := Lib.hid hst
      have a1 := (tune_at HQ.out (show k < xs.length by rw [HL.out]; omega))
      rw [nt_of hx] at a1
      have a2 := (tune_at HQ.out (show 0 < xs.length by rw [HL.out]; omega))
      rw [nt_of hx0] at a2
      obtain ⟨a10, a11, _, _⟩ := a1
      obtain ⟨a20, a21, _, _⟩ := a2
      simp only at a10 a11 a20 a21
      have hb0 := (Blk.new wr 44 #[.int .i64 x, .int .i64 y])
      obtain ⟨e0, e1⟩ := hb0.c2
      have bn : Below w.heap.size w (wr.alloc (.cells #[.int .i64 x, .int .i64 y] 44)) := hbl.alloc hbl.size _
      have hw : IntKind.i64.wrap (x - x0) = x - x0 := IntWalk.i64_in _ (by omega)
      clear hx hx0 g0 g1 g2 hcell hte hst hs hb0
      go_wp2
      go_quiet ((go_at_call 39; refine (gcdq_i _ _ _ (by omega) (by omega) (by omega) (by omega)).mono ?_; rintro e w' ⟨he, m, rfl⟩; exact ⟨he, _, World.drewN_drewN ..⟩))
      go_wp2
      go_roundw
      case rel => exact ⟨k + 1, by omega, by go_num, by rw [HST.out], bn.trans (Go.Joins.below_draws _ _ _)⟩
      case measure => simp [intOf]; omega
    · obtain rfl : k = n := by omega
      go_wp2
      go_ret
      exact ⟨rfl, hbl⟩

set_option maxHeartbeats 800000 in
theorem sBeatsOf (A : Option Addr) (n c : Nat) (xs : List (Int × Int)) (w : World) (h : Rd w w.heap.size 2 A n (pc xs)) (hn : n ≤ 1048576) :
    Calls Try.prog 17 #[.slice A n c] w fun e w' => e = .returned (.int .i64 (beatsZ xs)) ∧ Below w.heap.size w w' := by
  have hlen := h.pair
  have H := Lib.hid h
  have HL := Lib.hid hlen
  clear h hlen
  cases hq : tuneB xs
  · rw [beats_not hq]
    have TH := Lib.hid (fun w h => sTuneF (A := A) (n := n) (c := c) hq hn w h)
    have hn0 : (0 : Int) < n := by
      have := HL.out
      by_cases e : n = 0
      · obtain rfl : xs = [] := List.eq_nil_of_length_eq_zero (by omega)
        simp [tuneB, tuneTo] at hq
      · omega
    clear hq
    go_enter Try.func17, Try.ntmps17
    go_wp2
    go_loopw [3, 4] (fun s i wr => i = .int .i64 0 ∧ s = .int .i64 0 ∧ wr = w) (fun _ i _ => n - (intOf i).toNat)
    case atStart => exact ⟨rfl, rfl, rfl⟩
    case round =>
      obtain ⟨rfl, rfl, rfl⟩ := hrel
      go_wp2_with (go_at_call 35; refine (TH.out _ H.out).mono ?_; rintro e w1 ⟨rfl, hb1⟩)
      go_ret
      exact ⟨rfl, by (repeat (first | exact Below.refl _ _ | assumption | refine Below.alloc ?_ (by first | omega | (simp <;> omega)) _ | refine Below.setCell ?_ (by first | omega | (simp <;> omega)) _ | refine Below.drew ?_ | refine Below.trans ?_ (Below.mono (by assumption) (by first | omega | (simp <;> omega)))))⟩
  rw [beats_yes hq, HL.out]
  have hn40 : (n : Int) ≤ 40 := by have := tune_len hq; have := HL.out; omega
  have TH := Lib.hid (fun w h => sTuneF (A := A) (n := n) (c := c) hq hn w h)
  have HQ := Lib.hid hq
  clear hq
  go_enter Try.func17, Try.ntmps17
  go_wp2
  go_loopw [3, 4] (fun s i wr => ∃ k : Nat, k ≤ n ∧ i = .int .i64 k ∧ s = .int .i64 (beatsTo xs k) ∧ Below w.heap.size w wr) (fun _ i _ => n - (intOf i).toNat)
  case atStart => exact ⟨0, Nat.zero_le _, rfl, rfl, by (repeat (first | exact Below.refl _ _ | assumption | refine Below.alloc ?_ (by first | omega | (simp <;> omega)) _ | refine Below.setCell ?_ (by first | omega | (simp <;> omega)) _ | refine Below.drew ?_ | refine Below.trans ?_ (Below.mono (by assumption) (by first | omega | (simp <;> omega)))))⟩
  case round =>
    obtain ⟨k, hk, rfl, rfl, hbl⟩ := hrel
    by_cases hlt : (k : Int) < n
    · obtain ⟨b, o, hA, hbB, hcell⟩ := H.out.pairAt (by omega)
      obtain ⟨⟨x, y⟩, hx⟩ : ∃ p, xs[k]? = some p := ⟨_, List.getElem?_eq_getElem (by rw [HL.out]; omega)⟩
      obtain ⟨⟨x0, y0⟩, hx0⟩ : ∃ p, xs[0]? = some p := ⟨_, List.getElem?_eq_getElem (by rw [HL.out]; omega)⟩
      obtain ⟨g0, g1⟩ := hcell k _ hx
      obtain ⟨g2, _⟩ := hcell 0 _ hx0
      rw [show o + 0 * 2 = o by omega] at g2
      have ht := bt_bd HQ.out (show k < xs.length by rw [HL.out]; omega)
      have hte : bt xs k = x - x0 := by unfold bt; rw [nt_of hx, nt_of hx0]
      rw [hte] at ht
      have hg := beatsTo_bd HQ.out k (by rw [HL.out]; omega)
      have hst : beatsTo xs (k + 1) = gcdZ (beatsTo xs k) (x - x0) := by rw [beatsTo, hte]
      obtain ⟨s, hs⟩ : ∃ s, s = beatsTo xs k := ⟨_, rfl⟩
      rw [← hs] at hst hg ⊢
      have HST := Lib.hid hst
      have a1 := (tune_at HQ.out (show k < xs.length by rw [HL.out]; omega))
      rw [nt_of hx] at a1
      have a2 := (tune_at HQ.out (show 0 < xs.length by rw [HL.out]; omega))
      rw [nt_of hx0] at a2
      obtain ⟨a10, a11, _, _⟩ := a1
      obtain ⟨a20, a21, _, _⟩ := a2
      simp only at a10 a11 a20 a21
      have hw : IntKind.i64.wrap (x - x0) = x - x0 := IntWalk.i64_in _ (by omega)
      have HR := Lib.hid ((H.out.below hbl).more hbl.size)
      subst hA
      clear hx hx0 hcell hte hst hs
      have G0 := Lib.hid g0
      have G2 := Lib.hid g2
      clear g0 g2 g1
      go_wp2_with fail
      refine (TH.out _ HR.out).mono ?_
      rintro e w1 ⟨rfl, hb1⟩
      have b1 : Below w.heap.size w w1 := hbl.trans (hb1.mono hbl.size)
      have c0 : w1.cell? ⟨b, o + k * 2, none⟩ = some (.int .i64 x) := (b1.cell (p := ⟨b, o + k * 2, none⟩) hbB).trans G0.out
      have d0 : w1.cell? ⟨b, o, none⟩ = some (.int .i64 x0) := (b1.cell (p := ⟨b, o, none⟩) hbB).trans G2.out
      go_wp2
      go_quiet ((go_at_call 36; refine (gcdq_s _ _ _ (by omega) (by omega) (by omega) (by omega)).mono ?_; rintro e w' ⟨he, m, rfl⟩; exact ⟨he, _, World.drewN_drewN ..⟩))
      go_wp2
      go_roundw
      case rel => exact ⟨k + 1, by omega, by go_num, by rw [HST.out], b1.trans (Go.Joins.below_draws _ _ _)⟩
      case measure => simp [intOf]; omega
    · obtain rfl : k = n := by omega
      go_wp2
      go_ret
      exact ⟨rfl, hbl⟩

end Go.Proofs.Ytbiokfgkiillkaa
