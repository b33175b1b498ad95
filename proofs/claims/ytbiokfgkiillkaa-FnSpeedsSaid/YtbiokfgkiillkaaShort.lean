/-
  Shortened of impl and of spec: a tune's times counted from its first note and divided by its beats, as a slice of their own.
-/
import Derived.Test.YtbiokfgkiillkaaBeats
import Derived.Test.YtbiokfgkiillkaaMarkNote
import Derived.Deep.RegionHeld3
namespace Go.Proofs.Ytbiokfgkiillkaa
open Go.RowKit

def shTo (xs : List (Int × Int)) (g : Int) (k : Nat) : List (Int × Int) := (List.range k).map fun j : Nat => (bt xs j / max 1 g, (nt xs j).2)
def shortV (xs : List (Int × Int)) : List (Int × Int) := if tuneB xs = true then shTo xs (beatsTo xs xs.length) xs.length else []
theorem shTo_len (xs : List (Int × Int)) (g : Int) (k : Nat) : (shTo xs g k).length = k := by simp [shTo]
theorem shTo_step (xs : List (Int × Int)) (g : Int) (k : Nat) : shTo xs g (k + 1) = shTo xs g k ++ [(bt xs k / max 1 g, (nt xs k).2)] := by simp [shTo, List.range_succ]
theorem short_no {xs : List (Int × Int)} (h : tuneB xs = false) : shortV xs = [] := by simp [shortV, h]
theorem short_yes {xs : List (Int × Int)} (h : tuneB xs = true) : shortV xs = shTo xs (beatsTo xs xs.length) xs.length := by simp [shortV, h]
theorem fnExactShortened_small {xs : List (Int × Int)} : (shortV xs).length ≤ 1048576 := by
  unfold shortV
  split
  · rename_i h
    rw [shTo_len]
    have := tune_len h
    omega
  · simp

theorem ownv_below {w w' : World} {base size n : Nat} {v : Value} {xs : List Value} {e : TypeId} (h : w.ownsRow base e size v n xs) (hb : Below w.heap.size w w') : w'.ownsRow base e size v n xs := by
  obtain ⟨A, c, rfl⟩ := own_shape h
  exact own_below h hb

set_option maxHeartbeats 1000000 in
theorem iShortened (A : Option Addr) (n c : Nat) (xs : List (Int × Int)) (w : World) (h : Rd w w.heap.size 2 A n (pc xs)) (hn : n ≤ 1048576) :
    Calls Try.prog 22 #[.slice A n c] w (MadeP w (shortV xs)) := by
  have hlen := h.pair
  have H := Lib.hid h
  have HL := Lib.hid hlen
  clear h hlen
  cases hq : tuneB xs
  · rw [short_no hq]
    have TH := Lib.hid (fun w h => iTuneF (A := A) (n := n) (c := c) hq hn w h)
    clear hq
    go_enter Try.func22, Try.ntmps22
    go_wp2_with (go_at_call 38; refine (TH.out _ H.out).mono ?_; rintro e w1 ⟨rfl, hb1⟩)
    go_ret
    exact madeP_nil _ _ hb1
  rw [short_yes hq, HL.out]
  have hn40 : (n : Int) ≤ 40 := by have := tune_len hq; have := HL.out; omega
  have TH := Lib.hid (fun w h => iTuneF (A := A) (n := n) (c := c) hq hn w h)
  have BH := Lib.hid (fun w h => iBeatsOf A n c xs w h hn)
  have hbz := beats_yes hq
  rw [HL.out] at hbz
  rw [hbz] at BH
  have hgb := beatsTo_bd hq n (by rw [HL.out]; exact Nat.le_refl _)
  obtain ⟨g, hg⟩ : ∃ g, g = beatsTo xs n := ⟨_, rfl⟩
  rw [← hg] at BH hgb ⊢
  obtain ⟨hg0, hg1⟩ := hgb
  have HQ := Lib.hid hq
  clear hq hbz hg
  by_cases hg1 : 1 < g
  case pos =>
    go_enter Try.func22, Try.ntmps22
    go_wp2_with (go_at_call 38; refine (TH.out _ H.out).mono ?_; rintro e w1 ⟨rfl, hb1⟩)
    have H1 := Lib.hid ((H.out.below hb1).more hb1.size)
    go_wp2_with (go_at_call 19; refine (BH.out _ H1.out).mono ?_; rintro e w2 ⟨rfl, hb2⟩)
    have b2 := hb1.trans (hb2.mono hb1.size)
    go_loopw [4, 16] (fun v i wr => ∃ k : Nat, k ≤ n ∧ i = .int .i64 k ∧ wr.ownsRow w.heap.size 44 2 v k (pc (shTo xs g k)) ∧ Below w.heap.size w wr) (fun _ i _ => n - (intOf i).toNat)
    case atStart => exact ⟨0, Nat.zero_le _, rfl, own_empty _ _ _ _ b2.size, b2.alloc b2.size _⟩
    case round =>
      obtain ⟨k, hk, rfl, hown, hbl⟩ := hrel
      by_cases hlt : (k : Int) < n
      · obtain ⟨b, o, rfl, hbB, hcell⟩ := H.out.pairAt (by omega)
        obtain ⟨⟨x, y⟩, hx⟩ : ∃ p, xs[k]? = some p := ⟨_, List.getElem?_eq_getElem (by rw [HL.out]; omega)⟩
        obtain ⟨⟨x0, y0⟩, hx0⟩ : ∃ p, xs[0]? = some p := ⟨_, List.getElem?_eq_getElem (by rw [HL.out]; omega)⟩
        obtain ⟨g0, g1⟩ := hcell k _ hx
        obtain ⟨g2, _⟩ := hcell 0 _ hx0
        rw [show o + 0 * 2 = o by omega] at g2
        have c0 : wr.cell? ⟨b, o + k * 2, none⟩ = some (.int .i64 x) := (hbl.cell (p := ⟨b, o + k * 2, none⟩) hbB).trans g0
        have c1 : wr.cell? ⟨b, o + k * 2 + 1, none⟩ = some (.int .i64 y) := (hbl.cell (p := ⟨b, o + k * 2 + 1, none⟩) hbB).trans g1
        have hbs : b < wr.heap.size := by have := hbl.size; omega
        have ht := bt_bd HQ.out (show k < xs.length by rw [HL.out]; omega)
        have hte : bt xs k = x - x0 := by unfold bt; rw [nt_of hx, nt_of hx0]
        rw [hte] at ht
        have hst : shTo xs g (k + 1) = shTo xs g k ++ [(((x - x0) / g), y)] := by rw [shTo_step, hte, nt_of hx, show max 1 g = g by omega]
        have HST := Lib.hid hst
        have a1 := (tune_at HQ.out (show k < xs.length by rw [HL.out]; omega))
        rw [nt_of hx] at a1
        have a2 := (tune_at HQ.out (show 0 < xs.length by rw [HL.out]; omega))
        rw [nt_of hx0] at a2
        obtain ⟨a10, a11, _, _⟩ := a1
        obtain ⟨a20, a21, _, _⟩ := a2
        simp only at a10 a11 a20 a21
        obtain ⟨ht0, ht1⟩ := ht
        have hw : IntKind.i64.wrap (x - x0) = x - x0 := IntWalk.i64_in _ (by omega)
        have hq0 := Int.ediv_nonneg ht0 (show 0 ≤ g by omega)
        have hq1 := Int.ediv_le_self g ht0
        obtain ⟨w3, hw3⟩ : ∃ w3, w3 = wr.alloc (.cells #[.int .i64 x, .int .i64 y] 44) := ⟨_, rfl⟩
        have hb0 := (Blk.new wr 44 #[.int .i64 x, .int .i64 y])
        rw [← hw3] at hb0
        obtain ⟨e0, e1⟩ := hb0.c2
        have bn : Below w.heap.size w w3 := by rw [hw3]; exact hbl.alloc hbl.size _
        have G2 := Lib.hid g2
        have d0 : w3.cell? ⟨b, o, none⟩ = some (.int .i64 x0) := (bn.cell (p := ⟨b, o, none⟩) hbB).trans g2
        have ho3 := hown.alloc (.cells #[.int .i64 x, .int .i64 y] 44)
        rw [← hw3] at ho3
        have hne : some wr.heap.size ≠ Value.ownBlock u4 := fun e => by have := (hown.lt _ e.symm).2; omega
        have HO := Lib.hid ho3
        have HNE := Lib.hid hne
        have E0 := Lib.hid e0
        have E1 := Lib.hid e1
        clear hx hx0 g0 g1 g2 hcell hte hst hb0 hown ho3 hne
        go_wp2
        rw [← hw3]
        clear hw3
        have hn0 : 0 < n := by omega
        have hgz : ¬ g = 0 := by omega
        have hqq : IntKind.i64.wrap ((x - x0).tdiv g) = (x - x0) / g := IntWalk.i64_quo _ _ (by omega)
        have n0 := World.new_ne w3 _ e0
        have n1 := World.new_ne w3 _ e1
        have n2 := World.new_ne w3 _ d0
        go_region_held3 (fun w' => w'.cell? ⟨wr.heap.size, 0, none⟩ = some (.int .i64 x) ∧ w'.cell? ⟨wr.heap.size, 1, none⟩ = some (.int .i64 y) ∧ w'.cell? ⟨b, o, none⟩ = some (.int .i64 x0)) (first | go_keep | exact ⟨k0, k1, k2⟩) ((refine step_app_Note (w := w3) (W := w) (by rfl) (.tmp 20) (.tmp 33) (by rfl) w.heap.size _ _ _ ((x - x0) / g) y (by rfl) HO.out (by rfl) (by omega) bn.size bn ?_; intro v' w' hown' hg' hbl'; have k0 := hg'.cell E0.out HNE.out; have k1 := hg'.cell E1.out HNE.out; have k2 := (hbl'.cell (p := ⟨b, o, none⟩) hbB).trans G2.out))
        go_wp2
        have HO' := Lib.hid hown'
        clear hown' hg'
        go_roundw
        case rel => exact ⟨k + 1, by omega, by go_num, by rw [HST.out]; exact HO'.out, hbl'⟩
        case measure => simp [intOf] <;> omega
      · obtain rfl : k = n := by omega
        have HO := Lib.hid hown
        clear hown
        go_wp2
        go_ret
        exact madeP_of HO.out hbl
  case neg =>
    go_enter Try.func22, Try.ntmps22
    go_wp2_with (go_at_call 38; refine (TH.out _ H.out).mono ?_; rintro e w1 ⟨rfl, hb1⟩)
    have H1 := Lib.hid ((H.out.below hb1).more hb1.size)
    go_wp2_with (go_at_call 19; refine (BH.out _ H1.out).mono ?_; rintro e w2 ⟨rfl, hb2⟩)
    have b2 := hb1.trans (hb2.mono hb1.size)
    go_loopw [4, 16] (fun v i wr => ∃ k : Nat, k ≤ n ∧ i = .int .i64 k ∧ wr.ownsRow w.heap.size 44 2 v k (pc (shTo xs g k)) ∧ Below w.heap.size w wr) (fun _ i _ => n - (intOf i).toNat)
    case atStart => exact ⟨0, Nat.zero_le _, rfl, own_empty _ _ _ _ b2.size, b2.alloc b2.size _⟩
    case round =>
      obtain ⟨k, hk, rfl, hown, hbl⟩ := hrel
      by_cases hlt : (k : Int) < n
      · obtain ⟨b, o, rfl, hbB, hcell⟩ := H.out.pairAt (by omega)
        obtain ⟨⟨x, y⟩, hx⟩ : ∃ p, xs[k]? = some p := ⟨_, List.getElem?_eq_getElem (by rw [HL.out]; omega)⟩
        obtain ⟨⟨x0, y0⟩, hx0⟩ : ∃ p, xs[0]? = some p := ⟨_, List.getElem?_eq_getElem (by rw [HL.out]; omega)⟩
        obtain ⟨g0, g1⟩ := hcell k _ hx
        obtain ⟨g2, _⟩ := hcell 0 _ hx0
        rw [show o + 0 * 2 = o by omega] at g2
        have c0 : wr.cell? ⟨b, o + k * 2, none⟩ = some (.int .i64 x) := (hbl.cell (p := ⟨b, o + k * 2, none⟩) hbB).trans g0
        have c1 : wr.cell? ⟨b, o + k * 2 + 1, none⟩ = some (.int .i64 y) := (hbl.cell (p := ⟨b, o + k * 2 + 1, none⟩) hbB).trans g1
        have hbs : b < wr.heap.size := by have := hbl.size; omega
        have ht := bt_bd HQ.out (show k < xs.length by rw [HL.out]; omega)
        have hte : bt xs k = x - x0 := by unfold bt; rw [nt_of hx, nt_of hx0]
        rw [hte] at ht
        have hst : shTo xs g (k + 1) = shTo xs g k ++ [((x - x0), y)] := by rw [shTo_step, hte, nt_of hx, show max 1 g = 1 by omega, Int.ediv_one]
        have HST := Lib.hid hst
        have a1 := (tune_at HQ.out (show k < xs.length by rw [HL.out]; omega))
        rw [nt_of hx] at a1
        have a2 := (tune_at HQ.out (show 0 < xs.length by rw [HL.out]; omega))
        rw [nt_of hx0] at a2
        obtain ⟨a10, a11, _, _⟩ := a1
        obtain ⟨a20, a21, _, _⟩ := a2
        simp only at a10 a11 a20 a21
        obtain ⟨ht0, ht1⟩ := ht
        have hw : IntKind.i64.wrap (x - x0) = x - x0 := IntWalk.i64_in _ (by omega)
        have hq0 := Int.ediv_nonneg ht0 (show 0 ≤ g by omega)
        have hq1 := Int.ediv_le_self g ht0
        obtain ⟨w3, hw3⟩ : ∃ w3, w3 = wr.alloc (.cells #[.int .i64 x, .int .i64 y] 44) := ⟨_, rfl⟩
        have hb0 := (Blk.new wr 44 #[.int .i64 x, .int .i64 y])
        rw [← hw3] at hb0
        obtain ⟨e0, e1⟩ := hb0.c2
        have bn : Below w.heap.size w w3 := by rw [hw3]; exact hbl.alloc hbl.size _
        have G2 := Lib.hid g2
        have d0 : w3.cell? ⟨b, o, none⟩ = some (.int .i64 x0) := (bn.cell (p := ⟨b, o, none⟩) hbB).trans g2
        have ho3 := hown.alloc (.cells #[.int .i64 x, .int .i64 y] 44)
        rw [← hw3] at ho3
        have hne : some wr.heap.size ≠ Value.ownBlock u4 := fun e => by have := (hown.lt _ e.symm).2; omega
        have HO := Lib.hid ho3
        have HNE := Lib.hid hne
        have E0 := Lib.hid e0
        have E1 := Lib.hid e1
        clear hx hx0 g0 g1 g2 hcell hte hst hb0 hown ho3 hne
        go_wp2
        rw [← hw3]
        clear hw3
        have hn0 : 0 < n := by omega
        have hgz : ¬ 1 = 0 := by omega
        have hqq : IntKind.i64.wrap ((x - x0).tdiv 1) = (x - x0) / 1 := IntWalk.i64_quo _ _ (by omega)
        have n0 := World.new_ne w3 _ e0
        have n1 := World.new_ne w3 _ e1
        have n2 := World.new_ne w3 _ d0
        go_region_held3 (fun w' => w'.cell? ⟨wr.heap.size, 0, none⟩ = some (.int .i64 x) ∧ w'.cell? ⟨wr.heap.size, 1, none⟩ = some (.int .i64 y) ∧ w'.cell? ⟨b, o, none⟩ = some (.int .i64 x0)) (first | go_keep | exact ⟨k0, k1, k2⟩) ((refine step_app_Note (w := w3) (W := w) (by rfl) (.tmp 20) (.tmp 33) (by rfl) w.heap.size _ _ _ (x - x0) y (by rfl) HO.out (by rfl) (by omega) bn.size bn ?_; intro v' w' hown' hg' hbl'; have k0 := hg'.cell E0.out HNE.out; have k1 := hg'.cell E1.out HNE.out; have k2 := (hbl'.cell (p := ⟨b, o, none⟩) hbB).trans G2.out))
        go_wp2
        have HO' := Lib.hid hown'
        clear hown' hg'
        go_roundw
        case rel => exact ⟨k + 1, by omega, by go_num, by rw [HST.out]; exact HO'.out, hbl'⟩
        case measure => simp [intOf] <;> omega
      · obtain rfl : k = n := by omega
        have HO := Lib.hid hown
        clear hown
        go_wp2
        go_ret
        exact madeP_of HO.out hbl

set_option maxHeartbeats 1000000 in
theorem sShortened (A : Option Addr) (n c : Nat) (xs : List (Int × Int)) (w : World) (h : Rd w w.heap.size 2 A n (pc xs)) (hn : n ≤ 1048576) :
    Calls Try.prog 21 #[.slice A n c] w (MadeP w (shortV xs)) := by
  have hlen := h.pair
  have H1 := Lib.hid ((h.alloc (Nat.le_refl _) (.cells #[] 44)).more (B' := (w.alloc (.cells #[] 44)).heap.size) (by simp))
  have H := Lib.hid h
  have HL := Lib.hid hlen
  clear h hlen
  have OE := Lib.hid (own_empty w 44 2 w.heap.size (Nat.le_refl _))
  have BH := Lib.hid (fun w h => sBeatsOf A n c xs w h hn)
  cases hq : tuneB xs
  · rw [short_no hq]
    have TH := Lib.hid (fun w h => sTuneF (A := A) (n := n) (c := c) hq hn w h)
    rw [beats_not hq] at BH
    have hn0 : (0 : Int) < n := by
      have := HL.out
      by_cases e : n = 0
      · obtain rfl : xs = [] := List.eq_nil_of_length_eq_zero (by omega)
        simp [tuneB, tuneTo] at hq
      · omega
    clear hq
    go_enter Try.func21, Try.ntmps21
    go_wp2_with (go_at_call 17; refine (BH.out _ H1.out).mono ?_; rintro e w2 ⟨rfl, hb2⟩)
    have b2 : Below w.heap.size w w2 := ((Below.refl _ _).alloc (Nat.le_refl _) _).trans (hb2.mono (by simp))
    have O2 := Lib.hid (own_below OE.out hb2)
    go_loopw [3, 5] (fun v i wr => i = .int .i64 0 ∧ v = .slice (some ⟨w.heap.size, 0, none⟩) 0 0 ∧ wr = w2) (fun _ i _ => n - (intOf i).toNat)
    case atStart => exact ⟨rfl, rfl, rfl⟩
    case round =>
      obtain ⟨rfl, rfl, rfl⟩ := hrel
      go_wp2_with (go_at_call 35; refine (TH.out _ ((H.out.below b2).more b2.size)).mono ?_; rintro e w3 ⟨rfl, hb3⟩)
      go_ret
      exact madeP_of (l := []) (own_below O2.out hb3) (b2.trans (hb3.mono b2.size))
  rw [short_yes hq, HL.out]
  have hn40 : (n : Int) ≤ 40 := by have := tune_len hq; have := HL.out; omega
  have TH := Lib.hid (fun w h => sTuneF (A := A) (n := n) (c := c) hq hn w h)
  have hbz := beats_yes hq
  rw [HL.out] at hbz
  rw [hbz] at BH
  have hgb := beatsTo_bd hq n (by rw [HL.out]; exact Nat.le_refl _)
  obtain ⟨g, hg⟩ : ∃ g, g = beatsTo xs n := ⟨_, rfl⟩
  rw [← hg] at BH hgb ⊢
  obtain ⟨hg0, hg1⟩ := hgb
  have HQ := Lib.hid hq
  clear hq hbz hg
  by_cases hg1 : 0 < g
  case pos =>
    go_enter Try.func21, Try.ntmps21
    go_wp2_with (go_at_call 17; refine (BH.out _ H1.out).mono ?_; rintro e w2 ⟨rfl, hb2⟩)
    have b2 : Below w.heap.size w w2 := ((Below.refl _ _).alloc (Nat.le_refl _) _).trans (hb2.mono (by simp))
    have O2 := Lib.hid (own_below OE.out hb2)
    go_loopw [3, 5] (fun v i wr => ∃ k : Nat, k ≤ n ∧ i = .int .i64 k ∧ wr.ownsRow w.heap.size 44 2 v k (pc (shTo xs g k)) ∧ Below w.heap.size w wr) (fun _ i _ => n - (intOf i).toNat)
    case atStart => exact ⟨0, Nat.zero_le _, rfl, O2.out, b2⟩
    case round =>
      obtain ⟨k, hk, rfl, hown, hbl⟩ := hrel
      by_cases hlt : (k : Int) < n
      · obtain ⟨b, o, hA, hbB, hcell⟩ := H.out.pairAt (by omega)
        obtain ⟨⟨x, y⟩, hx⟩ : ∃ p, xs[k]? = some p := ⟨_, List.getElem?_eq_getElem (by rw [HL.out]; omega)⟩
        obtain ⟨⟨x0, y0⟩, hx0⟩ : ∃ p, xs[0]? = some p := ⟨_, List.getElem?_eq_getElem (by rw [HL.out]; omega)⟩
        obtain ⟨g0, g1⟩ := hcell k _ hx
        obtain ⟨g2, _⟩ := hcell 0 _ hx0
        rw [show o + 0 * 2 = o by omega] at g2
        have ht := bt_bd HQ.out (show k < xs.length by rw [HL.out]; omega)
        have hte : bt xs k = x - x0 := by unfold bt; rw [nt_of hx, nt_of hx0]
        rw [hte] at ht
        have hst : shTo xs g (k + 1) = shTo xs g k ++ [(((x - x0) / g), y)] := by rw [shTo_step, hte, nt_of hx, show max 1 g = g by omega]
        have HST := Lib.hid hst
        have a1 := (tune_at HQ.out (show k < xs.length by rw [HL.out]; omega))
        rw [nt_of hx] at a1
        have a2 := (tune_at HQ.out (show 0 < xs.length by rw [HL.out]; omega))
        rw [nt_of hx0] at a2
        obtain ⟨a10, a11, _, _⟩ := a1
        obtain ⟨a20, a21, _, _⟩ := a2
        simp only at a10 a11 a20 a21
        obtain ⟨ht0, ht1⟩ := ht
        have hq0 := Int.ediv_nonneg ht0 (show 0 ≤ g by omega)
        have hq1 := Int.ediv_le_self g ht0
        have hn0 : 0 < n := by omega
        have HR := Lib.hid ((H.out.below hbl).more hbl.size)
        subst hA
        have G0 := Lib.hid g0
        have G1 := Lib.hid g1
        have G2 := Lib.hid g2
        have HO := Lib.hid hown
        clear hx hx0 g0 g1 g2 hcell hte hst hown
        go_wp2_with fail
        refine (TH.out _ HR.out).mono ?_
        rintro e w3 ⟨rfl, hb3⟩
        have b3 : Below w.heap.size w w3 := hbl.trans (hb3.mono hbl.size)
        have O3 := Lib.hid (ownv_below HO.out hb3)
        have c0 : w3.cell? ⟨b, o + k * 2, none⟩ = some (.int .i64 x) := (b3.cell (p := ⟨b, o + k * 2, none⟩) hbB).trans G0.out
        have c1 : w3.cell? ⟨b, o + k * 2 + 1, none⟩ = some (.int .i64 y) := (b3.cell (p := ⟨b, o + k * 2 + 1, none⟩) hbB).trans G1.out
        have d0 : w3.cell? ⟨b, o, none⟩ = some (.int .i64 x0) := (b3.cell (p := ⟨b, o, none⟩) hbB).trans G2.out
        go_wp2
        go_quiet (fail)
        have b4 : Below w.heap.size w (w3.drewN nq) := b3.trans (Go.Joins.below_draws _ _ _)
        have O4 := Lib.hid (own_drewN O3.out nq)
        go_wp2_with (at_builtin; refine wpList_app_Note (W := w) rfl (.tmp 35) (.tmp 43) rfl w.heap.size _ _ _ _ _ rfl O4.out rfl (by omega) b4.size b4 ?_; intro v' w' hown' hg' hbl')
        have HO' := Lib.hid hown'
        clear hown' hg'
        go_roundw
        case rel => exact ⟨k + 1, by omega, by go_num, by rw [HST.out]; exact HO'.out, hbl'⟩
        case measure => simp [intOf] <;> omega
      · obtain rfl : k = n := by omega
        have HO := Lib.hid hown
        clear hown
        go_wp2
        go_ret
        exact madeP_of HO.out hbl
  case neg =>
    go_enter Try.func21, Try.ntmps21
    go_wp2_with (go_at_call 17; refine (BH.out _ H1.out).mono ?_; rintro e w2 ⟨rfl, hb2⟩)
    have b2 : Below w.heap.size w w2 := ((Below.refl _ _).alloc (Nat.le_refl _) _).trans (hb2.mono (by simp))
    have O2 := Lib.hid (own_below OE.out hb2)
    go_loopw [3, 5] (fun v i wr => ∃ k : Nat, k ≤ n ∧ i = .int .i64 k ∧ wr.ownsRow w.heap.size 44 2 v k (pc (shTo xs g k)) ∧ Below w.heap.size w wr) (fun _ i _ => n - (intOf i).toNat)
    case atStart => exact ⟨0, Nat.zero_le _, rfl, O2.out, b2⟩
    case round =>
      obtain ⟨k, hk, rfl, hown, hbl⟩ := hrel
      by_cases hlt : (k : Int) < n
      · obtain ⟨b, o, hA, hbB, hcell⟩ := H.out.pairAt (by omega)
        obtain ⟨⟨x, y⟩, hx⟩ : ∃ p, xs[k]? = some p := ⟨_, List.getElem?_eq_getElem (by rw [HL.out]; omega)⟩
        obtain ⟨⟨x0, y0⟩, hx0⟩ : ∃ p, xs[0]? = some p := ⟨_, List.getElem?_eq_getElem (by rw [HL.out]; omega)⟩
        obtain ⟨g0, g1⟩ := hcell k _ hx
        obtain ⟨g2, _⟩ := hcell 0 _ hx0
        rw [show o + 0 * 2 = o by omega] at g2
        have ht := bt_bd HQ.out (show k < xs.length by rw [HL.out]; omega)
        have hte : bt xs k = x - x0 := by unfold bt; rw [nt_of hx, nt_of hx0]
        rw [hte] at ht
        have hst : shTo xs g (k + 1) = shTo xs g k ++ [((x - x0), y)] := by rw [shTo_step, hte, nt_of hx, show max 1 g = 1 by omega, Int.ediv_one]
        have HST := Lib.hid hst
        have a1 := (tune_at HQ.out (show k < xs.length by rw [HL.out]; omega))
        rw [nt_of hx] at a1
        have a2 := (tune_at HQ.out (show 0 < xs.length by rw [HL.out]; omega))
        rw [nt_of hx0] at a2
        obtain ⟨a10, a11, _, _⟩ := a1
        obtain ⟨a20, a21, _, _⟩ := a2
        simp only at a10 a11 a20 a21
        obtain ⟨ht0, ht1⟩ := ht
        have hq0 := Int.ediv_nonneg ht0 (show 0 ≤ g by omega)
        have hq1 := Int.ediv_le_self g ht0
        have hn0 : 0 < n := by omega
        have HR := Lib.hid ((H.out.below hbl).more hbl.size)
        subst hA
        have G0 := Lib.hid g0
        have G1 := Lib.hid g1
        have G2 := Lib.hid g2
        have HO := Lib.hid hown
        clear hx hx0 g0 g1 g2 hcell hte hst hown
        go_wp2_with fail
        refine (TH.out _ HR.out).mono ?_
        rintro e w3 ⟨rfl, hb3⟩
        have b3 : Below w.heap.size w w3 := hbl.trans (hb3.mono hbl.size)
        have O3 := Lib.hid (ownv_below HO.out hb3)
        have c0 : w3.cell? ⟨b, o + k * 2, none⟩ = some (.int .i64 x) := (b3.cell (p := ⟨b, o + k * 2, none⟩) hbB).trans G0.out
        have c1 : w3.cell? ⟨b, o + k * 2 + 1, none⟩ = some (.int .i64 y) := (b3.cell (p := ⟨b, o + k * 2 + 1, none⟩) hbB).trans G1.out
        have d0 : w3.cell? ⟨b, o, none⟩ = some (.int .i64 x0) := (b3.cell (p := ⟨b, o, none⟩) hbB).trans G2.out
        go_wp2
        go_quiet (fail)
        have b4 : Below w.heap.size w (w3.drewN nq) := b3.trans (Go.Joins.below_draws _ _ _)
        have O4 := Lib.hid (own_drewN O3.out nq)
        go_wp2_with (at_builtin; refine wpList_app_Note (W := w) rfl (.tmp 35) (.tmp 43) rfl w.heap.size _ _ _ _ _ rfl O4.out rfl (by omega) b4.size b4 ?_; intro v' w' hown' hg' hbl')
        have HO' := Lib.hid hown'
        clear hown' hg'
        go_roundw
        case rel => exact ⟨k + 1, by omega, by go_num, by rw [HST.out]; exact HO'.out, hbl'⟩
        case measure => simp [intOf] <;> omega
      · obtain rfl : k = n := by omega
        have HO := Lib.hid hown
        clear hown
        go_wp2
        go_ret
        exact madeP_of HO.out hbl

end Go.Proofs.Ytbiokfgkiillkaa
