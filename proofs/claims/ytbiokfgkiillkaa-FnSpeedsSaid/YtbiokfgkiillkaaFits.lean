/-
  FitsTurn of impl and of spec: does a shortened tune end before so many steps?
-/
import Derived.Test.YtbiokfgkiillkaaShort
namespace Go.Proofs.Ytbiokfgkiillkaa
open Go.RowKit

def fitsTo (ys : List (Int × Int)) (s : Int) : Bool := ys.all fun p => decide (p.1 < s)
def fitsB (xs : List (Int × Int)) (s : Int) : Bool := tuneB xs && inB s 4 96 && fitsTo (shortV xs) s
/-- the times of a shortened tune ascend: the last one tells of all -/
theorem sh_get (xs : List (Int × Int)) (g : Int) (n k : Nat) (hk : k < n) : (shTo xs g n)[k]? = some (bt xs k / max 1 g, (nt xs k).2) := by simp [shTo, hk]
theorem fits_last {xs : List (Int × Int)} {g s : Int} {n : Nat} (h : tuneB xs = true) (hn : n + 1 = xs.length) : fitsTo (shTo xs g (n + 1)) s = decide (bt xs n / max 1 g < s) := by
  by_cases hs : bt xs n / max 1 g < s
  · rw [decide_eq_true hs]
    unfold fitsTo
    rw [List.all_eq_true]
    intro p hp
    obtain ⟨k, hk⟩ := List.getElem?_of_mem hp
    have hkn : k < n + 1 := by have := (List.getElem?_eq_some_iff.1 hk).1; rw [shTo_len] at this; exact this
    rw [sh_get _ _ _ _ hkn] at hk
    injection hk with hk
    subst hk
    have hm := tune_mono h (show k ≤ n by omega) (show n < xs.length by omega)
    have hb : bt xs k ≤ bt xs n := by unfold bt; omega
    have := Int.ediv_le_ediv (show 0 < max 1 g by omega) hb
    simp
    omega
  · rw [decide_eq_false hs, Bool.eq_false_iff]
    intro ha
    unfold fitsTo at ha
    have := List.all_eq_true.1 ha _ (List.mem_of_getElem? (sh_get xs g (n + 1) n (by omega)))
    simp at this
    exact hs this
theorem fits_step {ys : List (Int × Int)} {k : Nat} {p : Int × Int} {s : Int} (h : ys[k]? = some p) (ha : fitsTo (ys.take k) s = true) (hp : p.1 < s) : fitsTo (ys.take (k + 1)) s = true := by
  obtain ⟨hk, rfl⟩ := List.getElem?_eq_some_iff.1 h
  unfold fitsTo at *
  rw [List.take_succ_eq_append_getElem hk, List.all_append, ha]
  simp [hp]
theorem fits_stop {ys : List (Int × Int)} {k : Nat} {p : Int × Int} {s : Int} (h : ys[k]? = some p) (hp : ¬ p.1 < s) : fitsTo ys s = false := by
  rw [Bool.eq_false_iff]
  intro ha
  have := List.all_eq_true.1 ha _ (List.mem_of_getElem? h)
  simp at this
  exact hp this

set_option maxHeartbeats 1000000 in
theorem iFitsTurn (A : Option Addr) (n c : Nat) (xs : List (Int × Int)) (s : Int) (w : World) (h : Rd w w.heap.size 2 A n (pc xs)) (hn : n ≤ 1048576) :
    Calls Try.prog 26 #[.slice A n c, .int .i64 s] w fun e w' => e = .returned (.bool (fitsB xs s)) ∧ Below w.heap.size w w' := by
  have H := Lib.hid h
  clear h
  cases hq : tuneB xs
  · rw [show fitsB xs s = false by simp [fitsB, hq]]
    have TH := Lib.hid (fun w h => iTuneF (A := A) (n := n) (c := c) hq hn w h)
    clear hq
    go_enter Try.func26, Try.ntmps26
    go_wp2_with (go_at_call 38; refine (TH.out _ H.out).mono ?_; rintro e w1 ⟨rfl, hb1⟩)
    go_ret
    exact ⟨rfl, by (repeat (first | exact Below.refl _ _ | assumption | refine Below.alloc ?_ (by first | omega | (simp <;> omega)) _ | refine Below.setCell ?_ (by first | omega | (simp <;> omega)) _ | refine Below.drew ?_ | refine Below.trans ?_ (Below.mono (by assumption) (by first | omega | (simp <;> omega)))))⟩
  have TH := Lib.hid (fun w h => iTuneF (A := A) (n := n) (c := c) hq hn w h)
  cases hs : inB s 4 96
  · rw [show fitsB xs s = false by simp [fitsB, hs]]
    clear hq
    go_enter Try.func26, Try.ntmps26
    go_wp2_with (first | (go_at_call 38; refine (TH.out _ H.out).mono ?_; rintro e w1 ⟨rfl, hb1⟩) | (go_at_call 34; refine (within_any _ _ _ _).mono ?_; rintro e w' ⟨rfl, rfl⟩; rw [hs]))
    go_ret
    exact ⟨rfl, by (repeat (first | exact Below.refl _ _ | assumption | refine Below.alloc ?_ (by first | omega | (simp <;> omega)) _ | refine Below.setCell ?_ (by first | omega | (simp <;> omega)) _ | refine Below.drew ?_ | refine Below.trans ?_ (Below.mono (by assumption) (by first | omega | (simp <;> omega)))))⟩
  rw [show fitsB xs s = fitsTo (shortV xs) s by simp [fitsB, hs, hq]]
  have SH := Lib.hid (fun w h => iShortened A n c xs w h hn)
  have hsm : (shortV xs).length ≤ 1048576 := fnExactShortened_small
  obtain ⟨ys, hys⟩ : ∃ ys, ys = shortV xs := ⟨_, rfl⟩
  rw [← hys] at SH hsm ⊢
  have hm2 : (ys.length : Int) ≤ 1048576 := by omega
  clear hq hys
  go_enter Try.func26, Try.ntmps26
  go_wp2_with (first | (go_at_call 38; refine (TH.out _ H.out).mono ?_; rintro e w1 ⟨rfl, hb1⟩) | (go_at_call 34; refine (within_any _ _ _ _).mono ?_; rintro e w' ⟨rfl, rfl⟩; rw [hs]) | (go_at_call 22; refine (SH.out _ ((H.out.below hb1).more hb1.size)).mono ?_; rintro e w2 ⟨A2, c2, rfl, ho2, hb2⟩))
  have b2 : Below w.heap.size w w2 := hb1.trans (hb2.mono hb1.size)
  have R2 := Lib.hid (Rd.of_own ho2)
  clear ho2
  go_loopw [18] (fun i wr => ∃ k : Nat, k ≤ ys.length ∧ i = .int .i64 k ∧ fitsTo (ys.take k) s = true ∧ Below w2.heap.size w2 wr) (fun i _ => ys.length - (intOf i).toNat)
  case atStart => exact ⟨0, Nat.zero_le _, rfl, rfl, Below.refl _ _⟩
  case round =>
    obtain ⟨k, hk, rfl, hall, hbl⟩ := hrel
    have HA := Lib.hid hall
    clear hall
    by_cases hlt : (k : Int) < ys.length
    · obtain ⟨b, o, rfl, hbB, hcell⟩ := R2.out.pairAt (by omega)
      obtain ⟨⟨x, y⟩, hx⟩ : ∃ p, ys[k]? = some p := ⟨_, List.getElem?_eq_getElem (by omega)⟩
      obtain ⟨g0, g1⟩ := hcell k _ hx
      have c0 : wr.cell? ⟨b, o + k * 2, none⟩ = some (.int .i64 x) := (hbl.cell (p := ⟨b, o + k * 2, none⟩) hbB).trans g0
      have c1 : wr.cell? ⟨b, o + k * 2 + 1, none⟩ = some (.int .i64 y) := (hbl.cell (p := ⟨b, o + k * 2 + 1, none⟩) hbB).trans g1
      have HX := Lib.hid hx
      obtain ⟨e0, e1⟩ := (Blk.new wr 44 #[.int .i64 x, .int .i64 y]).c2
      clear hx g0 g1 hcell
      by_cases hxs : x < s
      · go_wp2
        go_roundw
        case rel => exact ⟨k + 1, by omega, by go_num, fits_step HX.out HA.out hxs, hbl.alloc hbl.size _⟩
        case measure => simp [intOf] <;> omega
      · go_wp2
        go_ret
        exact ⟨by rw [fits_stop HX.out (show ¬ x < s by omega)]; rfl, b2.trans ((hbl.alloc hbl.size _).mono b2.size)⟩
    · obtain rfl : k = ys.length := by omega
      go_wp2
      go_ret
      have := HA.out
      rw [List.take_length] at this
      exact ⟨by rw [this]; rfl, b2.trans (hbl.mono b2.size)⟩

set_option maxHeartbeats 1000000 in
theorem sFitsTurn (A : Option Addr) (n c : Nat) (xs : List (Int × Int)) (s : Int) (w : World) (h : Rd w w.heap.size 2 A n (pc xs)) (hn : n ≤ 1048576) :
    Calls Try.prog 25 #[.slice A n c, .int .i64 s] w fun e w' => e = .returned (.bool (fitsB xs s)) ∧ Below w.heap.size w w' := by
  have H := Lib.hid h
  have hlen := h.pair
  clear h
  cases hq : tuneB xs
  · rw [show fitsB xs s = false by simp [fitsB, hq]]
    have TH := Lib.hid (fun w h => sTuneF (A := A) (n := n) (c := c) hq hn w h)
    clear hq hlen
    go_enter Try.func25, Try.ntmps25
    go_wp2_with (go_at_call 35; refine (TH.out _ H.out).mono ?_; rintro e w1 ⟨rfl, hb1⟩)
    go_ret
    exact ⟨rfl, by (repeat (first | exact Below.refl _ _ | assumption | refine Below.alloc ?_ (by first | omega | (simp <;> omega)) _ | refine Below.setCell ?_ (by first | omega | (simp <;> omega)) _ | refine Below.drew ?_ | refine Below.trans ?_ (Below.mono (by assumption) (by first | omega | (simp <;> omega)))))⟩
  have TH := Lib.hid (fun w h => sTuneF (A := A) (n := n) (c := c) hq hn w h)
  cases hs : inB s 4 96
  · rw [show fitsB xs s = false by simp [fitsB, hs]]
    clear hq hlen
    go_enter Try.func25, Try.ntmps25
    go_wp2_with (first | (go_at_call 35; refine (TH.out _ H.out).mono ?_; rintro e w1 ⟨rfl, hb1⟩) | (go_at_call 33; refine (l01In_any _ _ _ _).mono ?_; rintro e w' ⟨rfl, rfl⟩; rw [hs]))
    go_ret
    exact ⟨rfl, by (repeat (first | exact Below.refl _ _ | assumption | refine Below.alloc ?_ (by first | omega | (simp <;> omega)) _ | refine Below.setCell ?_ (by first | omega | (simp <;> omega)) _ | refine Below.drew ?_ | refine Below.trans ?_ (Below.mono (by assumption) (by first | omega | (simp <;> omega)))))⟩
  rw [show fitsB xs s = fitsTo (shortV xs) s by simp [fitsB, hs, hq]]
  have SH := Lib.hid (fun w h => sShortened A n c xs w h hn)
  have hsm : (shortV xs).length ≤ 1048576 := fnExactShortened_small
  have hfit : ∀ m, (shortV xs).length = m + 1 → ∃ p, (shortV xs)[m]? = some p ∧ fitsTo (shortV xs) s = decide (p.1 < s) := fun m hm => by
    rw [short_yes hq] at hm ⊢
    rw [shTo_len] at hm
    rw [hm]
    exact ⟨_, sh_get _ _ _ _ (by omega), fits_last hq hm.symm⟩
  obtain ⟨ys, hys⟩ : ∃ ys, ys = shortV xs := ⟨_, rfl⟩
  rw [← hys] at SH hsm hfit ⊢
  have hm2 : (ys.length : Int) ≤ 1048576 := by omega
  clear hq hys hlen
  have HF := Lib.hid hfit
  clear hfit
  by_cases h0 : (ys.length : Int) = 0
  · obtain rfl : ys = [] := List.eq_nil_of_length_eq_zero (by omega)
    go_enter Try.func25, Try.ntmps25
    go_wp2_with (first | (go_at_call 35; refine (TH.out _ H.out).mono ?_; rintro e w1 ⟨rfl, hb1⟩) | (go_at_call 33; refine (l01In_any _ _ _ _).mono ?_; rintro e w' ⟨rfl, rfl⟩; rw [hs]) | (go_at_call 21; refine (SH.out _ ((H.out.below hb1).more hb1.size)).mono ?_; rintro e w2 ⟨A2, c2, rfl, ho2, hb2⟩))
    go_ret
    exact ⟨rfl, hb1.trans (hb2.mono hb1.size)⟩
  obtain ⟨m, hm⟩ : ∃ m, ys.length = m + 1 := ⟨ys.length - 1, by omega⟩
  obtain ⟨⟨x, y⟩, hx, hf⟩ := HF.out m hm
  rw [hf]
  have HX := Lib.hid hx
  obtain ⟨L, hL⟩ : ∃ L, L = ys.length := ⟨_, rfl⟩
  have SH2 : Hid (∀ (w : World), Rd w w.heap.size 2 A n (pc xs) → Calls Try.prog 21 #[.slice A n c] w (MadeS w 44 2 L (pc ys))) := by
    have := SH.out
    unfold MadeP at this
    rw [← hL] at this
    exact Lib.hid this
  have hLm : L = m + 1 := by omega
  have hmi : (L : Int) ≤ 1048576 := by omega
  have hj : ((L : Int) == 0) = false := by simp; omega
  have hw : IntKind.i64.wrap ((L : Int) - 1) = m := by rw [IntWalk.i64_in _ (by omega)]; omega
  have hs2 : (L : Int) - 1 = m := by omega
  have hml : (m : Int) < L := by omega
  clear hx hf hm h0 SH hm2 hsm hL hLm
  obtain ⟨q, hq⟩ : ∃ q, decide ((x, y).1 < s) = q := ⟨_, rfl⟩
  rw [hq]
  simp only at hq
  cases q
  case false =>
    have hxs := of_decide_eq_false hq
    clear hq
    go_enter Try.func25, Try.ntmps25
    go_wp2_with (first | (go_at_call 35; refine (TH.out _ H.out).mono ?_; rintro e w1 ⟨rfl, hb1⟩) | (go_at_call 33; refine (l01In_any _ _ _ _).mono ?_; rintro e w' ⟨rfl, rfl⟩; rw [hs]) | fail)
    refine (SH2.out _ ((H.out.below hb1).more hb1.size)).mono ?_
    rintro e w2 ⟨A2, c2, rfl, ho2, hb2⟩
    have b2 : Below w.heap.size w w2 := hb1.trans (hb2.mono hb1.size)
    obtain ⟨b, o, rfl, hbB, hcell⟩ := (Rd.of_own ho2).pairAt (by omega)
    obtain ⟨g0, g1⟩ := hcell m _ HX.out
    clear hcell ho2
    go_wp2
    go_ret
    exact ⟨by simp [hxs], b2⟩
  case true =>
    have hxs := of_decide_eq_true hq
    clear hq
    go_enter Try.func25, Try.ntmps25
    go_wp2_with (first | (go_at_call 35; refine (TH.out _ H.out).mono ?_; rintro e w1 ⟨rfl, hb1⟩) | (go_at_call 33; refine (l01In_any _ _ _ _).mono ?_; rintro e w' ⟨rfl, rfl⟩; rw [hs]) | fail)
    refine (SH2.out _ ((H.out.below hb1).more hb1.size)).mono ?_
    rintro e w2 ⟨A2, c2, rfl, ho2, hb2⟩
    have b2 : Below w.heap.size w w2 := hb1.trans (hb2.mono hb1.size)
    obtain ⟨b, o, rfl, hbB, hcell⟩ := (Rd.of_own ho2).pairAt (by omega)
    obtain ⟨g0, g1⟩ := hcell m _ HX.out
    clear hcell ho2
    go_wp2
    go_ret
    exact ⟨by simp, b2⟩

end Go.Proofs.Ytbiokfgkiillkaa
