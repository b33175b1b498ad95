/-
  IsChord of impl and of spec: what it returns for all lists of pitches of at most 1048576, and the law on it.
-/
import Derived.Test.YteidigbjllicpaaIntS
import Derived.Test.YteidigbjllicpaaSweet
namespace Go.Proofs.Yteidigbjllicpaa
open Go.RowKit

theorem take_one {α : Type} {l : List α} {k : Nat} {y : α} (h : l[k]? = some y) : l.take (k + 1) = l.take k ++ [y] := by
  obtain ⟨hk, rfl⟩ := List.getElem?_eq_some_iff.1 h
  rw [List.take_succ_eq_append_getElem hk]
theorem all_step {α : Type} {l : List α} {k : Nat} {y : α} {f : α → Bool} (h : l[k]? = some y) (ha : (l.take k).all f = true) (hy : f y = true) : (l.take (k + 1)).all f = true := by
  rw [take_one h, List.all_append, ha]; simp [hy]
theorem all_stop {α : Type} {l : List α} {k : Nat} {y : α} {f : α → Bool} (h : l[k]? = some y) (hy : f y = false) : l.all f = false := by
  rw [Bool.eq_false_iff]; intro ha
  have := List.all_eq_true.1 ha y (List.mem_of_getElem? h)
  rw [hy] at this; cases this
theorem Rd.take {w : World} {B n : Nat} {A : Option Addr} {xs : List Value} (h : Rd w B 1 A n xs) {k : Nat} (hk : k ≤ n) : Rd w B 1 A k (xs.take k) := by
  refine ⟨by have := h.1; simp; omega, fun h0 => ?_⟩
  obtain ⟨b, o, e, hb, hc⟩ := h.2 (by omega)
  refine ⟨b, o, e, hb, fun j u hu => hc j u ?_⟩
  rw [List.getElem?_take] at hu
  split at hu
  · exact hu
  · cases hu

def pitchB (v : Int) : Bool := inB v 0 60
def withB (xs : List Int) (p : Int) : Bool := xs.all fun q => sweetB q p
def oneB (xs : List Int) (i : Nat) : Bool := withB (xs.take i) (xs.getD i 0)
def chordTo (xs : List Int) (k : Nat) : Bool := (List.range k).all (oneB xs)
def chordB (xs : List Int) : Bool := xs.all pitchB && decide (1 ≤ xs.length ∧ xs.length ≤ 8) && chordTo xs xs.length
theorem chordTo_step {xs : List Int} {k : Nat} (h : chordTo xs k = true) (h1 : oneB xs k = true) : chordTo xs (k + 1) = true := by
  unfold chordTo at *
  rw [List.range_succ, List.all_append, h]; simp [h1]
theorem chordTo_stop {xs : List Int} {k n : Nat} (hk : k < n) (h1 : oneB xs k = false) : chordTo xs n = false := by
  rw [Bool.eq_false_iff]; intro ha
  have := List.all_eq_true.1 ha k (List.mem_range.2 hk)
  rw [h1] at this; cases this

theorem iArePitches (A : Option Addr) (n c : Nat) (xs : List Int) (w : World) (h : Rd w w.heap.size 1 A n (xs.map (Value.int .i64))) (hn : n ≤ 1048576) :
    Calls Try.prog 39 #[.slice A n c] w fun e w' => e = .returned (.bool (xs.all pitchB && decide (n ≤ 8))) ∧ Below w.heap.size w w' := by
  have hlen : xs.length = n := by simpa using h.1
  have HL := Lib.hid hlen
  have H := Lib.hid h
  clear hlen h
  by_cases h8 : (n : Int) ≤ 8
  case neg =>
    rw [show decide (n ≤ 8) = false by simp; omega, Bool.and_false]
    go_enter Try.func39, Try.ntmps39
    go_wp2
    go_ret
    exact ⟨rfl, by (repeat (first | exact Below.refl _ _ | assumption | refine Below.alloc ?_ (by first | omega | (simp <;> omega)) _ | refine Below.setCell ?_ (by first | omega | (simp <;> omega)) _ | refine Below.drew ?_ | refine Below.trans ?_ (Below.mono (by assumption) (by first | omega | (simp <;> omega)))))⟩
  rw [show decide (n ≤ 8) = true by simp; omega, Bool.and_true]
  go_enter Try.func39, Try.ntmps39
  go_wp2
  go_loopw [10] (fun i wr => ∃ k : Nat, k ≤ n ∧ i = .int .i64 k ∧ (xs.take k).all pitchB = true ∧ Below w.heap.size w wr) (fun i _ => n - (intOf i).toNat)
  case atStart => exact ⟨0, Nat.zero_le _, rfl, by simp, by (repeat (first | exact Below.refl _ _ | assumption | refine Below.alloc ?_ (by first | omega | (simp <;> omega)) _ | refine Below.setCell ?_ (by first | omega | (simp <;> omega)) _ | refine Below.drew ?_ | refine Below.trans ?_ (Below.mono (by assumption) (by first | omega | (simp <;> omega)))))⟩
  case round =>
    obtain ⟨k, hk, rfl, hall, hbl⟩ := hrel
    have HA := Lib.hid hall
    clear hall
    by_cases hlt : (k : Int) < n
    · obtain ⟨b, o, rfl, hbB, hcell⟩ := H.out.cell (by omega)
      obtain ⟨y, hy⟩ : ∃ y, xs[k]? = some y := ⟨_, List.getElem?_eq_getElem (by rw [HL.out]; omega)⟩
      have c1 : wr.cell? ⟨b, o + k, none⟩ = some (.int .i64 y) := (hbl.cell (p := ⟨b, o + k, none⟩) hbB).trans (hcell k _ (by simp [hy]))
      have HY := Lib.hid hy
      clear hy hcell
      cases hs : inB y 0 60
      · go_wp2_with (go_at_call 36; refine (within_any _ _ _ _).mono ?_; rintro e w' ⟨rfl, rfl⟩)
        go_ret
        exact ⟨by rw [all_stop HY.out hs]; rfl, hbl⟩
      · go_wp2_with (go_at_call 36; refine (within_any _ _ _ _).mono ?_; rintro e w' ⟨rfl, rfl⟩)
        go_roundw
        case rel => exact ⟨k + 1, by omega, by go_num, all_step HY.out HA.out hs, hbl⟩
        case measure => simp [intOf]; omega
    · obtain rfl : k = n := by omega
      go_wp2
      go_ret
      have := HA.out
      rw [List.take_of_length_le (by rw [HL.out]; omega)] at this
      exact ⟨by rw [this]; rfl, hbl⟩

theorem sOk16 (A : Option Addr) (n c : Nat) (xs : List Int) (m : Int) (w : World) (h : Rd w w.heap.size 1 A n (xs.map (Value.int .i64))) (hn : n ≤ 1048576) :
    Calls Try.prog 38 #[.slice A n c, .int .i64 m] w fun e w' => e = .returned (.bool (xs.all pitchB && inB n m 8)) ∧ Below w.heap.size w w' := by
  have hlen : xs.length = n := by simpa using h.1
  have HL := Lib.hid hlen
  have H := Lib.hid h
  clear hlen h
  go_enter Try.func38, Try.ntmps38
  go_wp2
  go_loopw [5] (fun i wr => ∃ k : Nat, k ≤ n ∧ i = .int .i64 k ∧ (xs.take k).all pitchB = true ∧ Below w.heap.size w wr) (fun i _ => n - (intOf i).toNat)
  case atStart => exact ⟨0, Nat.zero_le _, rfl, by simp, by (repeat (first | exact Below.refl _ _ | assumption | refine Below.alloc ?_ (by first | omega | (simp <;> omega)) _ | refine Below.setCell ?_ (by first | omega | (simp <;> omega)) _ | refine Below.drew ?_ | refine Below.trans ?_ (Below.mono (by assumption) (by first | omega | (simp <;> omega)))))⟩
  case round =>
    obtain ⟨k, hk, rfl, hall, hbl⟩ := hrel
    have HA := Lib.hid hall
    clear hall
    by_cases hlt : (k : Int) < n
    · obtain ⟨b, o, rfl, hbB, hcell⟩ := H.out.cell (by omega)
      obtain ⟨y, hy⟩ : ∃ y, xs[k]? = some y := ⟨_, List.getElem?_eq_getElem (by rw [HL.out]; omega)⟩
      have c1 : wr.cell? ⟨b, o + k, none⟩ = some (.int .i64 y) := (hbl.cell (p := ⟨b, o + k, none⟩) hbB).trans (hcell k _ (by simp [hy]))
      have HY := Lib.hid hy
      clear hy hcell
      cases hs : inB y 0 60
      · go_wp2_with (go_at_call 35; refine (l01In_any _ _ _ _).mono ?_; rintro e w' ⟨rfl, rfl⟩)
        go_ret
        exact ⟨by rw [all_stop HY.out hs]; rfl, hbl⟩
      · go_wp2_with (go_at_call 35; refine (l01In_any _ _ _ _).mono ?_; rintro e w' ⟨rfl, rfl⟩)
        go_roundw
        case rel => exact ⟨k + 1, by omega, by go_num, all_step HY.out HA.out hs, hbl⟩
        case measure => simp [intOf]; omega
    · obtain rfl : k = n := by omega
      have ha := HA.out
      rw [List.take_of_length_le (by rw [HL.out]; omega)] at ha
      have HB := Lib.hid ha
      clear ha
      go_wp2_with (go_at_call 35; refine (l01In_any _ _ _ _).mono ?_; rintro e w' ⟨rfl, rfl⟩)
      go_ret
      exact ⟨by rw [HB.out, Bool.true_and]; rfl, hbl⟩

theorem iWith (A : Option Addr) (n c : Nat) (xs : List Int) (p : Int) (w : World) (h : Rd w w.heap.size 1 A n (xs.map (Value.int .i64))) (hn : n ≤ 1048576) :
    Calls Try.prog 40 #[.slice A n c, .int .i64 p] w fun e w' => e = .returned (.bool (withB xs p)) ∧ Below w.heap.size w w' := by
  have hlen : xs.length = n := by simpa using h.1
  have HL := Lib.hid hlen
  have H := Lib.hid h
  clear hlen h
  unfold withB
  obtain ⟨f, hf⟩ : ∃ f : Int → Bool, f = fun q => sweetB q p := ⟨_, rfl⟩
  rw [← hf]
  have HF := Lib.hid hf
  clear hf
  go_enter Try.func40, Try.ntmps40
  go_wp2
  go_loopw [9] (fun i wr => ∃ k : Nat, k ≤ n ∧ i = .int .i64 k ∧ (xs.take k).all f = true ∧ Below w.heap.size w wr) (fun i _ => n - (intOf i).toNat)
  case atStart => exact ⟨0, Nat.zero_le _, rfl, by simp, by (repeat (first | exact Below.refl _ _ | assumption | refine Below.alloc ?_ (by first | omega | (simp <;> omega)) _ | refine Below.setCell ?_ (by first | omega | (simp <;> omega)) _ | refine Below.drew ?_ | refine Below.trans ?_ (Below.mono (by assumption) (by first | omega | (simp <;> omega)))))⟩
  case round =>
    obtain ⟨k, hk, rfl, hall, hbl⟩ := hrel
    have HA := Lib.hid hall
    clear hall
    by_cases hlt : (k : Int) < n
    · obtain ⟨b, o, rfl, hbB, hcell⟩ := H.out.cell (by omega)
      obtain ⟨y, hy⟩ : ∃ y, xs[k]? = some y := ⟨_, List.getElem?_eq_getElem (by rw [HL.out]; omega)⟩
      have c1 : wr.cell? ⟨b, o + k, none⟩ = some (.int .i64 y) := (hbl.cell (p := ⟨b, o + k, none⟩) hbB).trans (hcell k _ (by simp [hy]))
      have HY := Lib.hid hy
      clear hy hcell
      have hfy : f y = sweetB y p := by rw [HF.out]
      have FY := Lib.hid hfy
      clear hfy
      cases hs : sweetB y p
      · go_wp2_with (go_at_call 13; refine (iIsSweet _ _ _).mono ?_; rintro e w' ⟨rfl, rfl⟩; rw [hs])
        go_ret
        exact ⟨by rw [all_stop HY.out (FY.out.trans hs)]; rfl, hbl⟩
      · go_wp2_with (go_at_call 13; refine (iIsSweet _ _ _).mono ?_; rintro e w' ⟨rfl, rfl⟩; rw [hs])
        go_roundw
        case rel => exact ⟨k + 1, by omega, by go_num, all_step HY.out HA.out (FY.out.trans hs), hbl⟩
        case measure => simp [intOf]; omega
    · obtain rfl : k = n := by omega
      go_wp2
      go_ret
      have := HA.out
      rw [List.take_of_length_le (by rw [HL.out]; omega)] at this
      exact ⟨by rw [this]; rfl, hbl⟩

theorem iIsChord (A : Option Addr) (n c : Nat) (xs : List Int) (w : World) (h : Rd w w.heap.size 1 A n (xs.map (Value.int .i64))) (hn : n ≤ 1048576) (hnc : n ≤ c) :
    Calls Try.prog 16 #[.slice A n c] w fun e w' => e = .returned (.bool (chordB xs)) ∧ Below w.heap.size w w' := by
  have hlen : xs.length = n := by simpa using h.1
  have HL := Lib.hid hlen
  have H := Lib.hid h
  clear hlen h
  by_cases h1 : (1 : Int) ≤ n
  case neg =>
    rw [show chordB xs = false by unfold chordB; rw [HL.out, show decide (1 ≤ n ∧ n ≤ 8) = false by simp; omega]; simp]
    obtain rfl : n = 0 := by omega
    go_enter Try.func16, Try.ntmps16
    go_wp2
    go_ret
    exact ⟨rfl, by (repeat (first | exact Below.refl _ _ | assumption | refine Below.alloc ?_ (by first | omega | (simp <;> omega)) _ | refine Below.setCell ?_ (by first | omega | (simp <;> omega)) _ | refine Below.drew ?_ | refine Below.trans ?_ (Below.mono (by assumption) (by first | omega | (simp <;> omega)))))⟩
  cases hq : xs.all pitchB && decide (n ≤ 8)
  · have e : chordB xs = false := by
      unfold chordB
      rw [HL.out]
      cases hp : xs.all pitchB
      · simp
      · rw [hp, Bool.true_and, decide_eq_false_iff_not] at hq
        rw [show decide (1 ≤ n ∧ n ≤ 8) = false by simp; omega]
        simp
    rw [e]
    have QA := Lib.hid hq
    clear hq e
    go_enter Try.func16, Try.ntmps16
    go_wp2_with (first | (go_at_call 39; refine (iArePitches _ _ _ _ _ H.out hn).mono ?_; rintro e w1 ⟨rfl, hb1⟩; try rw [QA.out]))
    go_ret
    exact ⟨rfl, by (repeat (first | exact Below.refl _ _ | assumption | refine Below.alloc ?_ (by first | omega | (simp <;> omega)) _ | refine Below.setCell ?_ (by first | omega | (simp <;> omega)) _ | refine Below.drew ?_ | refine Below.trans ?_ (Below.mono (by assumption) (by first | omega | (simp <;> omega)))))⟩
  have e : chordB xs = chordTo xs n := by
    unfold chordB
    simp only [Bool.and_eq_true, decide_eq_true_eq] at hq
    rw [HL.out, hq.1, show decide (1 ≤ n ∧ n ≤ 8) = true by simp; omega]
    simp
  rw [e]
  have QA := Lib.hid hq
  have h0 : ((n : Int) == 0) = false := by simp; omega
  have hci : (n : Int) ≤ c := by omega
  clear hq e
  go_enter Try.func16, Try.ntmps16
  go_wp2_with (first | (go_at_call 39; refine (iArePitches _ _ _ _ _ H.out hn).mono ?_; rintro e w1 ⟨rfl, hb1⟩; try rw [QA.out]))
  go_loopw [15] (fun i wr => ∃ k : Nat, k ≤ n ∧ i = .int .i64 k ∧ chordTo xs k = true ∧ Below w.heap.size w wr) (fun i _ => n - (intOf i).toNat)
  case atStart => exact ⟨0, Nat.zero_le _, rfl, rfl, by (repeat (first | exact Below.refl _ _ | assumption | refine Below.alloc ?_ (by first | omega | (simp <;> omega)) _ | refine Below.setCell ?_ (by first | omega | (simp <;> omega)) _ | refine Below.drew ?_ | refine Below.trans ?_ (Below.mono (by assumption) (by first | omega | (simp <;> omega)))))⟩
  case round =>
    obtain ⟨k, hk, rfl, hall, hbl⟩ := hrel
    have HA := Lib.hid hall
    clear hall
    by_cases hlt : (k : Int) < n
    · have ht := H.out.take (k := k) hk
      rw [← List.map_take] at ht
      obtain ⟨b, o, rfl, hbB, hcell⟩ := H.out.cell (by omega)
      obtain ⟨y, hy⟩ : ∃ y, xs[k]? = some y := ⟨_, List.getElem?_eq_getElem (by rw [HL.out]; omega)⟩
      have c1 : wr.cell? ⟨b, o + k, none⟩ = some (.int .i64 y) := (hbl.cell (p := ⟨b, o + k, none⟩) hbB).trans (hcell k _ (by simp [hy]))
      have hw : oneB xs k = withB (xs.take k) y := by unfold oneB; rw [List.getD_eq_getElem?_getD, hy]; rfl
      have HW := Lib.hid hw
      have HT := Lib.hid ((ht.below hbl).more hbl.size)
      clear hy hcell hw ht
      cases hs : withB (xs.take k) y
      · go_wp2_with (go_at_call 40; refine (iWith _ _ _ _ _ _ HT.out (by omega)).mono ?_; rintro e w2 ⟨rfl, hb2⟩; rw [hs])
        go_ret
        exact ⟨by rw [chordTo_stop (by omega) (HW.out.trans hs)]; rfl, hbl.trans (hb2.mono hbl.size)⟩
      · go_wp2_with (go_at_call 40; refine (iWith _ _ _ _ _ _ HT.out (by omega)).mono ?_; rintro e w2 ⟨rfl, hb2⟩; rw [hs])
        go_roundw
        case rel => exact ⟨k + 1, by omega, by go_num, chordTo_step HA.out (HW.out.trans hs), hbl.trans (hb2.mono hbl.size)⟩
        case measure => simp [intOf]; omega
    · obtain rfl : k = n := by omega
      go_wp2
      go_ret
      exact ⟨by rw [HA.out]; rfl, hbl⟩

theorem quiet_s {P : Program} {f : FuncId} {args : Array Value} {w : World} {n : Nat} {v : Value}
    (h : Calls P f args (w.drewN n) fun e w' => e = .returned v ∧ w.drewN n = w') : Calls P f args (w.drewN n) fun e w'' => e = .returned v ∧ ∃ m, w'' = w.drewN m :=
  h.mono fun _ _ ⟨he, hm⟩ => ⟨he, n, hm.symm⟩
theorem sIsChord (A : Option Addr) (n c : Nat) (xs : List Int) (w : World) (h : Rd w w.heap.size 1 A n (xs.map (Value.int .i64))) (hn : n ≤ 1048576) :
    Calls Try.prog 14 #[.slice A n c] w fun e w' => e = .returned (.bool (chordB xs)) ∧ Below w.heap.size w w' := by
  have hlen : xs.length = n := by simpa using h.1
  have HL := Lib.hid hlen
  have H := Lib.hid h
  clear hlen h
  cases hq : xs.all pitchB && inB n 1 8
  · have e : chordB xs = false := by
      unfold chordB
      rw [HL.out]
      cases hp : xs.all pitchB
      · simp
      · rw [hp, Bool.true_and] at hq
        have := inB_not hq
        rw [show decide (1 ≤ n ∧ n ≤ 8) = false by simp; omega]
        simp
    rw [e]
    have QA := Lib.hid hq
    clear hq e
    go_enter Try.func14, Try.ntmps14
    go_wp2_with (go_at_call 38; refine (sOk16 _ _ _ _ _ _ H.out hn).mono ?_; rintro e w1 ⟨rfl, hb1⟩; try rw [QA.out])
    go_ret
    exact ⟨rfl, by (repeat (first | exact Below.refl _ _ | assumption | refine Below.alloc ?_ (by first | omega | (simp <;> omega)) _ | refine Below.setCell ?_ (by first | omega | (simp <;> omega)) _ | refine Below.drew ?_ | refine Below.trans ?_ (Below.mono (by assumption) (by first | omega | (simp <;> omega)))))⟩
  have e : chordB xs = chordTo xs n := by
    unfold chordB
    simp only [Bool.and_eq_true] at hq
    have := inB_iff.1 hq.2
    rw [HL.out, hq.1, show decide (1 ≤ n ∧ n ≤ 8) = true by simp; omega]
    simp
  rw [e]
  have QA := Lib.hid hq
  clear hq e
  go_enter Try.func14, Try.ntmps14
  go_wp2_with (go_at_call 38; refine (sOk16 _ _ _ _ _ _ H.out hn).mono ?_; rintro e w1 ⟨rfl, hb1⟩; try rw [QA.out])
  go_loopw [3] (fun i wr => ∃ k : Nat, k ≤ n ∧ i = .int .i64 k ∧ chordTo xs k = true ∧ Below w.heap.size w wr) (fun i _ => n - (intOf i).toNat)
  case atStart => exact ⟨0, Nat.zero_le _, rfl, rfl, by (repeat (first | exact Below.refl _ _ | assumption | refine Below.alloc ?_ (by first | omega | (simp <;> omega)) _ | refine Below.setCell ?_ (by first | omega | (simp <;> omega)) _ | refine Below.drew ?_ | refine Below.trans ?_ (Below.mono (by assumption) (by first | omega | (simp <;> omega)))))⟩
  case round =>
    obtain ⟨k, hk, rfl, hall, hbl⟩ := hrel
    have HA := Lib.hid hall
    clear hall
    by_cases hlt : (k : Int) < n
    · obtain ⟨b, o, rfl, hbB, hcell⟩ := H.out.cell (by omega)
      obtain ⟨y, hy⟩ : ∃ y, xs[k]? = some y := ⟨_, List.getElem?_eq_getElem (by rw [HL.out]; omega)⟩
      have hcell2 : ∀ w2, Below w.heap.size w w2 → ∀ j z, xs[j]? = some z → w2.cell? ⟨b, o + j, none⟩ = some (.int .i64 z) := fun w2 hb2 j z hz => (hb2.cell (p := ⟨b, o + j, none⟩) hbB).trans (hcell j _ (by simp [hz]))
      have HC := Lib.hid hcell2
      have hw : oneB xs k = withB (xs.take k) y := by unfold oneB; rw [List.getD_eq_getElem?_getD, hy]; rfl
      unfold withB at hw
      obtain ⟨f, hf⟩ : ∃ f : Int → Bool, f = fun q => sweetB q y := ⟨_, rfl⟩
      rw [← hf] at hw
      have HF := Lib.hid hf
      have HW := Lib.hid hw
      have HY := Lib.hid hy
      clear hy hcell hcell2 hw hf
      go_wp2
      go_loopw [4] (fun i wr => ∃ j : Nat, j ≤ k ∧ i = .int .i64 j ∧ (xs.take j).all f = true ∧ Below w.heap.size w wr) (fun i _ => k - (intOf i).toNat)
      case atStart => exact ⟨0, Nat.zero_le _, rfl, by simp, hbl⟩
      case round =>
        obtain ⟨j, hj, rfl, hal, hbj⟩ := hrel
        have HJ := Lib.hid hal
        clear hal
        by_cases hjk : (j : Int) < k
        · obtain ⟨z, hz⟩ : ∃ z, xs[j]? = some z := ⟨_, List.getElem?_eq_getElem (by rw [HL.out]; omega)⟩
          have c0 := HC.out _ hbj _ _ HY.out
          have c1 := HC.out _ hbj _ _ hz
          have hfz : f z = sweetB y z := by rw [HF.out]; exact sweet_comm _ _
          have HZ := Lib.hid hz
          have FZ := Lib.hid hfz
          clear hz hfz
          have hjn : (j : Int) < n := by omega
          cases hs : sweetB y z
          · have SW : ∀ w, Calls Try.prog 12 #[.int .i64 y, .int .i64 z] w fun e w' => e = .returned (.bool false) ∧ w = w' := fun w => by rw [← hs]; exact sIsSweet _ _ _
            have SH := Lib.hid SW
            clear SW
            go_wp2
            go_quiet ((go_at_call 12; exact quiet_s (SH.out _)))
            go_wp2
            go_ret
            have hone : oneB xs k = false := by
              rw [HW.out]
              rw [Bool.eq_false_iff]; intro ha
              have := List.all_eq_true.1 ha z (List.mem_of_getElem? (i := j) (by rw [List.getElem?_take, if_pos (by omega)]; exact HZ.out))
              rw [FZ.out, hs] at this; cases this
            exact ⟨by rw [chordTo_stop (by omega) hone]; rfl, hbj.trans (Go.Joins.below_draws _ _ _)⟩
          · have SW : ∀ w, Calls Try.prog 12 #[.int .i64 y, .int .i64 z] w fun e w' => e = .returned (.bool true) ∧ w = w' := fun w => by rw [← hs]; exact sIsSweet _ _ _
            have SH := Lib.hid SW
            clear SW
            go_wp2
            go_quiet ((go_at_call 12; exact quiet_s (SH.out _)))
            go_wp2
            go_roundw
            case rel => exact ⟨j + 1, by omega, by go_num, all_step HZ.out HJ.out (FZ.out.trans hs), hbj.trans (Go.Joins.below_draws _ _ _)⟩
            case measure => simp [intOf]; omega
        · obtain rfl : j = k := by omega
          have hone : oneB xs j = true := HW.out.trans HJ.out
          have HO := Lib.hid hone
          clear hone
          go_wp2
          go_roundw
          case rel => exact ⟨j + 1, by omega, by go_num, chordTo_step HA.out HO.out, hbj⟩
          case measure => simp [intOf]; omega
    · obtain rfl : k = n := by omega
      go_wp2
      go_ret
      exact ⟨by rw [HA.out]; rfl, hbl⟩

theorem own_capC {w : World} {base size n c : Nat} {A : Option Addr} {xs : List Value} {e : TypeId} (h : w.ownsRow base e size (.slice A n c) n xs) : n ≤ c := by
  rcases h.2 with ⟨h', hz⟩ | ⟨g, cap, cur, h', _, _, hc, _⟩
  · omega
  · injection h' with _ _ h3
    omega

theorem fnExactIsChord_walk (W : World) (A : Option Addr) (n c : Nat) (xs : List Int) (r : Rd W W.heap.size 1 A n (xs.map (Value.int .i64))) (_l : xs.length = n) (_nc : n ≤ c) (nm : n ≤ 9223372036854775807)
    (_w : ∀ x ∈ xs, (Lit.int .i64 x).wf = true) :
    Calls Try.prog 5 #[.slice A n c] W fun e w' => e = .returned (.bool true) ∧ Below W.heap.size W w' := by
  by_cases hn : n ≤ 1048576
  case neg =>
    have R := Lib.hid r
    clear r
    go_enter Try.func5, Try.ntmps5
    go_wp2
    go_ret
    exact ⟨rfl, Below.refl _ _⟩
  have S := Lib.hid (fun A c w h => sIsChord A n c xs w h hn)
  have I := Lib.hid (fun A c w h hc => iIsChord A n c xs w h hn hc)
  obtain ⟨x, hx⟩ : ∃ x, x = chordB xs := ⟨_, rfl⟩
  rw [← hx] at S I
  have R := Lib.hid r
  clear r hx
  go_enter Try.func5, Try.ntmps5
  go_wp2_with (go_at_call 15; refine (toIntS_any _ _ _ _ _ R.out hn).mono ?_; rintro e w1 ⟨A1, c1, rfl, ho1, hb1⟩)
  go_wp2_with (go_at_call 14; refine (S.out _ _ _ (Rd.of_own ho1)).mono ?_; rintro e w2 ⟨rfl, hb2⟩; have z1 := hb1.size; have z2 := hb2.size; have b2 := hb1.trans (hb2.mono z1))
  go_wp2_with (go_at_call 15; refine (toIntS_any _ _ _ _ _ ((R.out.below b2).more b2.size) hn).mono ?_; rintro e w3 ⟨A3, c3, rfl, ho3, hb3⟩; have b3 := b2.trans (hb3.mono b2.size))
  go_wp2_with (go_at_call 16; refine (I.out _ _ _ (Rd.of_own ho3) (own_capC ho3)).mono ?_; rintro e w4 ⟨rfl, hb4⟩; have b4 := b3.trans (hb4.mono b3.size); have ho4 := own_below ho3 hb4)
  go_wp2_with (go_at_call 15; refine (toIntS_any _ _ _ _ _ ((R.out.below b4).more b4.size) hn).mono ?_; rintro e w5 ⟨A5, c5, rfl, ho5, hb5⟩; have b5 := b4.trans (hb5.mono b4.size); have ho4b := own_below ho4 hb5)
  go_wp2_with (go_at_call 17; refine (eqIntS_same _ _ _ _ _ _ _ (Rd.of_own ho4b) (Rd.of_own ho5) (by omega)).mono ?_; rintro e w6 ⟨rfl, hb6⟩)
  go_ret
  exact ⟨rfl, b5.trans (hb6.mono b5.size)⟩

end Go.Proofs.Yteidigbjllicpaa
