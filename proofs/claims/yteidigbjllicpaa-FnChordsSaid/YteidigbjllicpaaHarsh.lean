/-
  HarshPairs of impl and of spec, and the law on them.
-/
import Derived.Test.YteidigbjllicpaaTuneI
import Derived.Test.YteidigbjllicpaaNoteS
import Derived.Test.YteidigbjllicpaaList
namespace Go.Proofs.Yteidigbjllicpaa
open Go.RowKit

def harshB (p q : Int × Int) : Bool := decide (p.1 = q.1) && !sweetB p.2 q.2
def oneH (p q : Int × Int) : Int := if harshB p q = true then 1 else 0
def hIn (xs : List (Int × Int)) (i : Nat) : Nat → Int
  | 0 => 0
  | j + 1 => hIn xs i j + oneH (xs.getD i (0, 0)) (xs.getD j (0, 0))
def hAll (xs : List (Int × Int)) : Nat → Int
  | 0 => 0
  | k + 1 => hAll xs k + hIn xs k k
def harshZ (xs : List (Int × Int)) : Int := if tuneB xs = true then hAll xs xs.length else -1
theorem hIn_bd (xs : List (Int × Int)) (i j : Nat) : 0 ≤ hIn xs i j ∧ hIn xs i j ≤ j := by
  induction j with
  | zero => simp [hIn]
  | succ j ih => unfold hIn oneH; split <;> omega
theorem hAll_bd (xs : List (Int × Int)) : ∀ (k : Nat), k ≤ 40 → 0 ≤ hAll xs k ∧ hAll xs k ≤ 40 * (k : Int)
  | 0, _ => by simp [hAll]
  | k + 1, h => by
    have := hAll_bd xs k (by omega)
    have := hIn_bd xs k k
    unfold hAll
    omega
set_option maxHeartbeats 800000 in
theorem iHarsh (A : Option Addr) (n c : Nat) (xs : List (Int × Int)) (w : World) (h : Rd w w.heap.size 2 A n (pc xs)) (hn : n ≤ 1048576) (hnc : n ≤ c) :
    Calls Try.prog 21 #[.slice A n c] w fun e w' => e = .returned (.int .i64 (harshZ xs)) ∧ Below w.heap.size w w' := by
  have hlen := h.pair
  have H := Lib.hid h
  have HL := Lib.hid hlen
  clear h hlen
  cases hq : tuneB xs
  · rw [show harshZ xs = -1 by simp [harshZ, hq]]
    have TK : ∀ w, Rd w w.heap.size 2 A n (pc xs) → Calls Try.prog 43 #[.slice A n c] w fun e w' => e = .returned (.bool false) ∧ Below w.heap.size w w' := fun w h => by rw [← hq]; exact iTuneOk A n c xs w h hn
    have TH := Lib.hid TK
    clear TK hq
    go_enter Try.func21, Try.ntmps21
    go_wp2_with (go_at_call 43; refine (TH.out _ H.out).mono ?_; rintro e w1 ⟨rfl, hb1⟩)
    go_ret
    exact ⟨rfl, by (repeat (first | exact Below.refl _ _ | assumption | refine Below.alloc ?_ (by first | omega | (simp <;> omega)) _ | refine Below.setCell ?_ (by first | omega | (simp <;> omega)) _ | refine Below.drew ?_ | refine Below.trans ?_ (Below.mono (by assumption) (by first | omega | (simp <;> omega)))))⟩
  rw [show harshZ xs = hAll xs n by simp [harshZ, hq, HL.out]]
  have hn40 : (n : Int) ≤ 40 := by
    unfold tuneB at hq
    simp only [Bool.and_eq_true, decide_eq_true_eq] at hq
    have := HL.out
    omega
  have hci : (n : Int) ≤ c := by omega
  have TK : ∀ w, Rd w w.heap.size 2 A n (pc xs) → Calls Try.prog 43 #[.slice A n c] w fun e w' => e = .returned (.bool true) ∧ Below w.heap.size w w' := fun w h => by rw [← hq]; exact iTuneOk A n c xs w h hn
  have TH := Lib.hid TK
  clear TK hq
  go_enter Try.func21, Try.ntmps21
  go_wp2_with (go_at_call 43; refine (TH.out _ H.out).mono ?_; rintro e w1 ⟨rfl, hb1⟩)
  go_loopw [3, 13] (fun s i wr => ∃ k : Nat, k ≤ n ∧ i = .int .i64 k ∧ s = .int .i64 (hAll xs k) ∧ Below w.heap.size w wr) (fun _ i _ => n - (intOf i).toNat)
  case atStart => exact ⟨0, Nat.zero_le _, rfl, rfl, by (repeat (first | exact Below.refl _ _ | assumption | refine Below.alloc ?_ (by first | omega | (simp <;> omega)) _ | refine Below.setCell ?_ (by first | omega | (simp <;> omega)) _ | refine Below.drew ?_ | refine Below.trans ?_ (Below.mono (by assumption) (by first | omega | (simp <;> omega)))))⟩
  case round =>
    obtain ⟨k, hk, rfl, rfl, hbl⟩ := hrel
    by_cases hlt : (k : Int) < n
    · obtain ⟨b, o, rfl, hbB, hcell⟩ := H.out.pairAt (by omega)
      obtain ⟨⟨x, y⟩, hx⟩ : ∃ p, xs[k]? = some p := ⟨_, List.getElem?_eq_getElem (by rw [HL.out]; omega)⟩
      obtain ⟨g0, g1⟩ := hcell k _ hx
      have c0 : wr.cell? ⟨b, o + k * 2, none⟩ = some (.int .i64 x) := (hbl.cell (p := ⟨b, o + k * 2, none⟩) hbB).trans g0
      have c1 : wr.cell? ⟨b, o + k * 2 + 1, none⟩ = some (.int .i64 y) := (hbl.cell (p := ⟨b, o + k * 2 + 1, none⟩) hbB).trans g1
      have hab := hAll_bd xs k (by omega)
      obtain ⟨s, hs⟩ : ∃ s, s = hAll xs k := ⟨_, rfl⟩
      rw [← hs] at hab ⊢
      have HS := Lib.hid hs
      have HX := Lib.hid hx
      have HC := Lib.hid hcell
      have hk40 : (k : Int) < 40 := by omega
      clear g0 g1 hx hs hcell
      have hb0 := (Blk.new wr 48 #[.int .i64 x, .int .i64 y])
      have hbn : Below w.heap.size w (wr.alloc (.cells #[.int .i64 x, .int .i64 y] 48)) := hbl.alloc hbl.size _
      have hws : w.heap.size ≤ wr.heap.size := hbl.size
      have B0 := Lib.hid hb0
      clear hb0
      obtain ⟨wo, rfl⟩ : ∃ wo : World, wo = wr := ⟨_, rfl⟩
      go_wp2
      go_loopw [3, 22] (fun s2 i wq => ∃ j : Nat, j ≤ k ∧ i = .int .i64 j ∧ s2 = .int .i64 (s + hIn xs k j) ∧ Blk wq wo.heap.size 48 #[.int .i64 x, .int .i64 y] ∧ Below w.heap.size w wq) (fun _ i _ => k - (intOf i).toNat)
      case atStart => exact ⟨0, Nat.zero_le _, rfl, by simp [hIn], B0.out, hbn⟩
      case round =>
        obtain ⟨j, hj, rfl, rfl, hbk, hbq⟩ := hrel
        by_cases hjk : (j : Int) < k
        · obtain ⟨⟨u, v⟩, hz⟩ : ∃ p, xs[j]? = some p := ⟨_, List.getElem?_eq_getElem (by rw [HL.out]; omega)⟩
          obtain ⟨g0, g1⟩ := HC.out j _ hz
          have d0 : wr.cell? ⟨b, o + j * 2, none⟩ = some (.int .i64 u) := (hbq.cell (p := ⟨b, o + j * 2, none⟩) hbB).trans g0
          have d1 : wr.cell? ⟨b, o + j * 2 + 1, none⟩ = some (.int .i64 v) := (hbq.cell (p := ⟨b, o + j * 2 + 1, none⟩) hbB).trans g1
          have hst : hIn xs k (j + 1) = hIn xs k j + oneH (x, y) (u, v) := by rw [hIn, getD_of HX.out, getD_of hz]
          have hbd := hIn_bd xs k j
          obtain ⟨r, hr⟩ : ∃ r, r = hIn xs k j := ⟨_, rfl⟩
          rw [← hr] at hbd hst ⊢
          have HR := Lib.hid hr
          have HT := Lib.hid hst
          have hbk2 := hbk.alloc (.cells #[.int .i64 u, .int .i64 v] 48)
          obtain ⟨e0, e1⟩ := hbk2.c2
          have BK := Lib.hid hbk2
          have BQ : Below w.heap.size w (wr.alloc (.cells #[.int .i64 u, .int .i64 v] 48)) := hbq.alloc hbq.size _
          have bj := hbq.size
          clear hr hst hz g0 g1 hbk hbk2
          by_cases hxu : x = u
          case neg =>
            have he : (x == u) = false := by simp [hxu]
            have ho : oneH (x, y) (u, v) = 0 := by simp [oneH, harshB, hxu]
            have HO := Lib.hid ho
            clear ho hxu
            go_wp2
            go_roundw
            case rel => exact ⟨j + 1, by omega, by go_num, by rw [HT.out, HO.out, HR.out]; go_num, BK.out, BQ⟩
            case measure => simp [intOf]; omega
          subst hxu
          cases hs : sweetB y v
          · have ho : oneH (x, y) (x, v) = 1 := by simp [oneH, harshB, hs]
            have HO := Lib.hid ho
            clear ho
            go_wp2_with (go_at_call 13; refine (iIsSweet _ _ _).mono ?_; rintro e w' ⟨rfl, rfl⟩; rw [hs])
            go_roundw
            case rel => exact ⟨j + 1, by omega, by go_num, by rw [HT.out, HO.out]; go_num, BK.out, BQ⟩
            case measure => simp [intOf]; omega
          · have ho : oneH (x, y) (x, v) = 0 := by simp [oneH, harshB, hs]
            have HO := Lib.hid ho
            clear ho
            go_wp2_with (go_at_call 13; refine (iIsSweet _ _ _).mono ?_; rintro e w' ⟨rfl, rfl⟩; rw [hs])
            go_roundw
            case rel => exact ⟨j + 1, by omega, by go_num, by rw [HT.out, HO.out]; go_num, BK.out, BQ⟩
            case measure => simp [intOf]; omega
        · obtain rfl : j = k := by omega
          have hst : s + hIn xs j j = hAll xs (j + 1) := by rw [hAll, HS.out]
          rw [hst]
          go_wp2
          go_roundw
          case rel => exact ⟨j + 1, by omega, by go_num, rfl, hbq⟩
          case measure => simp [intOf]; omega
    · obtain rfl : k = n := by omega
      go_wp2
      go_ret
      exact ⟨rfl, hbl⟩

theorem quiet_h {P : Program} {f : FuncId} {args : Array Value} {w : World} {n : Nat} {v : Value}
    (h : Calls P f args (w.drewN n) fun e w' => e = .returned v ∧ w.drewN n = w') : Calls P f args (w.drewN n) fun e w'' => e = .returned v ∧ ∃ m, w'' = w.drewN m :=
  h.mono fun _ _ ⟨he, hm⟩ => ⟨he, n, hm.symm⟩

set_option maxHeartbeats 800000 in
theorem sHarsh (A : Option Addr) (n c : Nat) (xs : List (Int × Int)) (w : World) (h : Rd w w.heap.size 2 A n (pc xs)) (hn : n ≤ 1048576) :
    Calls Try.prog 19 #[.slice A n c] w fun e w' => e = .returned (.int .i64 (harshZ xs)) ∧ Below w.heap.size w w' := by
  have hlen := h.pair
  have H := Lib.hid h
  have HL := Lib.hid hlen
  clear h hlen
  cases hq : tuneB xs
  · rw [show harshZ xs = -1 by simp [harshZ, hq]]
    have TK : ∀ w, Rd w w.heap.size 2 A n (pc xs) → Calls Try.prog 41 #[.slice A n c] w fun e w' => e = .returned (.bool false) ∧ Below w.heap.size w w' := fun w h => by rw [← hq]; exact sTuneOk A n c xs w h hn
    have TH := Lib.hid TK
    clear TK hq
    go_enter Try.func19, Try.ntmps19
    go_wp2_with (go_at_call 41; refine (TH.out _ H.out).mono ?_; rintro e w1 ⟨rfl, hb1⟩)
    go_ret
    exact ⟨rfl, by (repeat (first | exact Below.refl _ _ | assumption | refine Below.alloc ?_ (by first | omega | (simp <;> omega)) _ | refine Below.setCell ?_ (by first | omega | (simp <;> omega)) _ | refine Below.drew ?_ | refine Below.trans ?_ (Below.mono (by assumption) (by first | omega | (simp <;> omega)))))⟩
  rw [show harshZ xs = hAll xs n by simp [harshZ, hq, HL.out]]
  have hn40 : (n : Int) ≤ 40 := by
    unfold tuneB at hq
    simp only [Bool.and_eq_true, decide_eq_true_eq] at hq
    have := HL.out
    omega
  have TK : ∀ w, Rd w w.heap.size 2 A n (pc xs) → Calls Try.prog 41 #[.slice A n c] w fun e w' => e = .returned (.bool true) ∧ Below w.heap.size w w' := fun w h => by rw [← hq]; exact sTuneOk A n c xs w h hn
  have TH := Lib.hid TK
  clear TK hq
  go_enter Try.func19, Try.ntmps19
  go_wp2_with (go_at_call 41; refine (TH.out _ H.out).mono ?_; rintro e w1 ⟨rfl, hb1⟩)
  go_loopw [3, 4] (fun s i wr => ∃ k : Nat, k ≤ n ∧ i = .int .i64 k ∧ s = .int .i64 (hAll xs k) ∧ Below w.heap.size w wr) (fun _ i _ => n - (intOf i).toNat)
  case atStart => exact ⟨0, Nat.zero_le _, rfl, rfl, by (repeat (first | exact Below.refl _ _ | assumption | refine Below.alloc ?_ (by first | omega | (simp <;> omega)) _ | refine Below.setCell ?_ (by first | omega | (simp <;> omega)) _ | refine Below.drew ?_ | refine Below.trans ?_ (Below.mono (by assumption) (by first | omega | (simp <;> omega)))))⟩
  case round =>
    obtain ⟨k, hk, rfl, rfl, hbl⟩ := hrel
    by_cases hlt : (k : Int) < n
    · obtain ⟨b, o, rfl, hbB, hcell⟩ := H.out.pairAt (by omega)
      obtain ⟨⟨x, y⟩, hx⟩ : ∃ p, xs[k]? = some p := ⟨_, List.getElem?_eq_getElem (by rw [HL.out]; omega)⟩
      have hab := hAll_bd xs k (by omega)
      obtain ⟨s, hs⟩ : ∃ s, s = hAll xs k := ⟨_, rfl⟩
      rw [← hs] at hab ⊢
      have HS := Lib.hid hs
      have HX := Lib.hid hx
      have HC := Lib.hid hcell
      have hk40 : (k : Int) < 40 := by omega
      clear hx hs hcell
      go_wp2
      go_loopw [3, 5] (fun s2 i wq => ∃ j : Nat, j ≤ k ∧ i = .int .i64 j ∧ s2 = .int .i64 (s + hIn xs k j) ∧ Below w.heap.size w wq) (fun _ i _ => k - (intOf i).toNat)
      case atStart => exact ⟨0, Nat.zero_le _, rfl, by simp [hIn], hbl⟩
      case round =>
        obtain ⟨j, hj, rfl, rfl, hbq⟩ := hrel
        by_cases hjk : (j : Int) < k
        · obtain ⟨⟨u, v⟩, hz⟩ : ∃ p, xs[j]? = some p := ⟨_, List.getElem?_eq_getElem (by rw [HL.out]; omega)⟩
          obtain ⟨g0, g1⟩ := HC.out j _ hz
          obtain ⟨g2, g3⟩ := HC.out k _ HX.out
          have c0 : wr.cell? ⟨b, o + k * 2, none⟩ = some (.int .i64 x) := (hbq.cell (p := ⟨b, o + k * 2, none⟩) hbB).trans g2
          have c1 : wr.cell? ⟨b, o + k * 2 + 1, none⟩ = some (.int .i64 y) := (hbq.cell (p := ⟨b, o + k * 2 + 1, none⟩) hbB).trans g3
          have d0 : wr.cell? ⟨b, o + j * 2, none⟩ = some (.int .i64 u) := (hbq.cell (p := ⟨b, o + j * 2, none⟩) hbB).trans g0
          have d1 : wr.cell? ⟨b, o + j * 2 + 1, none⟩ = some (.int .i64 v) := (hbq.cell (p := ⟨b, o + j * 2 + 1, none⟩) hbB).trans g1
          have hst : hIn xs k (j + 1) = hIn xs k j + oneH (x, y) (u, v) := by rw [hIn, getD_of HX.out, getD_of hz]
          have hbd := hIn_bd xs k j
          obtain ⟨r, hr⟩ : ∃ r, r = hIn xs k j := ⟨_, rfl⟩
          rw [← hr] at hbd hst ⊢
          have HR := Lib.hid hr
          have HT := Lib.hid hst
          have hjn : (j : Int) < n := by omega
          clear hr hst hz g0 g1 g2 g3
          by_cases hxu : x = u
          case neg =>
            have he : (x == u) = false := by simp [hxu]
            have ho : oneH (x, y) (u, v) = 0 := by simp [oneH, harshB, hxu]
            have HO := Lib.hid ho
            clear ho hxu
            go_wp2
            go_quiet (fail)
            go_wp2
            go_roundw
            case rel => exact ⟨j + 1, by omega, by go_num, by rw [HT.out, HO.out]; go_num, hbq.trans (Go.Joins.below_draws _ _ _)⟩
            case measure => simp [intOf]; omega
          subst hxu
          cases hs : sweetB y v
          · have ho : oneH (x, y) (x, v) = 1 := by simp [oneH, harshB, hs]
            have HO := Lib.hid ho
            have SW : ∀ w, Calls Try.prog 12 #[.int .i64 y, .int .i64 v] w fun e w' => e = .returned (.bool false) ∧ w = w' := fun w => by rw [← hs]; exact sIsSweet _ _ _
            have SH := Lib.hid SW
            clear ho SW
            go_wp2
            go_quiet ((go_at_call 12; exact quiet_h (SH.out _)))
            go_wp2
            go_roundw
            case rel => exact ⟨j + 1, by omega, by go_num, by rw [HT.out, HO.out]; go_num, hbq.trans (Go.Joins.below_draws _ _ _)⟩
            case measure => simp [intOf]; omega
          · have ho : oneH (x, y) (x, v) = 0 := by simp [oneH, harshB, hs]
            have HO := Lib.hid ho
            have SW : ∀ w, Calls Try.prog 12 #[.int .i64 y, .int .i64 v] w fun e w' => e = .returned (.bool true) ∧ w = w' := fun w => by rw [← hs]; exact sIsSweet _ _ _
            have SH := Lib.hid SW
            clear ho SW
            go_wp2
            go_quiet ((go_at_call 12; exact quiet_h (SH.out _)))
            go_wp2
            go_roundw
            case rel => exact ⟨j + 1, by omega, by go_num, by rw [HT.out, HO.out]; go_num, hbq.trans (Go.Joins.below_draws _ _ _)⟩
            case measure => simp [intOf]; omega
        · obtain rfl : j = k := by omega
          have hst : s + hIn xs j j = hAll xs (j + 1) := by rw [hAll, HS.out]
          rw [hst]
          go_wp2
          go_roundw
          case rel => exact ⟨j + 1, by omega, by go_num, rfl, hbq⟩
          case measure => simp [intOf]; omega
    · obtain rfl : k = n := by omega
      go_wp2
      go_ret
      exact ⟨rfl, hbl⟩

theorem fnExactHarshPairs_walk (W : World) (A : Option Addr) (n c : Nat) (xs : List (Int × Int)) (r : Rd W W.heap.size 2 A n (pc xs)) (_l : xs.length = n) (_nc : n ≤ c) (nm : n ≤ 9223372036854775807)
    (_w : ∀ x ∈ xs, I64 x.1 ∧ I64 x.2) :
    Calls Try.prog 6 #[.slice A n c] W fun e w' => e = .returned (.bool true) ∧ Below W.heap.size W w' := by
  by_cases hn : n ≤ 1048576
  case neg =>
    have R := Lib.hid r
    clear r
    have hs := fun w => szNoteS_any A n c 1048576 w nm (by omega)
    simp only [if_neg hn] at hs
    have HS := Lib.hid hs
    clear hs
    go_enter Try.func6, Try.ntmps6
    go_wp2_with (go_at_call 18; refine (HS.out _).mono ?_; rintro e w' ⟨rfl, rfl⟩)
    go_ret
    exact ⟨rfl, by (repeat (first | exact Below.refl _ _ | assumption | refine Below.alloc ?_ (by first | omega | (simp <;> omega)) _ | refine Below.setCell ?_ (by first | omega | (simp <;> omega)) _ | refine Below.drew ?_ | refine Below.trans ?_ (Below.mono (by assumption) (by first | omega | (simp <;> omega)))))⟩
  have S := Lib.hid (fun A c w h => sHarsh A n c xs w h hn)
  have I := Lib.hid (fun A c w h hc => iHarsh A n c xs w h hn hc)
  obtain ⟨x, hx⟩ : ∃ x, x = harshZ xs := ⟨_, rfl⟩
  rw [← hx] at S I
  have R := Lib.hid r
  have hs := fun w => szNoteS_any A n c 1048576 w nm (by omega)
  simp only [if_pos hn] at hs
  have HS := Lib.hid hs
  have hni : (n : Int) ≤ 1048576 := by omega
  have hn0 : (0 : Int) ≤ n := by omega
  clear r hx hs
  go_enter Try.func6, Try.ntmps6
  go_wp2_with (go_at_call 18; refine (HS.out _).mono ?_; rintro e w' ⟨rfl, rfl⟩)
  go_wp2_with (go_at_call 20; refine (toNoteS_any _ _ _ _ _ R.out hn).mono ?_; rintro e w1 ⟨A1, c1, rfl, ho1, hb1⟩)
  go_wp2_with (go_at_call 19; refine (S.out _ _ _ (Rd.of_own ho1)).mono ?_; rintro e w2 ⟨rfl, hb2⟩; have z1 := hb1.size; have z2 := hb2.size; have b2 := hb1.trans (hb2.mono z1))
  go_wp2_with (go_at_call 20; refine (toNoteS_any _ _ _ _ _ ((R.out.below b2).more b2.size) hn).mono ?_; rintro e w3 ⟨A3, c3, rfl, ho3, hb3⟩; have b3 := b2.trans (hb3.mono b2.size))
  go_wp2_with (go_at_call 21; refine (I.out _ _ _ (Rd.of_own ho3) (own_capC ho3)).mono ?_; rintro e w4 ⟨rfl, hb4⟩; have b4 := b3.trans (hb4.mono b3.size); have ho4 := own_below ho3 hb4)
  go_wp2_with (go_at_call 20; refine (toNoteS_any _ _ _ _ _ ((R.out.below b4).more b4.size) hn).mono ?_; rintro e w5 ⟨A5, c5, rfl, ho5, hb5⟩; have b5 := b4.trans (hb5.mono b4.size); have ho4b := own_below ho4 hb5)
  go_wp2_with (go_at_call 22; refine (eqNoteS_same _ _ _ _ _ _ _ (Rd.of_own ho4b) (Rd.of_own ho5) (by omega)).mono ?_; rintro e w6 ⟨rfl, hb6⟩)
  go_ret
  exact ⟨rfl, b5.trans (hb6.mono b5.size)⟩

end Go.Proofs.Yteidigbjllicpaa
