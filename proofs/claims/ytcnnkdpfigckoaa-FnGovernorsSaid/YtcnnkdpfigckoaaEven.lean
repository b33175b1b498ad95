/-
  IsEven of impl and of spec: what it returns for all arguments (the slice is read, nothing is written), and the law on it.
-/
import Derived.Test.YtcnnkdpfigckoaaIntS
import Derived.Test.YtcnnkdpfigckoaaWithin
namespace Go.Proofs.Ytcnnkdpfigckoaa
open Go.RowKit

def loZ (x : Int) (l : List Int) : Int := l.foldl min x
def hiZ (x : Int) (l : List Int) : Int := l.foldl max x
theorem loZ_snoc (x : Int) (l : List Int) (y : Int) : loZ x (l ++ [y]) = min (loZ x l) y := by simp [loZ]
theorem hiZ_snoc (x : Int) (l : List Int) (y : Int) : hiZ x (l ++ [y]) = max (hiZ x l) y := by simp [hiZ]
theorem take_more {l : List Int} {k : Nat} {y : Int} (h : l[k]? = some y) : l.take (k + 1) = l.take k ++ [y] := by
  obtain ⟨hk, rfl⟩ := List.getElem?_eq_some_iff.1 h
  rw [List.take_succ_eq_append_getElem hk]
def spdB (v : Int) : Bool := inB v 0 100000
/-- are the speeds even within so many percent? -/
def evenB (xs : List Int) (p : Int) : Bool :=
  decide (1 ≤ xs.length) && decide (xs.length ≤ 100) && inB p 0 100 && xs.all spdB && decide (hiZ (xs.headD 0) xs * 100 ≤ loZ (xs.headD 0) xs * (100 + p))
theorem lohi_bd : ∀ (l : List Int) (x : Int), 0 ≤ x → x ≤ 100000 → l.all spdB = true → 0 ≤ loZ x l ∧ loZ x l ≤ 100000 ∧ 0 ≤ hiZ x l ∧ hiZ x l ≤ 100000
  | [], x, h0, h1, _ => by simp [loZ, hiZ]; omega
  | y :: l, x, h0, h1, h => by
    simp only [List.all_cons, Bool.and_eq_true] at h
    have hy := inB_iff.1 h.1
    have a := lohi_bd l (min x y) (by omega) (by omega) h.2
    have b := lohi_bd l (max x y) (by omega) (by omega) h.2
    unfold loZ hiZ at *
    simp only [List.foldl_cons]
    omega

set_option maxHeartbeats 400000 in
theorem iIsEven (A : Option Addr) (n c : Nat) (xs : List Int) (p : Int) (w : World) (h : Rd w w.heap.size 1 A n (xs.map (Value.int .i64))) (hn : n ≤ 1048576) :
    Calls Try.prog 43 #[.slice A n c, .int .i64 p] w fun e w' => e = .returned (.bool (evenB xs p)) ∧ Below w.heap.size w w' := by
  have hlen : xs.length = n := by simpa using h.1
  by_cases h1 : 1 ≤ n
  case neg =>
    have e : evenB xs p = false := by simp [evenB]; omega
    rw [e]
    obtain rfl : n = 0 := by omega
    have q : inB 0 1 100 = false := by decide
    have HL := Lib.hid hlen
    clear hlen e h
    go_enter Try.func43, Try.ntmps43
    go_wp2_with (go_at_call 46; refine (within_any _ _ _ _).mono ?_; rintro e w' ⟨rfl, rfl⟩)
    go_ret
    exact ⟨rfl, by (repeat (first | exact Below.refl _ _ | assumption | refine Below.alloc ?_ (by first | omega | (simp <;> omega)) _ | refine Below.setCell ?_ (by first | omega | (simp <;> omega)) _ | refine Below.drew ?_ | refine Below.trans ?_ (Below.mono (by assumption) (by first | omega | (simp <;> omega)))))⟩
  by_cases h2 : n ≤ 100
  case neg =>
    have e : evenB xs p = false := by simp [evenB]; omega
    rw [e]
    have q : inB (n : Int) 1 100 = false := inB_false (by omega)
    have HL := Lib.hid hlen
    clear hlen e h
    go_enter Try.func43, Try.ntmps43
    go_wp2_with (go_at_call 46; refine (within_any _ _ _ _).mono ?_; rintro e w' ⟨rfl, rfl⟩)
    go_ret
    exact ⟨rfl, by (repeat (first | exact Below.refl _ _ | assumption | refine Below.alloc ?_ (by first | omega | (simp <;> omega)) _ | refine Below.setCell ?_ (by first | omega | (simp <;> omega)) _ | refine Below.drew ?_ | refine Below.trans ?_ (Below.mono (by assumption) (by first | omega | (simp <;> omega)))))⟩
  have q1 : inB (n : Int) 1 100 = true := inB_true (by omega)
  cases hp : inB p 0 100
  · have e : evenB xs p = false := by simp [evenB, hp]
    rw [e]
    have HL := Lib.hid hlen
    clear hlen e h
    go_enter Try.func43, Try.ntmps43
    go_wp2_with (go_at_call 46; refine (within_any _ _ _ _).mono ?_; rintro e w' ⟨rfl, rfl⟩)
    go_ret
    exact ⟨rfl, by (repeat (first | exact Below.refl _ _ | assumption | refine Below.alloc ?_ (by first | omega | (simp <;> omega)) _ | refine Below.setCell ?_ (by first | omega | (simp <;> omega)) _ | refine Below.drew ?_ | refine Below.trans ?_ (Below.mono (by assumption) (by first | omega | (simp <;> omega)))))⟩
  have hpp := inB_iff.1 hp
  obtain ⟨b, o, rfl, hbB, hcell⟩ := h.cell (by omega)
  obtain ⟨x0, l, rfl⟩ : ∃ x0 l, xs = x0 :: l := by
    cases xs with
    | nil => simp at hlen; omega
    | cons x l => exact ⟨x, l, rfl⟩
  have e : evenB (x0 :: l) p = ((x0 :: l).all spdB && decide (hiZ x0 (x0 :: l) * 100 ≤ loZ x0 (x0 :: l) * (100 + p))) := by
    unfold evenB
    rw [hp, show decide (1 ≤ (x0 :: l).length) = true by simp, show decide ((x0 :: l).length ≤ 100) = true by simp at hlen ⊢; omega]
    simp
  rw [e]
  clear e
  have c0 : w.cell? ⟨b, o, none⟩ = some (.int .i64 x0) := by simpa using hcell 0 (.int .i64 x0) (by simp)
  have HC := Lib.hid hcell
  have hx0 : (x0 :: l)[0]? = some x0 := rfl
  generalize x0 :: l = xs at *
  have HL := Lib.hid hlen
  have HX0 := Lib.hid hx0
  have hi0 : (0 : Int) < (n : Int) := by omega
  clear hcell hlen h hx0
  go_enter Try.func43, Try.ntmps43
  go_wp2_with (go_at_call 46; refine (within_any _ _ _ _).mono ?_; rintro e w' ⟨rfl, rfl⟩)
  go_quiet (fail)
  go_wp2
  go_loopw [5, 6, 30] (fun lo hi i wr => ∃ k : Nat, k ≤ n ∧ i = .int .i64 k ∧ lo = .int .i64 (loZ x0 (xs.take k)) ∧ hi = .int .i64 (hiZ x0 (xs.take k)) ∧ (xs.take k).all spdB = true ∧ Below w.heap.size w wr) (fun _ _ i _ => n - (intOf i).toNat)
  case atStart => exact ⟨0, Nat.zero_le _, rfl, rfl, rfl, by simp, by first | exact Below.refl _ _ | exact Go.Joins.below_draws _ _ _⟩
  case round =>
    obtain ⟨k, hk, rfl, rfl, rfl, hall, hbl⟩ := hrel
    by_cases hlt : k < n
    · obtain ⟨y, hy⟩ : ∃ y, xs[k]? = some y := ⟨_, List.getElem?_eq_getElem (by rw [HL.out]; exact hlt)⟩
      have c1 : wr.cell? ⟨b, o + k, none⟩ = some (.int .i64 y) := (hbl.cell (p := ⟨b, o + k, none⟩) hbB).trans (HC.out k _ (by simp [hy]))
      have ht := take_more hy
      have HT := Lib.hid ht
      have HY := Lib.hid hy
      clear ht hy
      generalize hlo : loZ x0 (xs.take k) = lo at *
      generalize hhi : hiZ x0 (xs.take k) = hi at *
      have HLO := Lib.hid hlo
      have HHI := Lib.hid hhi
      clear hlo hhi
      cases hs : inB y 0 100000
      · go_wp2_with (go_at_call 46; refine (within_any _ _ _ _).mono ?_; rintro e w' ⟨rfl, rfl⟩)
        go_ret
        refine ⟨?_, hbl⟩
        have hm : xs.all spdB = false := by
          rw [Bool.eq_false_iff]
          intro ha
          have := List.all_eq_true.1 ha y (List.mem_of_getElem? HY.out)
          unfold spdB at this
          rw [hs] at this
          cases this
        rw [hm]
        rfl
      · have hsb := inB_iff.1 hs
        go_wp2_with (go_at_call 46; refine (within_any _ _ _ _).mono ?_; rintro e w' ⟨rfl, rfl⟩)
        all_goals
          go_roundw
          case rel => exact ⟨k + 1, by omega, by go_num, by rw [HT.out, loZ_snoc, HLO.out]; congr 1; omega, by rw [HT.out, hiZ_snoc, HHI.out]; congr 1; omega, by rw [HT.out, List.all_append, hall]; simp [spdB, hs], hbl⟩
          case measure => simp [intOf]; omega
    · obtain rfl : k = n := by omega
      rw [List.take_of_length_le (by rw [HL.out]; omega)] at hall ⊢
      have hy := List.all_eq_true.1 hall x0 (List.mem_of_getElem? HX0.out)
      have hyb := inB_iff.1 hy
      obtain ⟨b1, b2, b3, b4⟩ := lohi_bd xs x0 hyb.1 hyb.2 hall
      have HA := Lib.hid hall
      clear hall hy
      generalize hlo : loZ x0 xs = lo at *
      generalize hhi : hiZ x0 xs = hi at *
      have HLO := Lib.hid hlo
      have HHI := Lib.hid hhi
      clear hlo hhi
      have m1 : 0 ≤ lo * (100 + p) := Int.mul_nonneg b1 (by omega)
      have m2 : lo * (100 + p) ≤ 100000 * 200 := Int.mul_le_mul b2 (by omega) (by omega) (by omega)
      go_wp2
      go_ret
      exact ⟨by rw [HA.out, HLO.out, HHI.out]; rfl, hbl⟩
set_option maxHeartbeats 400000 in
theorem sIsEven (A : Option Addr) (n c : Nat) (xs : List Int) (p : Int) (w : World) (h : Rd w w.heap.size 1 A n (xs.map (Value.int .i64))) (hn : n ≤ 1048576) :
    Calls Try.prog 41 #[.slice A n c, .int .i64 p] w fun e w' => e = .returned (.bool (evenB xs p)) ∧ Below w.heap.size w w' := by
  have hlen : xs.length = n := by simpa using h.1
  by_cases h1 : 1 ≤ n
  case neg =>
    have e : evenB xs p = false := by simp [evenB]; omega
    rw [e]
    obtain rfl : n = 0 := by omega
    have q : inB 0 1 100 = false := by decide
    have HL := Lib.hid hlen
    clear hlen e h
    go_enter Try.func41, Try.ntmps41
    go_wp2_with (go_at_call 45; refine (l01In_any _ _ _ _).mono ?_; rintro e w' ⟨rfl, rfl⟩)
    go_ret
    exact ⟨rfl, by (repeat (first | exact Below.refl _ _ | assumption | refine Below.alloc ?_ (by first | omega | (simp <;> omega)) _ | refine Below.setCell ?_ (by first | omega | (simp <;> omega)) _ | refine Below.drew ?_ | refine Below.trans ?_ (Below.mono (by assumption) (by first | omega | (simp <;> omega)))))⟩
  by_cases h2 : n ≤ 100
  case neg =>
    have e : evenB xs p = false := by simp [evenB]; omega
    rw [e]
    have q : inB (n : Int) 1 100 = false := inB_false (by omega)
    have HL := Lib.hid hlen
    clear hlen e h
    go_enter Try.func41, Try.ntmps41
    go_wp2_with (go_at_call 45; refine (l01In_any _ _ _ _).mono ?_; rintro e w' ⟨rfl, rfl⟩)
    go_ret
    exact ⟨rfl, by (repeat (first | exact Below.refl _ _ | assumption | refine Below.alloc ?_ (by first | omega | (simp <;> omega)) _ | refine Below.setCell ?_ (by first | omega | (simp <;> omega)) _ | refine Below.drew ?_ | refine Below.trans ?_ (Below.mono (by assumption) (by first | omega | (simp <;> omega)))))⟩
  have q1 : inB (n : Int) 1 100 = true := inB_true (by omega)
  cases hp : inB p 0 100
  · have e : evenB xs p = false := by simp [evenB, hp]
    rw [e]
    have HL := Lib.hid hlen
    clear hlen e h
    go_enter Try.func41, Try.ntmps41
    go_wp2_with (go_at_call 45; refine (l01In_any _ _ _ _).mono ?_; rintro e w' ⟨rfl, rfl⟩)
    go_ret
    exact ⟨rfl, by (repeat (first | exact Below.refl _ _ | assumption | refine Below.alloc ?_ (by first | omega | (simp <;> omega)) _ | refine Below.setCell ?_ (by first | omega | (simp <;> omega)) _ | refine Below.drew ?_ | refine Below.trans ?_ (Below.mono (by assumption) (by first | omega | (simp <;> omega)))))⟩
  have hpp := inB_iff.1 hp
  obtain ⟨b, o, rfl, hbB, hcell⟩ := h.cell (by omega)
  obtain ⟨x0, l, rfl⟩ : ∃ x0 l, xs = x0 :: l := by
    cases xs with
    | nil => simp at hlen; omega
    | cons x l => exact ⟨x, l, rfl⟩
  have e : evenB (x0 :: l) p = ((x0 :: l).all spdB && decide (hiZ x0 (x0 :: l) * 100 ≤ loZ x0 (x0 :: l) * (100 + p))) := by
    unfold evenB
    rw [hp, show decide (1 ≤ (x0 :: l).length) = true by simp, show decide ((x0 :: l).length ≤ 100) = true by simp at hlen ⊢; omega]
    simp
  rw [e]
  clear e
  have c0 : w.cell? ⟨b, o, none⟩ = some (.int .i64 x0) := by simpa using hcell 0 (.int .i64 x0) (by simp)
  have HC := Lib.hid hcell
  have hx0 : (x0 :: l)[0]? = some x0 := rfl
  generalize x0 :: l = xs at *
  have HL := Lib.hid hlen
  have HX0 := Lib.hid hx0
  have hi0 : (0 : Int) < (n : Int) := by omega
  clear hcell hlen h hx0
  go_enter Try.func41, Try.ntmps41
  go_wp2_with (go_at_call 45; refine (l01In_any _ _ _ _).mono ?_; rintro e w' ⟨rfl, rfl⟩)
  go_loopw [5, 6, 7] (fun lo hi i wr => ∃ k : Nat, k ≤ n ∧ i = .int .i64 k ∧ lo = .int .i64 (loZ x0 (xs.take k)) ∧ hi = .int .i64 (hiZ x0 (xs.take k)) ∧ (xs.take k).all spdB = true ∧ Below w.heap.size w wr) (fun _ _ i _ => n - (intOf i).toNat)
  case atStart => exact ⟨0, Nat.zero_le _, rfl, rfl, rfl, by simp, by first | exact Below.refl _ _ | exact Go.Joins.below_draws _ _ _⟩
  case round =>
    obtain ⟨k, hk, rfl, rfl, rfl, hall, hbl⟩ := hrel
    by_cases hlt : k < n
    · obtain ⟨y, hy⟩ : ∃ y, xs[k]? = some y := ⟨_, List.getElem?_eq_getElem (by rw [HL.out]; exact hlt)⟩
      have c1 : wr.cell? ⟨b, o + k, none⟩ = some (.int .i64 y) := (hbl.cell (p := ⟨b, o + k, none⟩) hbB).trans (HC.out k _ (by simp [hy]))
      have ht := take_more hy
      have HT := Lib.hid ht
      have HY := Lib.hid hy
      clear ht hy
      generalize hlo : loZ x0 (xs.take k) = lo at *
      generalize hhi : hiZ x0 (xs.take k) = hi at *
      have HLO := Lib.hid hlo
      have HHI := Lib.hid hhi
      clear hlo hhi
      cases hs : inB y 0 100000
      · go_wp2_with (go_at_call 45; refine (l01In_any _ _ _ _).mono ?_; rintro e w' ⟨rfl, rfl⟩)
        go_ret
        refine ⟨?_, hbl⟩
        have hm : xs.all spdB = false := by
          rw [Bool.eq_false_iff]
          intro ha
          have := List.all_eq_true.1 ha y (List.mem_of_getElem? HY.out)
          unfold spdB at this
          rw [hs] at this
          cases this
        rw [hm]
        rfl
      · have hsb := inB_iff.1 hs
        go_wp2_with (go_at_call 45; refine (l01In_any _ _ _ _).mono ?_; rintro e w' ⟨rfl, rfl⟩)
        all_goals
          go_roundw
          case rel => exact ⟨k + 1, by omega, by go_num, by rw [HT.out, loZ_snoc, HLO.out]; congr 1; omega, by rw [HT.out, hiZ_snoc, HHI.out]; congr 1; omega, by rw [HT.out, List.all_append, hall]; simp [spdB, hs], hbl⟩
          case measure => simp [intOf]; omega
    · obtain rfl : k = n := by omega
      rw [List.take_of_length_le (by rw [HL.out]; omega)] at hall ⊢
      have hy := List.all_eq_true.1 hall x0 (List.mem_of_getElem? HX0.out)
      have hyb := inB_iff.1 hy
      obtain ⟨b1, b2, b3, b4⟩ := lohi_bd xs x0 hyb.1 hyb.2 hall
      have HA := Lib.hid hall
      clear hall hy
      generalize hlo : loZ x0 xs = lo at *
      generalize hhi : hiZ x0 xs = hi at *
      have HLO := Lib.hid hlo
      have HHI := Lib.hid hhi
      clear hlo hhi
      have m1 : 0 ≤ lo * (100 + p) := Int.mul_nonneg b1 (by omega)
      have m2 : lo * (100 + p) ≤ 100000 * 200 := Int.mul_le_mul b2 (by omega) (by omega) (by omega)
      go_wp2
      go_ret
      exact ⟨by rw [HA.out, HLO.out, HHI.out]; rfl, hbl⟩

theorem fnExactIsEven_walk (W : World) (A : Option Addr) (n c : Nat) (xs : List Int) (r : Rd W W.heap.size 1 A n (xs.map (Value.int .i64))) (_l : xs.length = n) (_nc : n ≤ c) (nm : n ≤ 9223372036854775807)
    (_w : ∀ x ∈ xs, (Lit.int .i64 x).wf = true) (p : Int) (_hp : I64 p) :
    Calls Try.prog 14 #[.slice A n c, .int .i64 p] W fun e w' => e = .returned (.bool true) ∧ Below W.heap.size W w' := by
  by_cases hn : n ≤ 1048576
  case neg =>
    have R := Lib.hid r
    clear r
    go_enter Try.func14, Try.ntmps14
    go_wp2
    go_ret
    exact ⟨rfl, Below.refl _ _⟩
  have R := Lib.hid r
  clear r
  go_enter Try.func14, Try.ntmps14
  go_wp2_with (go_at_call 42; refine (toIntS_any _ _ _ _ _ R.out hn).mono ?_; rintro e w1 ⟨A1, c1, rfl, ho1, hb1⟩)
  go_wp2_with (go_at_call 41; refine (sIsEven _ _ _ _ _ _ (Rd.of_own ho1) hn).mono ?_; rintro e w2 ⟨rfl, hb2⟩; have z1 := hb1.size; have z2 := hb2.size; have b2 := hb1.trans (hb2.mono z1))
  go_wp2_with (go_at_call 42; refine (toIntS_any _ _ _ _ _ ((R.out.below b2).more b2.size) hn).mono ?_; rintro e w3 ⟨A3, c3, rfl, ho3, hb3⟩; have b3 := b2.trans (hb3.mono b2.size))
  go_wp2_with (go_at_call 43; refine (iIsEven _ _ _ _ _ _ (Rd.of_own ho3) hn).mono ?_; rintro e w4 ⟨rfl, hb4⟩; have b4 := b3.trans (hb4.mono b3.size); have ho4 := own_below ho3 hb4)
  go_wp2_with (go_at_call 42; refine (toIntS_any _ _ _ _ _ ((R.out.below b4).more b4.size) hn).mono ?_; rintro e w5 ⟨A5, c5, rfl, ho5, hb5⟩; have b5 := b4.trans (hb5.mono b4.size); have ho4b := own_below ho4 hb5)
  go_wp2_with (go_at_call 44; refine (eqIntS_same _ _ _ _ _ _ _ (Rd.of_own ho4b) (Rd.of_own ho5) (by omega)).mono ?_; rintro e w6 ⟨rfl, hb6⟩)
  go_ret
  exact ⟨rfl, b5.trans (hb6.mono b5.size)⟩

end Go.Proofs.Ytcnnkdpfigckoaa
