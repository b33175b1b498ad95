/-
  The helpers of MostTunes: membersOf and isBefore of impl, l09Bits and l09Less of spec; and plain facts on one set tried.
-/
import Derived.Test.YtjcaamnojinnmaaCombAll
namespace Go.Proofs.Ytjcaamnojinnmaa
open Go.RowKit

theorem memL_more {s : Nat → Bool} {n : Nat} : ∀ {m : Nat}, n ≤ m → (∀ k, n ≤ k → s k = false) → memL s m = memL s n
  | 0, h, _ => by
    obtain rfl : n = 0 := by omega
    rfl
  | m + 1, h, hf => by
    by_cases e : n = m + 1
    · subst e
      rfl
    · rw [memL_step, memL_more (n := n) (m := m) (by omega) hf, hf m (by omega), if_neg (by simp), List.append_nil]
theorem lex_same : ∀ {k : Nat} {a b : List Int}, a.take k = b.take k → lexB a b = lexB (a.drop k) (b.drop k)
  | 0, a, b, _ => rfl
  | k + 1, [], [], _ => rfl
  | k + 1, [], y :: b, h => by simp at h
  | k + 1, x :: a, [], h => by simp at h
  | k + 1, x :: a, y :: b, h => by
    simp only [List.take_succ_cons, List.cons.injEq] at h
    obtain ⟨rfl, h⟩ := h
    rw [show lexB (x :: a) (x :: b) = lexB a b by simp [lexB], lex_same h]
    rfl
theorem lex_at {k : Nat} {a b : List Int} {x y : Int} (h : a.take k = b.take k) (hx : a[k]? = some x) (hy : b[k]? = some y) (hne : x ≠ y) : lexB a b = decide (x < y) := by
  obtain ⟨i, rfl⟩ := List.getElem?_eq_some_iff.1 hx
  obtain ⟨j, rfl⟩ := List.getElem?_eq_some_iff.1 hy
  rw [lex_same h, List.drop_eq_getElem_cons i, List.drop_eq_getElem_cons j]
  unfold lexB
  rw [if_neg hne]
theorem lex_none {a b : List Int} (h : a = b) : lexB a b = false := by
  subst h
  have := lex_same (k := a.length) (a := a) (b := a) rfl
  rw [this]
  simp [lexB]
theorem pow8 {n : Nat} (h : n ≤ 8) : wrap64 (2 ^ n) = ((2 ^ n : Nat) : Int) := by
  have h2 : 2 ^ n ≤ 2 ^ 8 := Nat.pow_le_pow_right (by omega) h
  have e : (2 : Int) ^ n = ((2 ^ n : Nat) : Int) := by rw [Int.natCast_pow]; rfl
  rw [e]
  generalize 2 ^ n = M at *
  exact IntWalk.wrap64_in _ (by omega)

set_option maxHeartbeats 400000 in
theorem imembersOf (S n : Nat) (w : World) (hS : S < 256) (hn : n ≤ 8) :
    Calls Try.prog 45 #[.int .i64 S, .int .i64 n] w (MadeS w 3 1 (memL (bitS S) n).length ((memL (bitS S) n).map (Value.int .i64))) := by
  have OE := Lib.hid (own_empty w 3 1 w.heap.size (Nat.le_refl _))
  have hni : (n : Int) ≤ 8 := by omega
  go_enter Try.func45, Try.ntmps45
  go_wp2
  go_loopw [5, 6] (fun v i wr => ∃ k m : Nat, k ≤ n ∧ i = .int .i64 k ∧ m ≤ k ∧ wr.ownsRow w.heap.size 3 1 v m ((memL (bitS S) k).map (Value.int .i64)) ∧ Below w.heap.size w wr) (fun _ i _ => n - (intOf i).toNat)
  case atStart => exact ⟨0, 0, Nat.zero_le _, rfl, Nat.zero_le _, OE.out, (Below.refl _ _).alloc (Nat.le_refl _) _⟩
  case round =>
    obtain ⟨k, m, hk, rfl, hmk, hown, hbl⟩ := hrel
    by_cases hlt : (k : Int) < n
    · have hbt := bit_1 hS k
      have hst := memL_step (bitS S) k
      have HO := Lib.hid hown
      have zb := hbl.size
      clear hown
      cases hb : bitS S k
      · rw [hb] at hbt
        rw [hb, if_neg (by simp), List.append_nil] at hst
        have HST := Lib.hid hst
        clear hst hb
        go_wp2_with fail
        go_roundw
        case rel => exact ⟨k + 1, m, by omega, by go_num, by omega, by rw [HST.out]; exact HO.out, hbl⟩
        case measure => simp [intOf] <;> omega
      · rw [hb] at hbt
        rw [hb, if_pos rfl] at hst
        have HST := Lib.hid hst
        clear hst hb
        go_wp2_with (at_builtin; refine wpList_app_int (w := wr) (W := w) rfl (.tmp 18) (.tmp 20) rfl w.heap.size _ _ _ (k : Int) rfl HO.out (by simp [go_sem]) (by omega) zb hbl ?_; intro v' w' hown' hg' hbl')
        have HO' := Lib.hid hown'
        clear hown' hg'
        go_roundw
        case rel => exact ⟨k + 1, m + 1, by omega, by go_num, by omega, by rw [HST.out]; exact HO'.out, hbl'⟩
        case measure => simp [intOf] <;> omega
    · obtain rfl : k = n := by omega
      have HO := Lib.hid hown
      clear hown
      go_wp2
      go_ret
      obtain ⟨A, c, hv⟩ := own_shape HO.out
      have ho := HO.out
      rw [hv] at ho ⊢
      have hm := ho.1
      rw [List.length_map, Nat.mul_one] at hm
      rw [← hm] at ho ⊢
      exact ⟨A, c, rfl, ho, hbl⟩
set_option maxHeartbeats 400000 in
theorem sl09Bits (S n : Nat) (w : World) (hS : S < 256) (hn : n ≤ 8) :
    Calls Try.prog 43 #[.int .i64 S] w (MadeS w 3 1 (memL (bitS S) 8).length ((memL (bitS S) 8).map (Value.int .i64))) := by
  have OE := Lib.hid (own_empty w 3 1 w.heap.size (Nat.le_refl _))
  have hni : (n : Int) ≤ 8 := by omega
  go_enter Try.func43, Try.ntmps43
  go_wp2
  go_loopw [3, 4] (fun v i wr => ∃ k m : Nat, k ≤ 8 ∧ i = .int .i64 k ∧ m ≤ k ∧ wr.ownsRow w.heap.size 3 1 v m ((memL (bitS S) k).map (Value.int .i64)) ∧ Below w.heap.size w wr) (fun _ i _ => 8 - (intOf i).toNat)
  case atStart => exact ⟨0, 0, Nat.zero_le _, rfl, Nat.zero_le _, OE.out, (Below.refl _ _).alloc (Nat.le_refl _) _⟩
  case round =>
    obtain ⟨k, m, hk, rfl, hmk, hown, hbl⟩ := hrel
    by_cases hlt : (k : Int) < 8
    · have hbt := bit_1 hS k
      have hst := memL_step (bitS S) k
      have HO := Lib.hid hown
      have zb := hbl.size
      clear hown
      cases hb : bitS S k
      · rw [hb] at hbt
        rw [hb, if_neg (by simp), List.append_nil] at hst
        have HST := Lib.hid hst
        clear hst hb
        go_wp2_with fail
        go_roundw
        case rel => exact ⟨k + 1, m, by omega, by go_num, by omega, by rw [HST.out]; exact HO.out, hbl⟩
        case measure => simp [intOf] <;> omega
      · rw [hb] at hbt
        rw [hb, if_pos rfl] at hst
        have HST := Lib.hid hst
        clear hst hb
        go_wp2_with (at_builtin; refine wpList_app_int (w := wr) (W := w) rfl (.tmp 15) (.tmp 17) rfl w.heap.size _ _ _ (k : Int) rfl HO.out (by simp [go_sem]) (by omega) zb hbl ?_; intro v' w' hown' hg' hbl')
        have HO' := Lib.hid hown'
        clear hown' hg'
        go_roundw
        case rel => exact ⟨k + 1, m + 1, by omega, by go_num, by omega, by rw [HST.out]; exact HO'.out, hbl'⟩
        case measure => simp [intOf] <;> omega
    · obtain rfl : k = 8 := by omega
      have HO := Lib.hid hown
      clear hown
      go_wp2
      go_ret
      obtain ⟨A, c, hv⟩ := own_shape HO.out
      have ho := HO.out
      rw [hv] at ho ⊢
      have hm := ho.1
      rw [List.length_map, Nat.mul_one] at hm
      rw [← hm] at ho ⊢
      exact ⟨A, c, rfl, ho, hbl⟩

set_option maxHeartbeats 400000 in
theorem iisBefore (A A' : Option Addr) (n c c' : Nat) (xs ys : List Int) (w : World) (B : Nat) (h : Rd w B 1 A n (xs.map (Value.int .i64))) (h' : Rd w B 1 A' n (ys.map (Value.int .i64))) (hn : n ≤ 1048576) :
    Calls Try.prog 46 #[.slice A n c, .slice A' n c'] w fun e w' => e = .returned (.bool (lexB xs ys)) ∧ ∃ q, w' = w.drewN q := by
  have hl : xs.length = n := by simpa using h.1
  have hl' : ys.length = n := by simpa using h'.1
  have H := Lib.hid h
  have H' := Lib.hid h'
  have HL := Lib.hid hl
  have HL' := Lib.hid hl'
  have hni : (n : Int) ≤ 1048576 := by omega
  obtain ⟨v, hv⟩ : ∃ v, v = lexB xs ys := ⟨_, rfl⟩
  rw [← hv]
  have HV := Lib.hid hv
  clear h h' hl hl' hv
  go_enter Try.func46, Try.ntmps46
  go_wp2
  go_loopw [5] (fun i wr => ∃ k q : Nat, k ≤ n ∧ i = .int .i64 k ∧ Hid (xs.take k = ys.take k) ∧ wr = w.drewN q) (fun i _ => n - (intOf i).toNat)
  case atStart => exact ⟨0, 0, Nat.zero_le _, rfl, rfl, rfl⟩
  case round =>
    obtain ⟨k, q, hk, rfl, hpre, hwa⟩ := hrel
    have HWA := Lib.hid hwa
    have HCW := Lib.hid (fun p => (by rw [hwa]; rfl : wr.cell? p = w.cell? p))
    clear hwa
    by_cases hlt : (k : Int) < n
    · obtain ⟨b, o, rfl, _, hc⟩ := H.out.cell (by omega)
      obtain ⟨b', o', rfl, _, hc'⟩ := H'.out.cell (by omega)
      obtain ⟨x, hx⟩ : ∃ x, xs[k]? = some x := ⟨_, List.getElem?_eq_getElem (by rw [HL.out]; omega)⟩
      obtain ⟨y, hy⟩ : ∃ y, ys[k]? = some y := ⟨_, List.getElem?_eq_getElem (by rw [HL'.out]; omega)⟩
      have c0 : wr.cell? ⟨b, o + k, none⟩ = some (.int .i64 x) := (HCW.out _).trans (hc k _ (by simp [hx]))
      have c1 : wr.cell? ⟨b', o' + k, none⟩ = some (.int .i64 y) := (HCW.out _).trans (hc' k _ (by simp [hy]))
      have HX := Lib.hid hx
      have HY := Lib.hid hy
      clear hc hc' hx hy
      by_cases e : x = y
      · have hn2 : xs.take (k + 1) = ys.take (k + 1) := by rw [take_ch HX.out, take_ch HY.out, hpre.out, e]
        have HN := Lib.hid hn2
        have hxy : (x == y) = true := by simp [e]
        clear e hn2
        go_wp2
        go_quiet (fail)
        go_wp2
        go_roundw
        case rel => exact ⟨k + 1, _, by omega, by go_num, HN, by rw [HWA.out]; exact World.drewN_drewN ..⟩
        case measure => simp [intOf] <;> omega
      · have hf := HV.out.trans (lex_at hpre.out HX.out HY.out e)
        have HF := Lib.hid hf
        have hxy : (x == y) = false := by simp [e]
        clear e hf
        go_wp2
        go_quiet (fail)
        obtain ⟨w2, hw2⟩ : ∃ w2, w2 = wr.drewN nq := ⟨_, rfl⟩
        have d0 : w2.cell? ⟨b, o + k, none⟩ = some (.int .i64 x) := by rw [hw2]; exact c0
        have d1 : w2.cell? ⟨b', o' + k, none⟩ = some (.int .i64 y) := by rw [hw2]; exact c1
        have HW2 : Hid (w2 = wr.drewN nq) := Lib.hid hw2
        rw [← hw2]
        clear hw2 c0 c1
        go_wp2
        go_quiet (fail)
        go_wp2
        go_ret
        exact ⟨by rw [HF.out]; rfl, _, by rw [HW2.out, HWA.out]; exact (World.drewN_drewN ..).trans (World.drewN_drewN ..)⟩
    · obtain rfl : k = n := by omega
      have hf : v = false := by
        have h1 := hpre.out
        rw [List.take_of_length_le (by rw [HL.out]; omega), List.take_of_length_le (by rw [HL'.out]; omega)] at h1
        exact HV.out.trans (lex_none h1)
      have HF := Lib.hid hf
      clear hf
      go_wp2
      go_ret
      exact ⟨by rw [HF.out]; rfl, q, HWA.out⟩

set_option maxHeartbeats 400000 in
theorem sl09Less (A A' : Option Addr) (n c c' : Nat) (xs ys : List Int) (w : World) (B : Nat) (h : Rd w B 1 A n (xs.map (Value.int .i64))) (h' : Rd w B 1 A' n (ys.map (Value.int .i64))) (hn : n ≤ 1048576) :
    Calls Try.prog 44 #[.slice A n c, .slice A' n c'] w fun e w' => e = .returned (.bool (lexB xs ys)) ∧ ∃ q, w' = w.drewN q := by
  have hl : xs.length = n := by simpa using h.1
  have hl' : ys.length = n := by simpa using h'.1
  have H := Lib.hid h
  have H' := Lib.hid h'
  have HL := Lib.hid hl
  have HL' := Lib.hid hl'
  have hni : (n : Int) ≤ 1048576 := by omega
  obtain ⟨v, hv⟩ : ∃ v, v = lexB xs ys := ⟨_, rfl⟩
  rw [← hv]
  have HV := Lib.hid hv
  clear h h' hl hl' hv
  go_enter Try.func44, Try.ntmps44
  go_wp2
  go_loopw [5] (fun i wr => ∃ k q : Nat, k ≤ n ∧ i = .int .i64 k ∧ Hid (xs.take k = ys.take k) ∧ wr = w.drewN q) (fun i _ => n - (intOf i).toNat)
  case atStart => exact ⟨0, 0, Nat.zero_le _, rfl, rfl, rfl⟩
  case round =>
    obtain ⟨k, q, hk, rfl, hpre, hwa⟩ := hrel
    have HWA := Lib.hid hwa
    have HCW := Lib.hid (fun p => (by rw [hwa]; rfl : wr.cell? p = w.cell? p))
    clear hwa
    by_cases hlt : (k : Int) < n
    · obtain ⟨b, o, rfl, _, hc⟩ := H.out.cell (by omega)
      obtain ⟨b', o', rfl, _, hc'⟩ := H'.out.cell (by omega)
      obtain ⟨x, hx⟩ : ∃ x, xs[k]? = some x := ⟨_, List.getElem?_eq_getElem (by rw [HL.out]; omega)⟩
      obtain ⟨y, hy⟩ : ∃ y, ys[k]? = some y := ⟨_, List.getElem?_eq_getElem (by rw [HL'.out]; omega)⟩
      have c0 : wr.cell? ⟨b, o + k, none⟩ = some (.int .i64 x) := (HCW.out _).trans (hc k _ (by simp [hx]))
      have c1 : wr.cell? ⟨b', o' + k, none⟩ = some (.int .i64 y) := (HCW.out _).trans (hc' k _ (by simp [hy]))
      have HX := Lib.hid hx
      have HY := Lib.hid hy
      clear hc hc' hx hy
      by_cases e : x = y
      · have hn2 : xs.take (k + 1) = ys.take (k + 1) := by rw [take_ch HX.out, take_ch HY.out, hpre.out, e]
        have HN := Lib.hid hn2
        have hxy : (x == y) = true := by simp [e]
        clear e hn2
        go_wp2
        go_quiet (fail)
        go_wp2
        go_roundw
        case rel => exact ⟨k + 1, _, by omega, by go_num, HN, by rw [HWA.out]; exact World.drewN_drewN ..⟩
        case measure => simp [intOf] <;> omega
      · have hf := HV.out.trans (lex_at hpre.out HX.out HY.out e)
        have HF := Lib.hid hf
        have hxy : (x == y) = false := by simp [e]
        clear e hf
        go_wp2
        go_quiet (fail)
        obtain ⟨w2, hw2⟩ : ∃ w2, w2 = wr.drewN nq := ⟨_, rfl⟩
        have d0 : w2.cell? ⟨b, o + k, none⟩ = some (.int .i64 x) := by rw [hw2]; exact c0
        have d1 : w2.cell? ⟨b', o' + k, none⟩ = some (.int .i64 y) := by rw [hw2]; exact c1
        have HW2 : Hid (w2 = wr.drewN nq) := Lib.hid hw2
        rw [← hw2]
        clear hw2 c0 c1
        go_wp2
        go_quiet (fail)
        go_wp2
        go_ret
        exact ⟨by rw [HF.out]; rfl, _, by rw [HW2.out, HWA.out]; exact (World.drewN_drewN ..).trans (World.drewN_drewN ..)⟩
    · obtain rfl : k = n := by omega
      have hf : v = false := by
        have h1 := hpre.out
        rw [List.take_of_length_le (by rw [HL.out]; omega), List.take_of_length_le (by rw [HL'.out]; omega)] at h1
        exact HV.out.trans (lex_none h1)
      have HF := Lib.hid hf
      clear hf
      go_wp2
      go_ret
      exact ⟨by rw [HF.out]; rfl, q, HWA.out⟩

end Go.Proofs.Ytjcaamnojinnmaa
