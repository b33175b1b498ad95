/-
  RootOf of spec, and the law on it.
-/
import Derived.Test.YteidigbjllicpaaRoot
namespace Go.Proofs.Yteidigbjllicpaa
open Go.RowKit

theorem pn_wrap {r d : Nat} (_hr : r < 12) : wrap64 (2 ^ ((r + d) % 12)) = pw ((r : Int) + (d : Int)) := by
  rw [pw_small _ (by omega)]
  unfold pw
  congr 1

set_option maxHeartbeats 1000000 in
theorem sRootOf (A : Option Addr) (n c : Nat) (xs : List Int) (w : World) (h : Rd w w.heap.size 1 A n (xs.map (Value.int .i64))) (hn : n ≤ 1048576) :
    Calls Try.prog 23 #[.slice A n c] w fun e w' => e = .returned (.int .i64 (rootZ xs)) ∧ Below w.heap.size w w' := by
  have hlen : xs.length = n := by simpa using h.1
  have HL := Lib.hid hlen
  have H := Lib.hid h
  have PH := Lib.hid (fun w h => sOk16 A n c xs 1 w h hn)
  clear hlen h
  cases hq : xs.all pitchB && inB n 1 8
  · have e : rootZ xs = -1 := by
      unfold rootZ
      rw [HL.out]
      cases hp : xs.all pitchB
      · simp
      · rw [hp, Bool.true_and] at hq
        have := inB_not hq
        rw [show decide (1 ≤ n ∧ n ≤ 8) = false by simp; omega]
        simp
    rw [e]
    rw [hq] at PH
    clear hq e
    go_enter Try.func23, Try.ntmps23
    go_wp2_with (go_at_call 38; refine (PH.out _ H.out).mono ?_; rintro e w1 ⟨rfl, hb1⟩)
    go_ret
    exact ⟨rfl, hb1⟩
  have hpa := (Bool.and_eq_true _ _ ▸ hq).1
  have hp8 := inB_iff.1 (Bool.and_eq_true _ _ ▸ hq).2
  have e : rootZ xs = rootF (setZ xs) := by
    unfold rootZ
    rw [HL.out, hpa, show decide (1 ≤ n ∧ n ≤ 8) = true by simp; omega]
    simp
  rw [e]
  rw [hq] at PH
  have PX := Lib.hid (pitch_all hpa)
  clear hq e hpa hp8
  go_enter Try.func23, Try.ntmps23
  go_wp2_with fail
  refine (PH.out _ H.out).mono ?_
  rintro e w1 ⟨rfl, hb1⟩
  go_wp2
  go_loopw [3, 4] (fun s i wr => ∃ k : Nat, k ≤ n ∧ i = .int .i64 k ∧ s = .int .i64 (setZ (xs.take k)) ∧ wr = w1) (fun _ i _ => n - (intOf i).toNat)
  case atStart => exact ⟨0, Nat.zero_le _, rfl, rfl, rfl⟩
  case round =>
    obtain ⟨k, hk, rfl, rfl, rfl⟩ := hrel
    by_cases hlt : (k : Int) < n
    · obtain ⟨b, o, rfl, hbB, hcell⟩ := H.out.cell (by omega)
      obtain ⟨y, hy⟩ : ∃ y, xs[k]? = some y := ⟨_, List.getElem?_eq_getElem (by rw [HL.out]; omega)⟩
      have c1 : wr.cell? ⟨b, o + k, none⟩ = some (.int .i64 y) := (hb1.cell (p := ⟨b, o + k, none⟩) hbB).trans (hcell k _ (by simp [hy]))
      obtain ⟨y0, y1⟩ := PX.out y (List.mem_of_getElem? hy)
      have hst : setZ (xs.take (k + 1)) = orZ (setZ (xs.take k)) (pw y) := by rw [take_one hy, setZ_snoc]
      have HST := Lib.hid hst
      obtain ⟨s, hs⟩ : ∃ s, s = setZ (xs.take k) := ⟨_, rfl⟩
      rw [← hs]
      have HS := Lib.hid hs
      clear hy hcell hst hs
      go_wp2
      rw [pw_wrap]
      go_roundw
      case rel => exact ⟨k + 1, by omega, by go_num, by rw [HST.out, ← HS.out]; rfl, by trivial⟩
      case measure => simp [intOf]; omega
    · obtain rfl : k = n := by omega
      have hfull : setZ (xs.take k) = setZ xs := by rw [List.take_of_length_le (by rw [HL.out]; omega)]
      rw [hfull]
      obtain ⟨s, hs⟩ : ∃ s, s = setZ xs := ⟨_, rfl⟩
      rw [← hs]
      have HS := Lib.hid hs
      clear hs hfull
      go_wp2
      go_loopw [5] (fun i wr2 => ∃ r : Nat, r ≤ 12 ∧ i = .int .i64 r ∧ Hid (∀ j, j < r → rootAt s j = false) ∧ Below w.heap.size w wr2) (fun i _ => 12 - (intOf i).toNat)
      case atStart => exact ⟨0, by omega, rfl, fun j hj => by omega, hb1⟩
      case round =>
        obtain ⟨r, hr, rfl, hall, hbl⟩ := hrel
        by_cases hlt2 : (r : Int) < 12
        · have hr12 : r < 12 := by omega
          obtain ⟨t4, ht4⟩ : ∃ t, t = triZ 4 r := ⟨_, rfl⟩
          obtain ⟨t3, ht3⟩ : ∃ t, t = triZ 3 r := ⟨_, rfl⟩
          have hra : rootAt s r = ((s == t4) || (s == t3)) := by unfold rootAt; rw [ht4, ht3]
          have HR := Lib.hid hra
          have q0 := pn_wrap (d := 0) hr12
          have q7 := pn_wrap (d := 7) hr12
          have q4 := pn_wrap (d := 4) hr12
          have q3 := pn_wrap (d := 3) hr12
          simp only [Nat.add_zero, Nat.mod_eq_of_lt hr12] at q0
          obtain ⟨B, hB⟩ : ∃ B, B = bits .or .i64 (wrap64 (2 ^ r)) (wrap64 (2 ^ ((r + 7) % 12))) := ⟨_, rfl⟩
          have h4 : bits .or .i64 B (wrap64 (2 ^ ((r + 4) % 12))) = t4 := by rw [hB, q0, q7, q4, ht4, ← tri_eq4 r hr12]; simp [orZ]
          have h3 : bits .or .i64 B (wrap64 (2 ^ ((r + 3) % 12))) = t3 := by rw [hB, q0, q7, q3, ht3, ← tri_eq3 r hr12]; simp [orZ]
          have HB := Lib.hid hB
          have F4 := Lib.hid h4
          have F3 := Lib.hid h3
          clear ht4 ht3 hra q0 q7 q4 q3 hB h4 h3
          go_wp2
          go_quiet (fail)
          rw [← HB.out]
          have h4 := F4.out
          have h3 := F3.out
          cases e4 : s == t4
          · cases e3 : s == t3
            · go_wp2
              go_roundw
              case rel => exact ⟨r + 1, by omega, by go_num, fun j hj => by
                by_cases e : j = r
                · subst e; rw [HR.out, e4, e3]; rfl
                · exact hall.out j (by omega), hbl.trans (Go.Joins.below_draws _ _ _)⟩
              case measure => simp [intOf]; omega
            · go_wp2
              go_ret
              exact ⟨by rw [← HS.out, rootF_hit hr12 (HR.out.trans (by rw [e4, e3]; rfl)) hall.out]; rfl, hbl.trans (Go.Joins.below_draws _ _ _)⟩
          · go_wp2
            go_ret
            exact ⟨by rw [← HS.out, rootF_hit hr12 (HR.out.trans (by rw [e4]; rfl)) hall.out]; rfl, hbl.trans (Go.Joins.below_draws _ _ _)⟩
        · obtain rfl : r = 12 := by omega
          go_wp2
          go_ret
          exact ⟨by rw [← HS.out, rootF_none hall.out]; rfl, hbl⟩

theorem fnExactRootOf_walk (W : World) (A : Option Addr) (n c : Nat) (xs : List Int) (r : Rd W W.heap.size 1 A n (xs.map (Value.int .i64))) (_l : xs.length = n) (_nc : n ≤ c) (nm : n ≤ 9223372036854775807)
    (_w : ∀ x ∈ xs, (Lit.int .i64 x).wf = true) :
    Calls Try.prog 7 #[.slice A n c] W fun e w' => e = .returned (.bool true) ∧ Below W.heap.size W w' := by
  by_cases hn : n ≤ 1048576
  case neg =>
    have R := Lib.hid r
    clear r
    go_enter Try.func7, Try.ntmps7
    go_wp2
    go_ret
    exact ⟨rfl, Below.refl _ _⟩
  have S := Lib.hid (fun A c w h => sRootOf A n c xs w h hn)
  have I := Lib.hid (fun A c w h => iRootOf A n c xs w h hn)
  obtain ⟨x, hx⟩ : ∃ x, x = rootZ xs := ⟨_, rfl⟩
  rw [← hx] at S I
  have R := Lib.hid r
  clear r hx
  go_enter Try.func7, Try.ntmps7
  go_wp2_with (go_at_call 15; refine (toIntS_any _ _ _ _ _ R.out hn).mono ?_; rintro e w1 ⟨A1, c1, rfl, ho1, hb1⟩)
  go_wp2_with (go_at_call 23; refine (S.out _ _ _ (Rd.of_own ho1)).mono ?_; rintro e w2 ⟨rfl, hb2⟩; have z1 := hb1.size; have z2 := hb2.size; have b2 := hb1.trans (hb2.mono z1))
  go_wp2_with (go_at_call 15; refine (toIntS_any _ _ _ _ _ ((R.out.below b2).more b2.size) hn).mono ?_; rintro e w3 ⟨A3, c3, rfl, ho3, hb3⟩; have b3 := b2.trans (hb3.mono b2.size))
  go_wp2_with (go_at_call 24; refine (I.out _ _ _ (Rd.of_own ho3)).mono ?_; rintro e w4 ⟨rfl, hb4⟩; have b4 := b3.trans (hb4.mono b3.size); have ho4 := own_below ho3 hb4)
  go_wp2_with (go_at_call 15; refine (toIntS_any _ _ _ _ _ ((R.out.below b4).more b4.size) hn).mono ?_; rintro e w5 ⟨A5, c5, rfl, ho5, hb5⟩; have b5 := b4.trans (hb5.mono b4.size); have ho4b := own_below ho4 hb5)
  go_wp2_with (go_at_call 17; refine (eqIntS_same _ _ _ _ _ _ _ (Rd.of_own ho4b) (Rd.of_own ho5) (by omega)).mono ?_; rintro e w6 ⟨rfl, hb6⟩)
  go_ret
  exact ⟨rfl, b5.trans (hb6.mono b5.size)⟩

end Go.Proofs.Yteidigbjllicpaa
