/-
  The walks of gears that take numbers and single gears: what each function of impl and of spec returns, for all arguments. They make new blocks alone.
-/
import Derived.Test.YtiecjmnaphfeaaaMag
import Derived.Test.YtiecjmnaphfeaaaGearMath
import Derived.Test.YtiecjmnaphfeaaaNearMath
namespace Go.Proofs.Ytiecjmnaphfeaaa
open Go.RowKit

theorem iGearOkE (a b : Int) (w : World) :
    Calls Try.prog 18 #[.agg #[.int .i64 a, .int .i64 b]] w fun e w' => e = .returned (.bool (gearB a b)) ∧ w.alloc (.cells #[.int .i64 a, .int .i64 b] 25) = w' := by
  have e : gearB a b = (inB a 6 120 && inB b 6 120) := by
    rw [Bool.eq_iff_iff, gearB_iff]; simp [inB]; omega
  rw [e]
  go_enter Try.func18, Try.ntmps18
  cases h1 : inB a 6 120 <;> cases h2 : inB b 6 120
  all_goals
    go_wp2_with (go_at_call 55; refine (within_any _ _ _ _).mono ?_; rintro e w' ⟨rfl, rfl⟩)
    go_ret
    exact ⟨rfl, rfl⟩
theorem iGearOk (a b : Int) (w : World) :
    Calls Try.prog 18 #[.agg #[.int .i64 a, .int .i64 b]] w fun e w' => e = .returned (.bool (gearB a b)) ∧ Below w.heap.size w w' :=
  (iGearOkE a b w).mono fun _ _ ⟨he, hw⟩ => ⟨he, by rw [← hw]; exact (Below.refl _ _).alloc (Nat.le_refl _) _⟩
theorem sGearOkE (a b : Int) (w : World) :
    Calls Try.prog 16 #[.agg #[.int .i64 a, .int .i64 b]] w fun e w' => e = .returned (.bool (gearB a b)) ∧ w.alloc (.cells #[.int .i64 a, .int .i64 b] 25) = w' := by
  have e : gearB a b = (inB a 6 120 && inB b 6 120) := by
    rw [Bool.eq_iff_iff, gearB_iff]; simp [inB]; omega
  rw [e]
  go_enter Try.func16, Try.ntmps16
  cases h1 : inB a 6 120 <;> cases h2 : inB b 6 120
  all_goals
    go_wp2_with (go_at_call 54; refine (l01In_any _ _ _ _).mono ?_; rintro e w' ⟨rfl, rfl⟩)
    go_ret
    exact ⟨rfl, rfl⟩
theorem sGearOk (a b : Int) (w : World) :
    Calls Try.prog 16 #[.agg #[.int .i64 a, .int .i64 b]] w fun e w' => e = .returned (.bool (gearB a b)) ∧ Below w.heap.size w w' :=
  (sGearOkE a b w).mono fun _ _ ⟨he, hw⟩ => ⟨he, by rw [← hw]; exact (Below.refl _ _).alloc (Nat.le_refl _) _⟩

theorem toGear_any (a b : Int) (w : World) :
    Calls Try.prog 17 #[.agg #[.int .i64 a, .int .i64 b]] w fun e w' => e = .returned (.agg #[.int .i64 a, .int .i64 b]) ∧ Below w.heap.size w w' := by
  go_enter Try.func17, Try.ntmps17
  go_wp2
  refine bodyPost_ret (v := .agg #[.int .i64 a, .int .i64 b]) (by simp [results, Try.results17, go_sem]) rfl ⟨rfl, ?_⟩
  (repeat (first | exact Below.refl _ _ | assumption | refine Below.alloc ?_ (by first | omega | (simp <;> omega)) _ | refine Below.setCell ?_ (by first | omega | (simp <;> omega)) _ | refine Below.drew ?_ | refine Below.trans ?_ (Below.mono (by assumption) (by first | omega | (simp <;> omega)))))
theorem eqGear_same (a b : Int) (w : World) :
    Calls Try.prog 34 #[.agg #[.int .i64 a, .int .i64 b], .agg #[.int .i64 a, .int .i64 b]] w fun e w' => e = .returned (.bool true) ∧ Below w.heap.size w w' := by
  go_enter Try.func34, Try.ntmps34
  go_wp2
  go_ret
  exact ⟨rfl, by (repeat (first | exact Below.refl _ _ | assumption | refine Below.alloc ?_ (by first | omega | (simp <;> omega)) _ | refine Below.setCell ?_ (by first | omega | (simp <;> omega)) _ | refine Below.drew ?_ | refine Below.trans ?_ (Below.mono (by assumption) (by first | omega | (simp <;> omega)))))⟩

/-! ### Which is closer -/
def okK (n : Int) : Bool := inB n 1 1000
theorem sl11Ok (n : Int) (w : World) : Calls Try.prog 60 #[.int .i64 n] w fun e w' => e = .returned (.bool (okK n)) ∧ w = w' := by
  unfold okK
  go_enter Try.func60, Try.ntmps60
  go_wp2_with (go_at_call 54; refine (l01In_any _ _ _ _).mono ?_; rintro e w' ⟨rfl, rfl⟩)
  go_ret
  exact ⟨rfl, rfl⟩
def clsB (t b x y u v : Int) : Bool := okK t && okK b && okK x && okK y && okK u && okK v
def CloserZ (t b x y u v : Int) : Int :=
  if clsB t b x y u v = true then (if dst t b x y * v < dst t b u v * y then -1 else if dst t b u v * y < dst t b x y * v then 1 else 0) else 0
theorem mul_bd3 {x y : Int} {m n : Nat} (hx0 : 0 ≤ x) (hx : x ≤ m) (hy0 : 0 ≤ y) (hy : y ≤ n) : 0 ≤ x * y ∧ x * y ≤ m * n :=
  ⟨Int.mul_nonneg hx0 hy0, Int.mul_le_mul hx hy hy0 (by omega)⟩
theorem cls_bd {t b x y u v : Int} (h : clsB t b x y u v = true) : (1 ≤ t ∧ t ≤ 1000) ∧ (1 ≤ b ∧ b ≤ 1000) ∧ (1 ≤ x ∧ x ≤ 1000) ∧ (1 ≤ y ∧ y ≤ 1000) ∧ (1 ≤ u ∧ u ≤ 1000) ∧ (1 ≤ v ∧ v ≤ 1000) := by
  simp [clsB, okK, inB] at h
  omega
theorem dst_bd {t b x y : Int} (ht : 1 ≤ t ∧ t ≤ 1000) (hb : 1 ≤ b ∧ b ≤ 1000) (hx : 1 ≤ x ∧ x ≤ 1000) (hy : 1 ≤ y ∧ y ≤ 1000) :
    0 ≤ x * b ∧ x * b ≤ 1000000 ∧ 0 ≤ t * y ∧ t * y ≤ 1000000 ∧ dst t b x y ≤ 1000000 := by
  have a := mul_bd3 (m := 1000) (n := 1000) (show 0 ≤ x by omega) hx.2 (show 0 ≤ b by omega) hb.2
  have c := mul_bd3 (m := 1000) (n := 1000) (show 0 ≤ t by omega) ht.2 (show 0 ≤ y by omega) hy.2
  unfold dst
  omega

theorem sl11Far (t b x y : Int) (w : World) (ht : 1 ≤ t ∧ t ≤ 1000) (hb : 1 ≤ b ∧ b ≤ 1000) (hx : 1 ≤ x ∧ x ≤ 1000) (hy : 1 ≤ y ∧ y ≤ 1000) :
    Calls Try.prog 61 #[.int .i64 t, .int .i64 b, .int .i64 x, .int .i64 y] w fun e w' => e = .returned (.int .i64 (dst t b x y)) ∧ w = w' := by
  obtain ⟨a1, a2, a3, a4, a5⟩ := dst_bd ht hb hx hy
  unfold dst
  by_cases h : x * b - t * y < 0
  · rw [show max (x * b - t * y) (-(x * b - t * y)) = -(x * b - t * y) by omega]
    clear a5
    go_enter Try.func61, Try.ntmps61
    go_wp2
    all_goals
      go_ret
      exact ⟨ret_int (by omega), rfl⟩
  · rw [show max (x * b - t * y) (-(x * b - t * y)) = x * b - t * y by omega]
    clear a5
    go_enter Try.func61, Try.ntmps61
    go_wp2
    all_goals
      go_ret
      exact ⟨ret_int (by omega), rfl⟩

theorem sCloserOf (t b x y u v : Int) (w : World) :
    Calls Try.prog 45 #[.int .i64 t, .int .i64 b, .int .i64 x, .int .i64 y, .int .i64 u, .int .i64 v] w fun e w' => e = .returned (.int .i64 (CloserZ t b x y u v)) ∧ w = w' := by
  cases h : clsB t b x y u v
  · have e : CloserZ t b x y u v = 0 := by simp [CloserZ, h]
    rw [e]
    unfold clsB at h
    clear e
    cases h1 : okK t
    · go_enter Try.func45, Try.ntmps45
      go_wp2_with (go_at_call 60; refine (sl11Ok _ _).mono ?_; rintro e w' ⟨rfl, rfl⟩)
      go_ret
      exact ⟨rfl, rfl⟩
    cases h2 : okK b
    · go_enter Try.func45, Try.ntmps45
      go_wp2_with (go_at_call 60; refine (sl11Ok _ _).mono ?_; rintro e w' ⟨rfl, rfl⟩)
      go_ret
      exact ⟨rfl, rfl⟩
    cases h3 : okK x
    · go_enter Try.func45, Try.ntmps45
      go_wp2_with (go_at_call 60; refine (sl11Ok _ _).mono ?_; rintro e w' ⟨rfl, rfl⟩)
      go_ret
      exact ⟨rfl, rfl⟩
    cases h4 : okK y
    · go_enter Try.func45, Try.ntmps45
      go_wp2_with (go_at_call 60; refine (sl11Ok _ _).mono ?_; rintro e w' ⟨rfl, rfl⟩)
      go_ret
      exact ⟨rfl, rfl⟩
    cases h5 : okK u
    · go_enter Try.func45, Try.ntmps45
      go_wp2_with (go_at_call 60; refine (sl11Ok _ _).mono ?_; rintro e w' ⟨rfl, rfl⟩)
      go_ret
      exact ⟨rfl, rfl⟩
    cases h6 : okK v
    · go_enter Try.func45, Try.ntmps45
      go_wp2_with (go_at_call 60; refine (sl11Ok _ _).mono ?_; rintro e w' ⟨rfl, rfl⟩)
      go_ret
      exact ⟨rfl, rfl⟩
    simp [h1, h2, h3, h4, h5, h6] at h
  have hc := cls_bd h
  have hk := h
  simp only [clsB, Bool.and_eq_true] at hk
  obtain ⟨⟨⟨⟨⟨k1, k2⟩, k3⟩, k4⟩, k5⟩, k6⟩ := hk
  have d1 := dst_bd hc.1 hc.2.1 hc.2.2.1 hc.2.2.2.1
  have d2 := dst_bd hc.1 hc.2.1 hc.2.2.2.2.1 hc.2.2.2.2.2
  have e1 := dst_nn t b x y
  have e2 := dst_nn t b u v
  have F1 := Lib.hid (fun w => sl11Far t b x y w hc.1 hc.2.1 hc.2.2.1 hc.2.2.2.1)
  have F2 := Lib.hid (fun w => sl11Far t b u v w hc.1 hc.2.1 hc.2.2.2.2.1 hc.2.2.2.2.2)
  have e : CloserZ t b x y u v = if dst t b x y * v < dst t b u v * y then -1 else if dst t b u v * y < dst t b x y * v then 1 else 0 := by simp only [CloserZ, h, if_true]
  rw [e]
  clear h e
  obtain ⟨D1, hD1⟩ : ∃ D, D = dst t b x y := ⟨_, rfl⟩
  obtain ⟨D2, hD2⟩ : ∃ D, D = dst t b u v := ⟨_, rfl⟩
  rw [← hD1] at d1 e1 F1 ⊢
  rw [← hD2] at d2 e2 F2 ⊢
  have m1 := mul_bd3 (m := 1000000) (n := 1000) e1 d1.2.2.2.2 (show 0 ≤ v by omega) hc.2.2.2.2.2.2
  have m2 := mul_bd3 (m := 1000000) (n := 1000) e2 d2.2.2.2.2 (show 0 ≤ y by omega) hc.2.2.2.1.2
  simp only [Int.cast_ofNat_Int] at m1 m2
  clear hD1 hD2 d1 d2 e1 e2
  rcases Int.lt_trichotomy (D1 * v) (D2 * y) with hl | hl | hl
  · rw [if_pos hl]
    go_enter Try.func45, Try.ntmps45
    go_wp2_with (first | (go_at_call 60; refine (sl11Ok _ _).mono ?_; rintro e w' ⟨rfl, rfl⟩))
    refine (F1.out _).mono ?_
    rintro e w' ⟨rfl, rfl⟩
    go_wp2_with fail
    refine (F2.out _).mono ?_
    rintro e w' ⟨rfl, rfl⟩
    go_wp2
    go_ret
    exact ⟨rfl, rfl⟩
  · rw [if_neg (by omega), if_neg (by omega)]
    have hl1 := Int.le_of_eq hl
    have hl2 := Int.le_of_eq hl.symm
    clear hl
    go_enter Try.func45, Try.ntmps45
    go_wp2_with (first | (go_at_call 60; refine (sl11Ok _ _).mono ?_; rintro e w' ⟨rfl, rfl⟩))
    refine (F1.out _).mono ?_
    rintro e w' ⟨rfl, rfl⟩
    go_wp2_with fail
    refine (F2.out _).mono ?_
    rintro e w' ⟨rfl, rfl⟩
    go_wp2
    go_ret
    exact ⟨rfl, rfl⟩
  · rw [if_neg (by omega), if_pos hl]
    go_enter Try.func45, Try.ntmps45
    go_wp2_with (first | (go_at_call 60; refine (sl11Ok _ _).mono ?_; rintro e w' ⟨rfl, rfl⟩))
    refine (F1.out _).mono ?_
    rintro e w' ⟨rfl, rfl⟩
    go_wp2_with fail
    refine (F2.out _).mono ?_
    rintro e w' ⟨rfl, rfl⟩
    go_wp2
    go_ret
    exact ⟨rfl, rfl⟩

theorem cls_all (t b x y u v : Int) : clsB t b x y u v = [t, b, x, y, u, v].all okK := by simp [clsB, Bool.and_assoc]

theorem iCloserOf (t b x y u v : Int) (w : World) :
    Calls Try.prog 46 #[.int .i64 t, .int .i64 b, .int .i64 x, .int .i64 y, .int .i64 u, .int .i64 v] w fun e w' => e = .returned (.int .i64 (CloserZ t b x y u v)) ∧ Below w.heap.size w w' := by
  obtain ⟨L, hL⟩ : ∃ L, L = [t, b, x, y, u, v] := ⟨_, rfl⟩
  have hall : clsB t b x y u v = L.all okK := by rw [hL]; exact cls_all t b x y u v
  have hlen : L.length = 6 := by rw [hL]; rfl
  have hcell : ∀ k : Nat, ∀ z, L[k]? = some z → (w.alloc (.cells #[.int .i64 t, .int .i64 b, .int .i64 x, .int .i64 y, .int .i64 u, .int .i64 v] 3)).cell? ⟨w.heap.size, k, none⟩ = some (.int .i64 z) := by
    intro k z hz
    rw [(Blk.new w 3 #[.int .i64 t, .int .i64 b, .int .i64 x, .int .i64 y, .int .i64 u, .int .i64 v]).cell k]
    have : (#[Value.int .i64 t, .int .i64 b, .int .i64 x, .int .i64 y, .int .i64 u, .int .i64 v] : Array Value)[k]? = (L.map (Value.int .i64))[k]? := by rw [hL]; simp
    rw [this]
    simp [hz]
  have HC := Lib.hid hcell
  have HA := Lib.hid hall
  have HL := Lib.hid hlen
  clear hcell hall hlen hL
  go_enter Try.func46, Try.ntmps46
  go_wp2_with fail
  go_loop [14, 25] (fun _ i => ∃ k : Nat, k ≤ 6 ∧ i = .int .i64 k ∧ (L.take k).all okK = true) (fun _ i => 6 - (intOf i).toNat)
  case atStart => exact ⟨0, by omega, rfl, by simp⟩
  case round =>
    obtain ⟨k, hk, rfl, hok⟩ := hrel
    have HOK := Lib.hid hok
    clear hok
    by_cases hlt : k < 6
    · obtain ⟨z, hz⟩ : ∃ z, L[k]? = some z := ⟨_, List.getElem?_eq_getElem (by rw [HL.out]; exact hlt)⟩
      have hc := HC.out k z hz
      have HZ := Lib.hid hz
      clear hz
      have hi : (k : Int) < 6 := by omega
      cases hzk : inB z 1 1000
      · have e : CloserZ t b x y u v = 0 := by
          have : clsB t b x y u v = false := by
            rw [HA.out, Bool.eq_false_iff]
            intro ha
            have := List.all_eq_true.1 ha z (List.mem_of_getElem? HZ.out)
            unfold okK at this
            rw [hzk] at this
            cases this
          simp [CloserZ, this]
        have E := Lib.hid e
        clear e
        go_wp2_with (go_at_call 55; refine (within_any _ _ _ _).mono ?_; rintro e w' ⟨rfl, rfl⟩)
        go_ret
        exact ⟨by rw [E.out]; rfl, by (repeat (first | exact Below.refl _ _ | assumption | refine Below.alloc ?_ (by first | omega | (simp <;> omega)) _ | refine Below.setCell ?_ (by first | omega | (simp <;> omega)) _ | refine Below.drew ?_ | refine Below.trans ?_ (Below.mono (by assumption) (by first | omega | (simp <;> omega)))))⟩
      · go_wp2_with (go_at_call 55; refine (within_any _ _ _ _).mono ?_; rintro e w' ⟨rfl, rfl⟩)
        go_round
        case rel => exact ⟨k + 1, by omega, by go_num, by
          obtain ⟨hk', rfl⟩ := List.getElem?_eq_some_iff.1 HZ.out
          rw [List.take_succ_eq_append_getElem hk', List.all_append, HOK.out]; simp [okK, hzk]⟩
        case measure => simp [intOf]; omega
    · obtain rfl : k = 6 := by omega
      have h : clsB t b x y u v = true := by
        rw [HA.out]
        have := HOK.out
        rwa [List.take_of_length_le (by rw [HL.out]; omega)] at this
      have hc := cls_bd h
      have d1 := dst_bd hc.1 hc.2.1 hc.2.2.1 hc.2.2.2.1
      have d2 := dst_bd hc.1 hc.2.1 hc.2.2.2.2.1 hc.2.2.2.2.2
      have e1 := dst_nn t b x y
      have e2 := dst_nn t b u v
      have a1 : absZ (x * b - t * y) = dst t b x y := rfl
      have a2 : absZ (u * b - t * v) = dst t b u v := rfl
      have F1 := Lib.hid (fun w => magnitude_any (x * b - t * y) w (by omega) (by omega))
      have F2 := Lib.hid (fun w => magnitude_any (u * b - t * v) w (by omega) (by omega))
      have e : CloserZ t b x y u v = if dst t b x y * v < dst t b u v * y then -1 else if dst t b u v * y < dst t b x y * v then 1 else 0 := by simp only [CloserZ, h, if_true]
      have E := Lib.hid e
      clear h e
      rw [a1] at F1
      rw [a2] at F2
      obtain ⟨D1, hD1⟩ : ∃ D, D = dst t b x y := ⟨_, rfl⟩
      obtain ⟨D2, hD2⟩ : ∃ D, D = dst t b u v := ⟨_, rfl⟩
      rw [← hD1] at d1 e1 F1 E
      rw [← hD2] at d2 e2 F2 E
      have m1 := mul_bd3 (m := 1000000) (n := 1000) e1 d1.2.2.2.2 (show 0 ≤ v by omega) hc.2.2.2.2.2.2
      have m2 := mul_bd3 (m := 1000000) (n := 1000) e2 d2.2.2.2.2 (show 0 ≤ y by omega) hc.2.2.2.1.2
      simp only [Int.cast_ofNat_Int] at m1 m2
      have g1 := d1.1
      have g2 := d1.2.1
      have g3 := d1.2.2.1
      have g4 := d1.2.2.2.1
      have g5 := d2.1
      have g6 := d2.2.1
      have g7 := d2.2.2.1
      have g8 := d2.2.2.2.1
      clear hD1 hD2 d1 d2 a1 a2
      rcases Int.lt_trichotomy (D1 * v) (D2 * y) with hl | hl | hl
      · rw [if_pos hl] at E
        go_wp2_with fail
        refine (F1.out _).mono ?_
        rintro e w' ⟨rfl, rfl⟩
        go_wp2_with fail
        refine (F2.out _).mono ?_
        rintro e w' ⟨rfl, rfl⟩
        go_wp2
        go_ret
        exact ⟨by rw [E.out]; rfl, by (repeat (first | exact Below.refl _ _ | assumption | refine Below.alloc ?_ (by first | omega | (simp <;> omega)) _ | refine Below.setCell ?_ (by first | omega | (simp <;> omega)) _ | refine Below.drew ?_ | refine Below.trans ?_ (Below.mono (by assumption) (by first | omega | (simp <;> omega)))))⟩
      · rw [if_neg (by omega), if_neg (by omega)] at E
        have hl1 := Int.le_of_eq hl
        have hl2 := Int.le_of_eq hl.symm
        clear hl
        go_wp2_with fail
        refine (F1.out _).mono ?_
        rintro e w' ⟨rfl, rfl⟩
        go_wp2_with fail
        refine (F2.out _).mono ?_
        rintro e w' ⟨rfl, rfl⟩
        go_wp2
        go_ret
        exact ⟨by rw [E.out]; rfl, by (repeat (first | exact Below.refl _ _ | assumption | refine Below.alloc ?_ (by first | omega | (simp <;> omega)) _ | refine Below.setCell ?_ (by first | omega | (simp <;> omega)) _ | refine Below.drew ?_ | refine Below.trans ?_ (Below.mono (by assumption) (by first | omega | (simp <;> omega)))))⟩
      · rw [if_neg (by omega), if_pos hl] at E
        go_wp2_with fail
        refine (F1.out _).mono ?_
        rintro e w' ⟨rfl, rfl⟩
        go_wp2_with fail
        refine (F2.out _).mono ?_
        rintro e w' ⟨rfl, rfl⟩
        go_wp2
        go_ret
        exact ⟨by rw [E.out]; rfl, by (repeat (first | exact Below.refl _ _ | assumption | refine Below.alloc ?_ (by first | omega | (simp <;> omega)) _ | refine Below.setCell ?_ (by first | omega | (simp <;> omega)) _ | refine Below.drew ?_ | refine Below.trans ?_ (Below.mono (by assumption) (by first | omega | (simp <;> omega)))))⟩

end Go.Proofs.Ytiecjmnaphfeaaa
