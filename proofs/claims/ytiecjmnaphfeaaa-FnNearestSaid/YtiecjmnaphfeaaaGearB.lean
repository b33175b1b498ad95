/-
  ErrorParts, GearsFor and NearestGear of impl and of spec: what each returns, for all arguments. They make new blocks alone.
-/
import Derived.Test.YtiecjmnaphfeaaaGear
namespace Go.Proofs.Ytiecjmnaphfeaaa
open Go.RowKit

theorem quiet_l {P : Program} {f : FuncId} {args : Array Value} {w : World} {n : Nat} {v : Value}
    (h : Calls P f args (w.drewN n) fun e w' => e = .returned v ∧ w.drewN n = w') : Calls P f args (w.drewN n) fun e w'' => e = .returned v ∧ ∃ m, w'' = w.drewN m :=
  h.mono fun _ _ ⟨he, hm⟩ => ⟨he, n, hm.symm⟩

def ErrZ (t b x y : Int) : Int := if gearB x y = true ∧ okK t = true ∧ okK b = true then dst t b x y * 1000000 / (t * y) else -1

theorem iErrorParts (t b x y : Int) (w : World) :
    Calls Try.prog 50 #[.int .i64 t, .int .i64 b, .agg #[.int .i64 x, .int .i64 y]] w fun e w' => e = .returned (.int .i64 (ErrZ t b x y)) ∧ Below w.heap.size w w' := by
  cases hg : gearB x y
  · have e : ErrZ t b x y = -1 := by simp [ErrZ, hg]
    rw [e]
    go_enter Try.func50, Try.ntmps50
    go_wp2_with (first | (go_at_call 18; refine (iGearOkE _ _ _).mono ?_; rintro e w' ⟨rfl, rfl⟩; rw [hg]) | (go_at_call 55; refine (within_any _ _ _ _).mono ?_; rintro e w' ⟨rfl, rfl⟩))
    go_ret
    exact ⟨rfl, by (repeat (first | exact Below.refl _ _ | assumption | refine Below.alloc ?_ (by first | omega | (simp <;> omega)) _ | refine Below.setCell ?_ (by first | omega | (simp <;> omega)) _ | refine Below.drew ?_ | refine Below.trans ?_ (Below.mono (by assumption) (by first | omega | (simp <;> omega)))))⟩
  cases h1 : inB t 1 1000
  · have e : ErrZ t b x y = -1 := by simp [ErrZ, okK, h1]
    rw [e]
    go_enter Try.func50, Try.ntmps50
    go_wp2_with (first | (go_at_call 18; refine (iGearOkE _ _ _).mono ?_; rintro e w' ⟨rfl, rfl⟩; rw [hg]) | (go_at_call 55; refine (within_any _ _ _ _).mono ?_; rintro e w' ⟨rfl, rfl⟩))
    go_ret
    exact ⟨rfl, by (repeat (first | exact Below.refl _ _ | assumption | refine Below.alloc ?_ (by first | omega | (simp <;> omega)) _ | refine Below.setCell ?_ (by first | omega | (simp <;> omega)) _ | refine Below.drew ?_ | refine Below.trans ?_ (Below.mono (by assumption) (by first | omega | (simp <;> omega)))))⟩
  cases h2 : inB b 1 1000
  · have e : ErrZ t b x y = -1 := by simp [ErrZ, okK, h2]
    rw [e]
    go_enter Try.func50, Try.ntmps50
    go_wp2_with (first | (go_at_call 18; refine (iGearOkE _ _ _).mono ?_; rintro e w' ⟨rfl, rfl⟩; rw [hg]) | (go_at_call 55; refine (within_any _ _ _ _).mono ?_; rintro e w' ⟨rfl, rfl⟩))
    go_ret
    exact ⟨rfl, by (repeat (first | exact Below.refl _ _ | assumption | refine Below.alloc ?_ (by first | omega | (simp <;> omega)) _ | refine Below.setCell ?_ (by first | omega | (simp <;> omega)) _ | refine Below.drew ?_ | refine Below.trans ?_ (Below.mono (by assumption) (by first | omega | (simp <;> omega)))))⟩
  have e : ErrZ t b x y = dst t b x y * 1000000 / (t * y) := by simp [ErrZ, okK, hg, h1, h2]
  rw [e]
  have g := gearB_iff.1 hg
  have b1 := inB_iff.1 h1
  have b2 := inB_iff.1 h2
  have d1 := dst_bd b1 b2 (x := x) (y := y) (by omega) (by omega)
  have d0 := dst_nn t b x y
  have ty : 1 * 1 ≤ t * y := Int.mul_le_mul b1.1 (by omega) (by omega) (by omega)
  have FF : ∀ w, Calls Try.prog 62 #[.int .i64 (x * b - t * y)] w fun e w' => e = .returned (.int .i64 (dst t b x y)) ∧ w = w' := fun w => magnitude_any (x * b - t * y) w (by omega) (by omega)
  have FH := Lib.hid FF
  clear FF e
  obtain ⟨D, hD⟩ : ∃ D, D = dst t b x y := ⟨_, rfl⟩
  rw [← hD] at d1 d0 FH ⊢
  obtain ⟨a1, a2, a3, a4, a5⟩ := d1
  have m0 : 0 ≤ D * 1000000 := by omega
  clear hD
  go_enter Try.func50, Try.ntmps50
  go_wp2_with (first | (go_at_call 18; refine (iGearOkE _ _ _).mono ?_; rintro e w' ⟨rfl, rfl⟩; rw [hg]) | (go_at_call 55; refine (within_any _ _ _ _).mono ?_; rintro e w' ⟨rfl, rfl⟩))
  go_quiet ((go_at_call 62; exact quiet_l (FH.out _)))
  go_wp2
  go_ret
  exact ⟨rfl, Below.trans (by (repeat (first | exact Below.refl _ _ | assumption | refine Below.alloc ?_ (by first | omega | (simp <;> omega)) _ | refine Below.setCell ?_ (by first | omega | (simp <;> omega)) _ | refine Below.drew ?_ | refine Below.trans ?_ (Below.mono (by assumption) (by first | omega | (simp <;> omega)))))) (Go.Joins.below_draws _ _ _)⟩

theorem sErrorParts (t b x y : Int) (w : World) :
    Calls Try.prog 49 #[.int .i64 t, .int .i64 b, .agg #[.int .i64 x, .int .i64 y]] w fun e w' => e = .returned (.int .i64 (ErrZ t b x y)) ∧ Below w.heap.size w w' := by
  cases h1 : okK t
  · have e : ErrZ t b x y = -1 := by simp [ErrZ, h1]
    rw [e]
    go_enter Try.func49, Try.ntmps49
    go_wp2_with (first | (go_at_call 16; refine (sGearOkE _ _ _).mono ?_; rintro e w' ⟨rfl, rfl⟩) | (go_at_call 60; refine (sl11Ok _ _).mono ?_; rintro e w' ⟨rfl, rfl⟩))
    go_ret
    exact ⟨rfl, by (repeat (first | exact Below.refl _ _ | assumption | refine Below.alloc ?_ (by first | omega | (simp <;> omega)) _ | refine Below.setCell ?_ (by first | omega | (simp <;> omega)) _ | refine Below.drew ?_ | refine Below.trans ?_ (Below.mono (by assumption) (by first | omega | (simp <;> omega)))))⟩
  cases h2 : okK b
  · have e : ErrZ t b x y = -1 := by simp [ErrZ, h2]
    rw [e]
    go_enter Try.func49, Try.ntmps49
    go_wp2_with (first | (go_at_call 16; refine (sGearOkE _ _ _).mono ?_; rintro e w' ⟨rfl, rfl⟩) | (go_at_call 60; refine (sl11Ok _ _).mono ?_; rintro e w' ⟨rfl, rfl⟩))
    go_ret
    exact ⟨rfl, by (repeat (first | exact Below.refl _ _ | assumption | refine Below.alloc ?_ (by first | omega | (simp <;> omega)) _ | refine Below.setCell ?_ (by first | omega | (simp <;> omega)) _ | refine Below.drew ?_ | refine Below.trans ?_ (Below.mono (by assumption) (by first | omega | (simp <;> omega)))))⟩
  cases hg : gearB x y
  · have e : ErrZ t b x y = -1 := by simp [ErrZ, hg]
    rw [e]
    go_enter Try.func49, Try.ntmps49
    go_wp2_with (first | (go_at_call 16; refine (sGearOkE _ _ _).mono ?_; rintro e w' ⟨rfl, rfl⟩; rw [hg]) | (go_at_call 60; refine (sl11Ok _ _).mono ?_; rintro e w' ⟨rfl, rfl⟩))
    go_ret
    exact ⟨rfl, by (repeat (first | exact Below.refl _ _ | assumption | refine Below.alloc ?_ (by first | omega | (simp <;> omega)) _ | refine Below.setCell ?_ (by first | omega | (simp <;> omega)) _ | refine Below.drew ?_ | refine Below.trans ?_ (Below.mono (by assumption) (by first | omega | (simp <;> omega)))))⟩
  have e : ErrZ t b x y = dst t b x y * 1000000 / (t * y) := by simp [ErrZ, hg, h1, h2]
  rw [e]
  have g := gearB_iff.1 hg
  have b1 := inB_iff.1 h1
  have b2 := inB_iff.1 h2
  have d1 := dst_bd b1 b2 (x := x) (y := y) (by omega) (by omega)
  have d0 := dst_nn t b x y
  have ty : 1 * 1 ≤ t * y := Int.mul_le_mul b1.1 (by omega) (by omega) (by omega)
  have FF : ∀ w, Calls Try.prog 61 #[.int .i64 t, .int .i64 b, .int .i64 x, .int .i64 y] w fun e w' => e = .returned (.int .i64 (dst t b x y)) ∧ w = w' := fun w => sl11Far t b x y w b1 b2 (by omega) (by omega)
  have FH := Lib.hid FF
  clear FF e
  obtain ⟨D, hD⟩ : ∃ D, D = dst t b x y := ⟨_, rfl⟩
  rw [← hD] at d1 d0 FH ⊢
  obtain ⟨a1, a2, a3, a4, a5⟩ := d1
  have m0 : 0 ≤ D * 1000000 := by omega
  clear hD
  go_enter Try.func49, Try.ntmps49
  go_wp2_with (first | (go_at_call 16; refine (sGearOkE _ _ _).mono ?_; rintro e w' ⟨rfl, rfl⟩; rw [hg]) | (go_at_call 60; refine (sl11Ok _ _).mono ?_; rintro e w' ⟨rfl, rfl⟩))
  go_quiet ((go_at_call 61; exact quiet_l (FH.out _)))
  go_wp2
  go_ret
  exact ⟨rfl, Below.trans (by (repeat (first | exact Below.refl _ _ | assumption | refine Below.alloc ?_ (by first | omega | (simp <;> omega)) _ | refine Below.setCell ?_ (by first | omega | (simp <;> omega)) _ | refine Below.drew ?_ | refine Below.trans ?_ (Below.mono (by assumption) (by first | omega | (simp <;> omega)))))) (Go.Joins.below_draws _ _ _)⟩

/-! ### The nearest gear -/
def NearOf (t b u v : Int) (ok : Bool) : Prop := if okK t = true ∧ okK b = true then NearIs t b u v ∧ ok = true else u = 0 ∧ v = 0 ∧ ok = false
theorem NearOf.one {t b u v u' v' : Int} {ok ok' : Bool} (h : NearOf t b u v ok) (h' : NearOf t b u' v' ok') : u = u' ∧ v = v' ∧ ok = ok' := by
  unfold NearOf at h h'
  split at h
  · rename_i hc
    rw [if_pos hc] at h'
    obtain ⟨a, b⟩ := h.1.one h'.1
    exact ⟨a, b, h.2.trans h'.2.symm⟩
  · rename_i hc
    rw [if_neg hc] at h'
    obtain ⟨rfl, rfl, rfl⟩ := h
    obtain ⟨rfl, rfl, rfl⟩ := h'
    exact ⟨rfl, rfl, rfl⟩
def RetNear (t b : Int) (w : World) (e : Ending) (w' : World) : Prop := ∃ (u v : Int) (ok : Bool), e = .returned (.tuple #[.agg #[.int .i64 u, .int .i64 v], .bool ok]) ∧ NearOf t b u v ok ∧ Below w.heap.size w w'

theorem closer_neg {t b x y u v : Int} (ht : okK t = true) (hb : okK b = true) (hx : 6 ≤ x ∧ x ≤ 120) (hy : 6 ≤ y ∧ y ≤ 120) (hu : 6 ≤ u ∧ u ≤ 120) (hv : 6 ≤ v ∧ v ≤ 120) :
    CloserZ t b x y u v < 0 ↔ dst t b x y * v < dst t b u v * y := by
  have h : clsB t b x y u v = true := by
    have k : ∀ n : Int, 6 ≤ n ∧ n ≤ 120 → okK n = true := fun n hn => inB_true (by omega)
    simp [clsB, ht, hb, k x hx, k y hy, k u hu, k v hv]
  unfold CloserZ
  rw [if_pos h]
  split
  · omega
  · split <;> omega

set_option maxHeartbeats 1000000 in
theorem iNearestGear (t b : Int) (w : World) :
    Calls Try.prog 48 #[.int .i64 t, .int .i64 b] w (RetNear t b w) := by
  cases h1 : okK t
  · have e : NearOf t b 0 0 false := by unfold NearOf; rw [if_neg (by simp [h1])]; exact ⟨rfl, rfl, rfl⟩
    have h1' : inB t 1 1000 = false := h1
    go_enter Try.func48, Try.ntmps48
    go_wp2_with (first | (go_at_call 55; refine (within_any _ _ _ _).mono ?_; rintro e w' ⟨rfl, rfl⟩) | (go_at_call 60; refine (sl11Ok _ _).mono ?_; rintro e w' ⟨rfl, rfl⟩))
    refine bodyPost_ret (v := .tuple #[.agg #[.int .i64 0, .int .i64 0], .bool false]) (by simp [results, Try.results48, go_sem]) rfl ⟨0, 0, false, rfl, e, ?_⟩
    (repeat (first | exact Below.refl _ _ | assumption | refine Below.alloc ?_ (by first | omega | (simp <;> omega)) _ | refine Below.setCell ?_ (by first | omega | (simp <;> omega)) _ | refine Below.drew ?_ | refine Below.trans ?_ (Below.mono (by assumption) (by first | omega | (simp <;> omega)))))
  cases h2 : okK b
  · have e : NearOf t b 0 0 false := by unfold NearOf; rw [if_neg (by simp [h2])]; exact ⟨rfl, rfl, rfl⟩
    have h1' : inB t 1 1000 = true := h1
    have h2' : inB b 1 1000 = false := h2
    go_enter Try.func48, Try.ntmps48
    go_wp2_with (first | (go_at_call 55; refine (within_any _ _ _ _).mono ?_; rintro e w' ⟨rfl, rfl⟩) | (go_at_call 60; refine (sl11Ok _ _).mono ?_; rintro e w' ⟨rfl, rfl⟩))
    refine bodyPost_ret (v := .tuple #[.agg #[.int .i64 0, .int .i64 0], .bool false]) (by simp [results, Try.results48, go_sem]) rfl ⟨0, 0, false, rfl, e, ?_⟩
    (repeat (first | exact Below.refl _ _ | assumption | refine Below.alloc ?_ (by first | omega | (simp <;> omega)) _ | refine Below.setCell ?_ (by first | omega | (simp <;> omega)) _ | refine Below.drew ?_ | refine Below.trans ?_ (Below.mono (by assumption) (by first | omega | (simp <;> omega)))))
  have h1' : inB t 1 1000 = true := h1
  have h2' : inB b 1 1000 = true := h2
  have e : ∀ u v, NearIs t b u v → NearOf t b u v true := fun u v hh => by unfold NearOf; rw [if_pos ⟨h1, h2⟩]; exact ⟨hh, rfl⟩
  have E := Lib.hid e
  clear e
  go_enter Try.func48, Try.ntmps48
  go_wp2_with (first | (go_at_call 55; refine (within_any _ _ _ _).mono ?_; rintro e w' ⟨rfl, rfl⟩) | (go_at_call 60; refine (sl11Ok _ _).mono ?_; rintro e w' ⟨rfl, rfl⟩))
  go_loopw [7] (fun a wr => ∃ (p : Nat) (u v : Int), 6 ≤ p ∧ p ≤ 121 ∧ a = .int .i64 p ∧ Blk wr (w.heap.size + 1) 25 #[.int .i64 u, .int .i64 v] ∧ Blk wr w.heap.size 25 #[.int .i64 0, .int .i64 0] ∧ Below w.heap.size w wr ∧ Hid (NearTo t b p 6 u v)) (fun a _ => 121 - (intOf a).toNat)
  case atStart =>
    have nb := Blk.new (w.alloc (.cells #[.int .i64 0, .int .i64 0] 25)) 25 #[.int .i64 6, .int .i64 6]
    simp only [World.size_alloc] at nb
    exact ⟨6, 6, 6, by omega, by omega, rfl, nb, (Blk.new _ _ _).alloc _, by (repeat (first | exact Below.refl _ _ | assumption | refine Below.alloc ?_ (by first | omega | (simp <;> omega)) _ | refine Below.setCell ?_ (by first | omega | (simp <;> omega)) _ | refine Below.drew ?_ | refine Below.trans ?_ (Below.mono (by assumption) (by first | omega | (simp <;> omega))))), NearTo.start t b⟩
  case round =>
    obtain ⟨p, u, v, hp0, hp, rfl, hB, hR, hbl, hnear⟩ := hrel
    have hs := hB.lt
    by_cases hlt : (p : Int) ≤ 120
    case neg =>
      obtain rfl : p = 121 := by omega
      obtain ⟨k0, k1⟩ := hB.c2
      obtain ⟨r0, r1⟩ := hR.c2
      have f0 := hR.frozen 0
      have f1 := hR.frozen 1
      have KR := (hR.set_ 0 (.int .i64 u)).set_ 1 (.int .i64 v)
      simp at KR
      obtain ⟨q0, q1⟩ := KR.c2
      have HK := Lib.hid KR
      clear KR hB hR
      go_wp2
      refine bodyPost_ret (v := .tuple #[.agg #[.int .i64 u, .int .i64 v], .bool true]) (by simp [results, Try.results48, go_sem, q0, q1]) rfl ⟨u, v, true, rfl, E.out _ _ hnear.out, ?_⟩
      exact (hbl.setCell (Nat.le_refl _) _).setCell (Nat.le_refl _) _
    case pos =>
      have KB := Lib.hid hB
      have KR := Lib.hid hR
      clear hB hR
      go_wp2
      go_loopw [8] (fun a wr => ∃ (q : Nat) (u v : Int), 6 ≤ q ∧ q ≤ 121 ∧ a = .int .i64 q ∧ Blk wr (w.heap.size + 1) 25 #[.int .i64 u, .int .i64 v] ∧ Blk wr w.heap.size 25 #[.int .i64 0, .int .i64 0] ∧ Below w.heap.size w wr ∧ Hid (NearTo t b p q u v)) (fun a _ => 121 - (intOf a).toNat)
      case atStart => exact ⟨6, u, v, by omega, by omega, rfl, KB.out, KR.out, hbl, hnear⟩
      case round =>
        clear hnear KB KR hbl hs
        obtain ⟨q, u, v, hq0, hq, rfl, hB, hR, hbl, hnear⟩ := hrel
        have hs := hB.lt
        by_cases hlq : (q : Int) ≤ 120
        case neg =>
          obtain rfl : q = 121 := by omega
          have KB := Lib.hid hB
          have KR := Lib.hid hR
          clear hB hR
          go_wp2
          go_roundw
          case rel => exact ⟨p + 1, u, v, by omega, by omega, by go_num, KB.out, KR.out, hbl, hnear.out.row⟩
          case measure => simp [intOf]; omega
        case pos =>
          obtain ⟨k0, k1⟩ := hB.c2
          have hn := hnear.out
          have hc := closer_neg (x := (p : Int)) (y := (q : Int)) h1 h2 (by omega) (by omega) ⟨hn.1, hn.2.1⟩ ⟨hn.2.2.1, hn.2.2.2.1⟩
          obtain ⟨C, hC⟩ : ∃ C, C = CloserZ t b p q u v := ⟨_, rfl⟩
          rw [← hC] at hc
          have HC := Lib.hid hC
          have HN := Lib.hid hn
          clear hC hn hnear
          by_cases hneg : C < 0
          case pos =>
            have K := HN.out.take (by omega) (by omega) (by omega) (by omega) (hc.1 hneg)
            have HK := Lib.hid K
            have KB := Lib.hid hB
            have KR := Lib.hid hR
            clear K hc hB hR
            go_wp2_with fail
            refine (iCloserOf _ _ _ _ _ _ _).mono ?_
            rintro e w1 ⟨rfl, hb1⟩
            rw [← HC.out]
            have kb := KB.out.below hb1 hs
            have kr := KR.out.below hb1 (by omega)
            have bb := hbl.trans (hb1.mono hbl.size)
            have f0 := kb.frozen 0
            have f1 := kb.frozen 1
            obtain ⟨j0, j1⟩ := kb.c2
            go_wp2
            go_roundw
            case rel => exact ⟨q + 1, p, q, by omega, by omega, by go_num, by simpa using (kb.set_ 0 (.int .i64 p)).set_ 1 (.int .i64 q), (kr.far (by simp) _).far (by simp) _, (bb.setCell (by simp) _).setCell (by simp) _, HK.out⟩
            case measure => simp [intOf]; omega
          case neg =>
            have K := HN.out.keep (fun k => hneg (hc.2 k))
            have HK := Lib.hid K
            have KB := Lib.hid hB
            have KR := Lib.hid hR
            clear K hc hB hR
            go_wp2_with fail
            refine (iCloserOf _ _ _ _ _ _ _).mono ?_
            rintro e w1 ⟨rfl, hb1⟩
            rw [← HC.out]
            have kb := KB.out.below hb1 hs
            have kr := KR.out.below hb1 (by omega)
            have bb := hbl.trans (hb1.mono hbl.size)
            have f0 := kb.frozen 0
            have f1 := kb.frozen 1
            obtain ⟨j0, j1⟩ := kb.c2
            go_wp2
            go_roundw
            case rel => exact ⟨q + 1, u, v, by omega, by omega, by go_num, kb, kr, bb, HK.out⟩
            case measure => simp [intOf]; omega
set_option maxHeartbeats 1000000 in
theorem sNearestGear (t b : Int) (w : World) :
    Calls Try.prog 47 #[.int .i64 t, .int .i64 b] w (RetNear t b w) := by
  cases h1 : okK t
  · have e : NearOf t b 0 0 false := by unfold NearOf; rw [if_neg (by simp [h1])]; exact ⟨rfl, rfl, rfl⟩
    have h1' : inB t 1 1000 = false := h1
    go_enter Try.func47, Try.ntmps47
    go_wp2_with (first | (go_at_call 55; refine (within_any _ _ _ _).mono ?_; rintro e w' ⟨rfl, rfl⟩) | (go_at_call 60; refine (sl11Ok _ _).mono ?_; rintro e w' ⟨rfl, rfl⟩))
    refine bodyPost_ret (v := .tuple #[.agg #[.int .i64 0, .int .i64 0], .bool false]) (by simp [results, Try.results47, go_sem]) rfl ⟨0, 0, false, rfl, e, ?_⟩
    (repeat (first | exact Below.refl _ _ | assumption | refine Below.alloc ?_ (by first | omega | (simp <;> omega)) _ | refine Below.setCell ?_ (by first | omega | (simp <;> omega)) _ | refine Below.drew ?_ | refine Below.trans ?_ (Below.mono (by assumption) (by first | omega | (simp <;> omega)))))
  cases h2 : okK b
  · have e : NearOf t b 0 0 false := by unfold NearOf; rw [if_neg (by simp [h2])]; exact ⟨rfl, rfl, rfl⟩
    have h1' : inB t 1 1000 = true := h1
    have h2' : inB b 1 1000 = false := h2
    go_enter Try.func47, Try.ntmps47
    go_wp2_with (first | (go_at_call 55; refine (within_any _ _ _ _).mono ?_; rintro e w' ⟨rfl, rfl⟩) | (go_at_call 60; refine (sl11Ok _ _).mono ?_; rintro e w' ⟨rfl, rfl⟩))
    refine bodyPost_ret (v := .tuple #[.agg #[.int .i64 0, .int .i64 0], .bool false]) (by simp [results, Try.results47, go_sem]) rfl ⟨0, 0, false, rfl, e, ?_⟩
    (repeat (first | exact Below.refl _ _ | assumption | refine Below.alloc ?_ (by first | omega | (simp <;> omega)) _ | refine Below.setCell ?_ (by first | omega | (simp <;> omega)) _ | refine Below.drew ?_ | refine Below.trans ?_ (Below.mono (by assumption) (by first | omega | (simp <;> omega)))))
  have h1' : inB t 1 1000 = true := h1
  have h2' : inB b 1 1000 = true := h2
  have e : ∀ u v, NearIs t b u v → NearOf t b u v true := fun u v hh => by unfold NearOf; rw [if_pos ⟨h1, h2⟩]; exact ⟨hh, rfl⟩
  have E := Lib.hid e
  clear e
  go_enter Try.func47, Try.ntmps47
  go_wp2_with (first | (go_at_call 55; refine (within_any _ _ _ _).mono ?_; rintro e w' ⟨rfl, rfl⟩) | (go_at_call 60; refine (sl11Ok _ _).mono ?_; rintro e w' ⟨rfl, rfl⟩))
  go_loopw [7] (fun a wr => ∃ (p : Nat) (u v : Int), 6 ≤ p ∧ p ≤ 121 ∧ a = .int .i64 p ∧ Blk wr (w.heap.size + 1) 25 #[.int .i64 u, .int .i64 v] ∧ Blk wr w.heap.size 25 #[.int .i64 0, .int .i64 0] ∧ Below w.heap.size w wr ∧ Hid (NearTo t b p 6 u v)) (fun a _ => 121 - (intOf a).toNat)
  case atStart =>
    have nb := Blk.new (w.alloc (.cells #[.int .i64 0, .int .i64 0] 25)) 25 #[.int .i64 6, .int .i64 6]
    simp only [World.size_alloc] at nb
    exact ⟨6, 6, 6, by omega, by omega, rfl, nb, (Blk.new _ _ _).alloc _, by (repeat (first | exact Below.refl _ _ | assumption | refine Below.alloc ?_ (by first | omega | (simp <;> omega)) _ | refine Below.setCell ?_ (by first | omega | (simp <;> omega)) _ | refine Below.drew ?_ | refine Below.trans ?_ (Below.mono (by assumption) (by first | omega | (simp <;> omega))))), NearTo.start t b⟩
  case round =>
    obtain ⟨p, u, v, hp0, hp, rfl, hB, hR, hbl, hnear⟩ := hrel
    have hs := hB.lt
    by_cases hlt : (p : Int) ≤ 120
    case neg =>
      obtain rfl : p = 121 := by omega
      obtain ⟨k0, k1⟩ := hB.c2
      obtain ⟨r0, r1⟩ := hR.c2
      have f0 := hR.frozen 0
      have f1 := hR.frozen 1
      have KR := (hR.set_ 0 (.int .i64 u)).set_ 1 (.int .i64 v)
      simp at KR
      obtain ⟨q0, q1⟩ := KR.c2
      have HK := Lib.hid KR
      clear KR hB hR
      go_wp2
      refine bodyPost_ret (v := .tuple #[.agg #[.int .i64 u, .int .i64 v], .bool true]) (by simp [results, Try.results47, go_sem, q0, q1]) rfl ⟨u, v, true, rfl, E.out _ _ hnear.out, ?_⟩
      exact (hbl.setCell (Nat.le_refl _) _).setCell (Nat.le_refl _) _
    case pos =>
      have KB := Lib.hid hB
      have KR := Lib.hid hR
      clear hB hR
      go_wp2
      go_loopw [8] (fun a wr => ∃ (q : Nat) (u v : Int), 6 ≤ q ∧ q ≤ 121 ∧ a = .int .i64 q ∧ Blk wr (w.heap.size + 1) 25 #[.int .i64 u, .int .i64 v] ∧ Blk wr w.heap.size 25 #[.int .i64 0, .int .i64 0] ∧ Below w.heap.size w wr ∧ Hid (NearTo t b p q u v)) (fun a _ => 121 - (intOf a).toNat)
      case atStart => exact ⟨6, u, v, by omega, by omega, rfl, KB.out, KR.out, hbl, hnear⟩
      case round =>
        clear hnear KB KR hbl hs
        obtain ⟨q, u, v, hq0, hq, rfl, hB, hR, hbl, hnear⟩ := hrel
        have hs := hB.lt
        by_cases hlq : (q : Int) ≤ 120
        case neg =>
          obtain rfl : q = 121 := by omega
          have KB := Lib.hid hB
          have KR := Lib.hid hR
          clear hB hR
          go_wp2
          go_roundw
          case rel => exact ⟨p + 1, u, v, by omega, by omega, by go_num, KB.out, KR.out, hbl, hnear.out.row⟩
          case measure => simp [intOf]; omega
        case pos =>
          obtain ⟨k0, k1⟩ := hB.c2
          have hn := hnear.out
          have hc := closer_neg (x := (p : Int)) (y := (q : Int)) h1 h2 (by omega) (by omega) ⟨hn.1, hn.2.1⟩ ⟨hn.2.2.1, hn.2.2.2.1⟩
          obtain ⟨C, hC⟩ : ∃ C, C = CloserZ t b p q u v := ⟨_, rfl⟩
          rw [← hC] at hc
          have HC := Lib.hid hC
          have HN := Lib.hid hn
          clear hC hn hnear
          by_cases hneg : C < 0
          case pos =>
            have K := HN.out.take (by omega) (by omega) (by omega) (by omega) (hc.1 hneg)
            have HK := Lib.hid K
            have KB := Lib.hid hB
            have KR := Lib.hid hR
            clear K hc hB hR
            go_wp2_with fail
            refine (sCloserOf _ _ _ _ _ _ _).mono ?_
            rintro e w1 ⟨rfl, rfl⟩
            rw [← HC.out]
            have kb := KB.out
            have kr := KR.out
            have bb := hbl
            have f0 := kb.frozen 0
            have f1 := kb.frozen 1
            go_wp2
            go_roundw
            case rel => exact ⟨q + 1, p, q, by omega, by omega, by go_num, by simpa using (kb.set_ 0 (.int .i64 p)).set_ 1 (.int .i64 q), (kr.far (by simp) _).far (by simp) _, (bb.setCell (by simp) _).setCell (by simp) _, HK.out⟩
            case measure => simp [intOf]; omega
          case neg =>
            have K := HN.out.keep (fun k => hneg (hc.2 k))
            have HK := Lib.hid K
            have KB := Lib.hid hB
            have KR := Lib.hid hR
            clear K hc hB hR
            go_wp2_with fail
            refine (sCloserOf _ _ _ _ _ _ _).mono ?_
            rintro e w1 ⟨rfl, rfl⟩
            rw [← HC.out]
            have kb := KB.out
            have kr := KR.out
            have bb := hbl
            have f0 := kb.frozen 0
            have f1 := kb.frozen 1
            go_wp2
            go_roundw
            case rel => exact ⟨q + 1, u, v, by omega, by omega, by go_num, kb, kr, bb, HK.out⟩
            case measure => simp [intOf]; omega


/-! ### Gears for a fraction -/
def GearsIs (t b x y : Int) (ok : Bool) : Prop :=
  (ok = true ∧ 6 ≤ x ∧ x ≤ 120 ∧ 6 ≤ y ∧ y ≤ 120 ∧ y * t = x * b ∧ ∀ x' y', 6 ≤ x' → x' < x → 6 ≤ y' → y' ≤ 120 → y' * t ≠ x' * b) ∨
  (ok = false ∧ x = 0 ∧ y = 0 ∧ ∀ x' y', 6 ≤ x' → x' ≤ 120 → 6 ≤ y' → y' ≤ 120 → y' * t ≠ x' * b)
theorem GearsIs.one {t b x y u v : Int} {ok ok' : Bool} (ht : 1 ≤ t) (h : GearsIs t b x y ok) (h' : GearsIs t b u v ok') : x = u ∧ y = v ∧ ok = ok' := by
  rcases h with ⟨rfl, h1, h2, h3, h4, h5, h6⟩ | ⟨rfl, rfl, rfl, h6⟩ <;> rcases h' with ⟨rfl, k1, k2, k3, k4, k5, k6⟩ | ⟨rfl, rfl, rfl, k6⟩
  · have e : x = u := by
      rcases Int.lt_trichotomy x u with h | h | h
      · exact absurd h5 (k6 x y h1 h h3 h4)
      · exact h
      · exact absurd k5 (h6 u v k1 h k3 k4)
    subst e
    refine ⟨rfl, ?_, rfl⟩
    exact Int.eq_of_mul_eq_mul_right (show t ≠ 0 by omega) (h5.trans k5.symm)
  · exact absurd h5 (k6 x y h1 h2 h3 h4)
  · exact absurd k5 (h6 u v k1 k2 k3 k4)
  · exact ⟨rfl, rfl, rfl⟩
def GearsOf (t b x y : Int) (ok : Bool) : Prop := if inB t 1 10000 = true ∧ inB b 1 10000 = true then GearsIs t b x y ok else x = 0 ∧ y = 0 ∧ ok = false
theorem GearsOf.one {t b x y u v : Int} {ok ok' : Bool} (h : GearsOf t b x y ok) (h' : GearsOf t b u v ok') : x = u ∧ y = v ∧ ok = ok' := by
  unfold GearsOf at h h'
  split at h
  · rename_i hc
    rw [if_pos hc] at h'
    exact h.one (inB_iff.1 hc.1).1 h'
  · rename_i hc
    rw [if_neg hc] at h'
    obtain ⟨rfl, rfl, rfl⟩ := h
    obtain ⟨rfl, rfl, rfl⟩ := h'
    exact ⟨rfl, rfl, rfl⟩
def RetGears (t b : Int) (w : World) (e : Ending) (w' : World) : Prop := ∃ (u v : Int) (ok : Bool), e = .returned (.tuple #[.agg #[.int .i64 u, .int .i64 v], .bool ok]) ∧ GearsOf t b u v ok ∧ Below w.heap.size w w'
/-- no gear fits before x -/
def NoneB (t b x : Int) : Prop := ∀ x' y', 6 ≤ x' → x' < x → 6 ≤ y' → y' ≤ 120 → y' * t ≠ x' * b
theorem NoneB.next {t b x : Int} (h : NoneB t b x) (hn : ∀ y', 6 ≤ y' → y' ≤ 120 → y' * t ≠ x * b) : NoneB t b (x + 1) := by
  intro x' y' h1 h2 h3 h4
  by_cases e : x' = x
  · subst e; exact hn y' h3 h4
  · exact h x' y' h1 (by omega) h3 h4
theorem fits_iff {t b x y : Int} (ht : 1 ≤ t) (h : y * t = x * b) : y = x * b / t := by
  rw [← h, Int.mul_ediv_cancel _ (by omega)]
theorem quo_mul {t z : Int} (ht : 1 ≤ t) (hz : 0 ≤ z) : 0 ≤ z / t ∧ z / t ≤ z ∧ 0 ≤ z / t * t ∧ z / t * t ≤ z ∧ (z / t * t = z ↔ z % t = 0) := by
  have a := Int.ediv_nonneg hz (show 0 ≤ t by omega)
  have b := Int.ediv_le_self t hz
  have c := Int.mul_nonneg a (show 0 ≤ t by omega)
  have d := Int.mul_ediv_add_emod z t
  have e := Int.emod_nonneg z (show t ≠ 0 by omega)
  rw [Int.mul_comm] at d
  refine ⟨a, b, c, by omega, by omega⟩

theorem iGearsFor (t b : Int) (w : World) :
    Calls Try.prog 33 #[.int .i64 t, .int .i64 b] w (RetGears t b w) := by
  cases h1 : inB t 1 10000
  · have e : GearsOf t b 0 0 false := by unfold GearsOf; rw [if_neg (by simp [h1])]; exact ⟨rfl, rfl, rfl⟩
    go_enter Try.func33, Try.ntmps33
    go_wp2_with (go_at_call 55; refine (within_any _ _ _ _).mono ?_; rintro e w' ⟨rfl, rfl⟩)
    refine bodyPost_ret (v := .tuple #[.agg #[.int .i64 0, .int .i64 0], .bool false]) (by simp [results, Try.results33, go_sem]) rfl ⟨0, 0, false, rfl, e, ?_⟩
    (repeat (first | exact Below.refl _ _ | assumption | refine Below.alloc ?_ (by first | omega | (simp <;> omega)) _ | refine Below.setCell ?_ (by first | omega | (simp <;> omega)) _ | refine Below.drew ?_ | refine Below.trans ?_ (Below.mono (by assumption) (by first | omega | (simp <;> omega)))))
  cases h2 : inB b 1 10000
  · have e : GearsOf t b 0 0 false := by unfold GearsOf; rw [if_neg (by simp [h2])]; exact ⟨rfl, rfl, rfl⟩
    go_enter Try.func33, Try.ntmps33
    go_wp2_with (go_at_call 55; refine (within_any _ _ _ _).mono ?_; rintro e w' ⟨rfl, rfl⟩)
    refine bodyPost_ret (v := .tuple #[.agg #[.int .i64 0, .int .i64 0], .bool false]) (by simp [results, Try.results33, go_sem]) rfl ⟨0, 0, false, rfl, e, ?_⟩
    (repeat (first | exact Below.refl _ _ | assumption | refine Below.alloc ?_ (by first | omega | (simp <;> omega)) _ | refine Below.setCell ?_ (by first | omega | (simp <;> omega)) _ | refine Below.drew ?_ | refine Below.trans ?_ (Below.mono (by assumption) (by first | omega | (simp <;> omega)))))
  have e : ∀ u v ok, GearsIs t b u v ok → GearsOf t b u v ok := fun u v ok hh => by unfold GearsOf; rw [if_pos ⟨h1, h2⟩]; exact hh
  have E := Lib.hid e
  have b1 := inB_iff.1 h1
  have b2 := inB_iff.1 h2
  clear e
  go_enter Try.func33, Try.ntmps33
  go_wp2_with (go_at_call 55; refine (within_any _ _ _ _).mono ?_; rintro e w' ⟨rfl, rfl⟩)
  go_loopw [6] (fun a wr => ∃ k : Nat, 6 ≤ k ∧ k ≤ 121 ∧ a = .int .i64 k ∧ Blk wr w.heap.size 25 #[.int .i64 0, .int .i64 0] ∧ Below w.heap.size w wr ∧ Hid (NoneB t b k)) (fun a _ => 121 - (intOf a).toNat)
  case atStart => exact ⟨6, by omega, by omega, rfl, Blk.new _ _ _, by (repeat (first | exact Below.refl _ _ | assumption | refine Below.alloc ?_ (by first | omega | (simp <;> omega)) _ | refine Below.setCell ?_ (by first | omega | (simp <;> omega)) _ | refine Below.drew ?_ | refine Below.trans ?_ (Below.mono (by assumption) (by first | omega | (simp <;> omega))))), fun x' y' a b => by omega⟩
  case round =>
    obtain ⟨k, hk0, hk, rfl, hR, hbl, hno⟩ := hrel
    have hs := hR.lt
    obtain ⟨r0, r1⟩ := hR.c2
    have f0 := hR.frozen 0
    have f1 := hR.frozen 1
    have KR := Lib.hid hR
    clear hR
    by_cases hlt : (k : Int) ≤ 120
    case neg =>
      have K : Blk ((wr.setCell ⟨w.heap.size, 0, none⟩ (.int .i64 0)).setCell ⟨w.heap.size, 1, none⟩ (.int .i64 0)) w.heap.size 25 #[.int .i64 0, .int .i64 0] := by
        simpa using (KR.out.set_ 0 (.int .i64 0)).set_ 1 (.int .i64 0)
      obtain ⟨q0, q1⟩ := K.c2
      have HK := Lib.hid K
      clear K
      go_wp2
      refine bodyPost_ret (v := .tuple #[.agg #[.int .i64 0, .int .i64 0], .bool false]) (by simp [results, Try.results33, go_sem, q0, q1]) rfl ⟨0, 0, false, rfl, E.out _ _ _ (.inr ⟨rfl, rfl, rfl, fun x' y' a1 a2 => hno.out x' y' a1 (by omega)⟩), ?_⟩
      exact (hbl.setCell (Nat.le_refl _) _).setCell (Nat.le_refl _) _
    case pos =>
      have m1 := mul_bd3 (m := 120) (n := 10000) (show 0 ≤ (k : Int) by omega) (by omega) (show 0 ≤ b by omega) b2.2
      simp only [Int.cast_ofNat_Int] at m1
      have qm := quo_mul (z := (k : Int) * b) b1.1 m1.1
      obtain ⟨y, hy⟩ : ∃ y, y = (k : Int) * b / t := ⟨_, rfl⟩
      have hfit : ∀ y', y' * t = (k : Int) * b → y' = y := fun y' h => by rw [hy]; exact fits_iff b1.1 h
      rw [← hy] at qm
      obtain ⟨q1, q2, q3, q4, q5⟩ := qm
      have HF := Lib.hid hfit
      clear hfit q5
      have HY := Lib.hid hy
      rw [hy] at q1 q2 q3 q4
      by_cases he : y * t = (k : Int) * b
      case neg =>
        have hn := hno.out.next (fun y' _ _ h => he (by rw [← HF.out y' h]; exact h))
        have HN := Lib.hid hn
        have hb : ((k : Int) * b / t * t == (k : Int) * b) = false := by rw [← hy]; simpa using he
        clear hn he hno hy
        go_wp2
        go_roundw
        case rel => exact ⟨k + 1, by omega, by omega, by go_num, KR.out.alloc _, hbl.alloc hbl.size _, HN.out⟩
        case measure => simp [intOf]; omega
      case pos =>
        have HE := Lib.hid he
        have hb : ((k : Int) * b / t * t == (k : Int) * b) = true := by rw [← hy]; simpa using he
        cases hg : gearB k y
        case false =>
          have hn := hno.out.next (fun y' h1 h2 h => by
            have e := HF.out y' h
            subst e
            have := gearB_no hg
            omega)
          have HN := Lib.hid hn
          rw [hy] at hg
          clear hn he hno hy
          go_wp2_with (go_at_call 18; refine (iGearOkE _ _ _).mono ?_; rintro e w' ⟨rfl, rfl⟩; rw [hg])
          go_roundw
          case rel => exact ⟨k + 1, by omega, by omega, by go_num, (KR.out.alloc _).alloc _, (hbl.alloc hbl.size _).alloc (by have := hbl.size; simp; omega) _, HN.out⟩
          case measure => simp [intOf]; omega
        case true =>
          have gg := gearB_iff.1 hg
          have post : GearsIs t b k y true := .inl ⟨rfl, by omega, by omega, by omega, by omega, HE.out, hno.out⟩
          have HP := Lib.hid (E.out _ _ _ post)
          clear post he
          rw [hy] at hg HP
          have K : Blk ((((wr.setCell ⟨w.heap.size, 0, none⟩ (.int .i64 k)).setCell ⟨w.heap.size, 1, none⟩ (.int .i64 ((k : Int) * b / t))).alloc (.cells #[.int .i64 k, .int .i64 ((k : Int) * b / t)] 25)).alloc (.cells #[.int .i64 k, .int .i64 ((k : Int) * b / t)] 25)) w.heap.size 25 #[.int .i64 k, .int .i64 ((k : Int) * b / t)] := by
            have := ((((KR.out.set_ 0 (.int .i64 k)).set_ 1 (.int .i64 ((k : Int) * b / t))).alloc (.cells #[.int .i64 k, .int .i64 ((k : Int) * b / t)] 25)).alloc (.cells #[.int .i64 k, .int .i64 ((k : Int) * b / t)] 25))
            simpa using this
          obtain ⟨j0, j1⟩ := K.c2
          have HK := Lib.hid K
          clear K hy hno
          go_wp2_with (go_at_call 18; refine (iGearOkE _ _ _).mono ?_; rintro e w' ⟨rfl, rfl⟩; rw [hg])
          refine bodyPost_ret (v := .tuple #[.agg #[.int .i64 k, .int .i64 ((k : Int) * b / t)], .bool true]) (by simp [results, Try.results33, go_sem, j0, j1]) rfl ⟨k, _, true, rfl, HP.out, ?_⟩
          exact (((hbl.setCell (Nat.le_refl _) _).setCell (Nat.le_refl _) _).alloc (by have := hbl.size; simp; omega) _).alloc (by have := hbl.size; simp; omega) _

theorem sGearsFor (t b : Int) (w : World) :
    Calls Try.prog 32 #[.int .i64 t, .int .i64 b] w (RetGears t b w) := by
  cases h1 : inB t 1 10000
  · have e : GearsOf t b 0 0 false := by unfold GearsOf; rw [if_neg (by simp [h1])]; exact ⟨rfl, rfl, rfl⟩
    go_enter Try.func32, Try.ntmps32
    go_wp2_with (go_at_call 54; refine (l01In_any _ _ _ _).mono ?_; rintro e w' ⟨rfl, rfl⟩)
    refine bodyPost_ret (v := .tuple #[.agg #[.int .i64 0, .int .i64 0], .bool false]) (by simp [results, Try.results32, go_sem]) rfl ⟨0, 0, false, rfl, e, ?_⟩
    (repeat (first | exact Below.refl _ _ | assumption | refine Below.alloc ?_ (by first | omega | (simp <;> omega)) _ | refine Below.setCell ?_ (by first | omega | (simp <;> omega)) _ | refine Below.drew ?_ | refine Below.trans ?_ (Below.mono (by assumption) (by first | omega | (simp <;> omega)))))
  cases h2 : inB b 1 10000
  · have e : GearsOf t b 0 0 false := by unfold GearsOf; rw [if_neg (by simp [h2])]; exact ⟨rfl, rfl, rfl⟩
    go_enter Try.func32, Try.ntmps32
    go_wp2_with (go_at_call 54; refine (l01In_any _ _ _ _).mono ?_; rintro e w' ⟨rfl, rfl⟩)
    refine bodyPost_ret (v := .tuple #[.agg #[.int .i64 0, .int .i64 0], .bool false]) (by simp [results, Try.results32, go_sem]) rfl ⟨0, 0, false, rfl, e, ?_⟩
    (repeat (first | exact Below.refl _ _ | assumption | refine Below.alloc ?_ (by first | omega | (simp <;> omega)) _ | refine Below.setCell ?_ (by first | omega | (simp <;> omega)) _ | refine Below.drew ?_ | refine Below.trans ?_ (Below.mono (by assumption) (by first | omega | (simp <;> omega)))))
  have e : ∀ u v ok, GearsIs t b u v ok → GearsOf t b u v ok := fun u v ok hh => by unfold GearsOf; rw [if_pos ⟨h1, h2⟩]; exact hh
  have E := Lib.hid e
  have b1 := inB_iff.1 h1
  have b2 := inB_iff.1 h2
  clear e
  go_enter Try.func32, Try.ntmps32
  go_wp2_with (go_at_call 54; refine (l01In_any _ _ _ _).mono ?_; rintro e w' ⟨rfl, rfl⟩)
  go_loopw [6] (fun a wr => ∃ k : Nat, 6 ≤ k ∧ k ≤ 121 ∧ a = .int .i64 k ∧ Blk wr w.heap.size 25 #[.int .i64 0, .int .i64 0] ∧ Below w.heap.size w wr ∧ Hid (NoneB t b k)) (fun a _ => 121 - (intOf a).toNat)
  case atStart => exact ⟨6, by omega, by omega, rfl, Blk.new _ _ _, by (repeat (first | exact Below.refl _ _ | assumption | refine Below.alloc ?_ (by first | omega | (simp <;> omega)) _ | refine Below.setCell ?_ (by first | omega | (simp <;> omega)) _ | refine Below.drew ?_ | refine Below.trans ?_ (Below.mono (by assumption) (by first | omega | (simp <;> omega))))), fun x' y' a b => by omega⟩
  case round =>
    obtain ⟨k, hk0, hk, rfl, hR, hbl, hno⟩ := hrel
    have hs := hR.lt
    obtain ⟨r0, r1⟩ := hR.c2
    have f0 := hR.frozen 0
    have f1 := hR.frozen 1
    have KR := Lib.hid hR
    clear hR
    by_cases hlt : (k : Int) ≤ 120
    case neg =>
      have K : Blk ((wr.setCell ⟨w.heap.size, 0, none⟩ (.int .i64 0)).setCell ⟨w.heap.size, 1, none⟩ (.int .i64 0)) w.heap.size 25 #[.int .i64 0, .int .i64 0] := by
        simpa using (KR.out.set_ 0 (.int .i64 0)).set_ 1 (.int .i64 0)
      obtain ⟨q0, q1⟩ := K.c2
      have HK := Lib.hid K
      clear K
      go_wp2
      refine bodyPost_ret (v := .tuple #[.agg #[.int .i64 0, .int .i64 0], .bool false]) (by simp [results, Try.results32, go_sem, q0, q1]) rfl ⟨0, 0, false, rfl, E.out _ _ _ (.inr ⟨rfl, rfl, rfl, fun x' y' a1 a2 => hno.out x' y' a1 (by omega)⟩), ?_⟩
      exact (hbl.setCell (Nat.le_refl _) _).setCell (Nat.le_refl _) _
    case pos =>
      have m1 := mul_bd3 (m := 120) (n := 10000) (show 0 ≤ (k : Int) by omega) (by omega) (show 0 ≤ b by omega) b2.2
      simp only [Int.cast_ofNat_Int] at m1
      have qm := quo_mul (z := (k : Int) * b) b1.1 m1.1
      obtain ⟨y, hy⟩ : ∃ y, y = (k : Int) * b / t := ⟨_, rfl⟩
      have hfit : ∀ y', y' * t = (k : Int) * b → y' = y := fun y' h => by rw [hy]; exact fits_iff b1.1 h
      have hm0 := Int.emod_nonneg ((k : Int) * b) (show t ≠ 0 by omega)
      obtain ⟨q1, q2, q3, q4, q5⟩ := qm
      have HF := Lib.hid hfit
      have HQ := Lib.hid q5
      clear hfit q5
      by_cases he : (k : Int) * b % t = 0
      case neg =>
        have hn := hno.out.next (fun y' _ _ h => he (HQ.out.1 (by rw [← hy, ← HF.out y' h]; exact h)))
        have HN := Lib.hid hn
        have hb : ((k : Int) * b % t != 0) = true := by simp [he]
        clear hn he hno hy
        go_wp2
        go_roundw
        case rel => exact ⟨k + 1, by omega, by omega, by go_num, KR.out, hbl, HN.out⟩
        case measure => simp [intOf]; omega
      case pos =>
        have he2 := HQ.out.2 he
        have HE := Lib.hid he2
        have hb : ((k : Int) * b % t != 0) = false := by simp [he]
        clear he2
        cases hg : gearB k y
        case false =>
          have hn := hno.out.next (fun y' h1 h2 h => by
            have e := HF.out y' h
            subst e
            have := gearB_no hg
            omega)
          have HN := Lib.hid hn
          rw [hy] at hg
          clear hn he hno hy
          go_wp2_with (go_at_call 16; refine (sGearOkE _ _ _).mono ?_; rintro e w' ⟨rfl, rfl⟩; rw [hg])
          go_roundw
          case rel => exact ⟨k + 1, by omega, by omega, by go_num, (KR.out.alloc _).alloc _, (hbl.alloc hbl.size _).alloc (by have := hbl.size; simp; omega) _, HN.out⟩
          case measure => simp [intOf]; omega
        case true =>
          have gg := gearB_iff.1 hg
          have post : GearsIs t b k y true := .inl ⟨rfl, by omega, by omega, by omega, by omega, by rw [hy]; exact HE.out, hno.out⟩
          have HP := Lib.hid (E.out _ _ _ post)
          clear post he
          rw [hy] at hg HP
          have K : Blk ((((wr.setCell ⟨w.heap.size, 0, none⟩ (.int .i64 k)).setCell ⟨w.heap.size, 1, none⟩ (.int .i64 ((k : Int) * b / t))).alloc (.cells #[.int .i64 k, .int .i64 ((k : Int) * b / t)] 25)).alloc (.cells #[.int .i64 k, .int .i64 ((k : Int) * b / t)] 25)) w.heap.size 25 #[.int .i64 k, .int .i64 ((k : Int) * b / t)] := by
            have := ((((KR.out.set_ 0 (.int .i64 k)).set_ 1 (.int .i64 ((k : Int) * b / t))).alloc (.cells #[.int .i64 k, .int .i64 ((k : Int) * b / t)] 25)).alloc (.cells #[.int .i64 k, .int .i64 ((k : Int) * b / t)] 25))
            simpa using this
          obtain ⟨j0, j1⟩ := K.c2
          have HK := Lib.hid K
          clear K hy hno
          go_wp2_with (go_at_call 16; refine (sGearOkE _ _ _).mono ?_; rintro e w' ⟨rfl, rfl⟩; rw [hg])
          refine bodyPost_ret (v := .tuple #[.agg #[.int .i64 k, .int .i64 ((k : Int) * b / t)], .bool true]) (by simp [results, Try.results32, go_sem, j0, j1]) rfl ⟨k, _, true, rfl, HP.out, ?_⟩
          exact (((hbl.setCell (Nat.le_refl _) _).setCell (Nat.le_refl _) _).alloc (by have := hbl.size; simp; omega) _).alloc (by have := hbl.size; simp; omega) _

end Go.Proofs.Ytiecjmnaphfeaaa
