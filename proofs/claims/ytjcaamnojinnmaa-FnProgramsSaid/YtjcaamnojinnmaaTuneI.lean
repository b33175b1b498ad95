/-
  TuneOk of impl.
-/
import Derived.Test.YtjcaamnojinnmaaTune
namespace Go.Proofs.Ytjcaamnojinnmaa
open Go.RowKit

theorem qWi {v lo hi : Int} {b : Bool} {w : World} {n : Nat} (h : inB v lo hi = b) :
    Calls Try.prog 37 #[.int .i64 v, .int .i64 lo, .int .i64 hi] (w.drewN n) fun e w'' => e = .returned (.bool b) ∧ ∃ m, w'' = w.drewN m := by
  subst h; exact quiet_t (within_any _ _ _ _)

set_option maxHeartbeats 1000000 in
theorem iTuneOk (A : Option Addr) (n c : Nat) (xs : List (Int × Int)) (w : World) (h : Rd w w.heap.size 2 A n (pc xs)) (hn : n ≤ 1048576) :
    Calls Try.prog 54 #[.slice A n c] w fun e w' => e = .returned (.bool (tuneB xs)) ∧ Below w.heap.size w w' := by
  have hlen := h.pair
  have H := Lib.hid h
  have HL := Lib.hid hlen
  unfold tuneB
  rw [HL.out]
  clear h hlen
  by_cases h40 : (n : Int) ≤ 40
  case neg =>
    rw [show decide (n ≤ 40) = false by simp; omega, Bool.and_false]
    go_enter Try.func54, Try.ntmps54
    go_wp2
    go_ret
    exact ⟨rfl, by (repeat (first | exact Below.refl _ _ | assumption | refine Below.alloc ?_ (by first | omega | (simp <;> omega)) _ | refine Below.setCell ?_ (by first | omega | (simp <;> omega)) _ | refine Below.drew ?_ | refine Below.trans ?_ (Below.mono (by assumption) (by first | omega | (simp <;> omega)))))⟩
  rw [show decide (n ≤ 40) = true by simp; omega, Bool.and_true]
  go_enter Try.func54, Try.ntmps54
  go_wp2
  go_loopw [10] (fun i wr => ∃ k : Nat, k ≤ n ∧ i = .int .i64 k ∧ tuneTo xs k = true ∧ Below w.heap.size w wr) (fun i _ => n - (intOf i).toNat)
  case atStart => exact ⟨0, Nat.zero_le _, rfl, rfl, by (repeat (first | exact Below.refl _ _ | assumption | refine Below.alloc ?_ (by first | omega | (simp <;> omega)) _ | refine Below.setCell ?_ (by first | omega | (simp <;> omega)) _ | refine Below.drew ?_ | refine Below.trans ?_ (Below.mono (by assumption) (by first | omega | (simp <;> omega)))))⟩
  case round =>
    obtain ⟨k, hk, rfl, hall, hbl⟩ := hrel
    have HA := Lib.hid hall
    clear hall
    by_cases hlt : (k : Int) < n
    · obtain ⟨b, o, rfl, hbB, hcell⟩ := H.out.pairAt (by omega)
      obtain ⟨⟨x, y⟩, hx⟩ : ∃ p, xs[k]? = some p := ⟨_, List.getElem?_eq_getElem (by rw [HL.out]; omega)⟩
      obtain ⟨g0, g1⟩ := hcell k _ hx
      have c0 : wr.cell? ⟨b, o + k * 2, none⟩ = some (.int .i64 x) := (hbl.cell (p := ⟨b, o + k * 2, none⟩) hbB).trans g0
      have c1 : wr.cell? ⟨b, o + k * 2 + 1, none⟩ = some (.int .i64 y) := (hbl.cell (p := ⟨b, o + k * 2 + 1, none⟩) hbB).trans g1
      have hst : stepN xs k = (inB x 0 1000 && inB y 0 60 && (k == 0 || lessN (xs.getD (k - 1) (0, 0)) (x, y))) := by unfold stepN; rw [getD_of hx]
      have HS := Lib.hid hst
      have HC := Lib.hid hcell
      have HX := Lib.hid hx
      clear hst g0 g1 hcell hx
      cases hs1 : inB x 0 1000
      · go_wp2
        go_quiet ((go_at_call 37; exact qWi hs1))
        go_wp2
        go_ret
        exact ⟨by rw [tuneTo_stop (by omega) (HS.out.trans (by rw [hs1]; simp))]; rfl, (hbl.alloc hbl.size _).trans (Go.Joins.below_draws _ _ _)⟩
      cases hs2 : inB y 0 60
      · go_wp2
        go_quiet ((go_at_call 37; first | exact qWi hs1 | exact qWi hs2))
        go_wp2
        go_ret
        exact ⟨by rw [tuneTo_stop (by omega) (HS.out.trans (by rw [hs1, hs2]; simp))]; rfl, (hbl.alloc hbl.size _).trans (Go.Joins.below_draws _ _ _)⟩
      by_cases hk0 : (0 : Int) < k
      case neg =>
        have hk1 : (k == 0) = true := by simp; omega
        have HK := Lib.hid hk1
        clear hk1
        have hg : decide (0 < k) = false := by simp; omega
        have hgn : ¬ 0 < k := by omega
        go_wp2
        go_quiet ((go_at_call 37; first | exact qWi hs1 | exact qWi hs2))
        go_wp2
        go_roundw
        case rel => exact ⟨k + 1, by omega, by go_num, tuneTo_step HA.out (HS.out.trans (by rw [hs1, hs2, HK.out]; simp)), (hbl.alloc hbl.size _).trans (Go.Joins.below_draws _ _ _)⟩
        case measure => simp [intOf]; omega
      obtain ⟨j, hj⟩ : ∃ j, k = j + 1 := ⟨k - 1, by omega⟩
      obtain ⟨⟨u, v⟩, hz⟩ : ∃ p, xs[j]? = some p := ⟨_, List.getElem?_eq_getElem (by rw [HL.out]; omega)⟩
      obtain ⟨g0, g1⟩ := HC.out j _ hz
      have d0 : wr.cell? ⟨b, o + j * 2, none⟩ = some (.int .i64 u) := (hbl.cell (p := ⟨b, o + j * 2, none⟩) hbB).trans g0
      have d1 : wr.cell? ⟨b, o + j * 2 + 1, none⟩ = some (.int .i64 v) := (hbl.cell (p := ⟨b, o + j * 2 + 1, none⟩) hbB).trans g1
      have hlp : lessN (xs.getD (k - 1) (0, 0)) (x, y) = lessN (u, v) (x, y) := by rw [show k - 1 = j by omega, getD_of hz]
      have HP := Lib.hid hlp
      have hbs : b < wr.heap.size := by have := hbl.size; omega
      clear hlp hz g0 g1
      have hjn : (j : Int) < n := by omega
      have hj0 : (0 : Int) ≤ j := by omega
      have hw : IntKind.i64.wrap ((k : Int) - 1) = (j : Int) := by rw [IntWalk.i64_in _ (by omega)]; omega
      have hg : decide (0 < k) = true := by simp; omega
      have hgn : 0 < k := by omega
      have HJ := Lib.hid hj
      clear hj
      have hlc : lessN (u, v) (x, y) = decide (cmpN (u, v) (x, y) < 0) := by unfold cmpN; cases lessN (u, v) (x, y) <;> simp; split <;> omega
      obtain ⟨cm, hcm⟩ : ∃ cm, cm = cmpN (u, v) (x, y) := ⟨_, rfl⟩
      rw [← hcm] at hlc
      have hless : ∀ w, Calls Try.prog 61 #[.agg #[.int .i64 u, .int .i64 v], .agg #[.int .i64 x, .int .i64 y]] w fun e w' => e = .returned (.int .i64 cm) ∧ Below w.heap.size w w' := fun w => by rw [hcm]; exact iCompare _ _ _ _ _
      clear hcm
      cases hs3 : lessN (u, v) (x, y)
      · rw [hs3] at hlc
        have hc0 : 0 ≤ cm := by simpa using hlc.symm
        clear hlc
        have Q3 := Lib.hid hless
        clear hless
        go_wp2
        have e0 : (wr.alloc (.cells #[.int .i64 x, .int .i64 y] 67)).cell? ⟨wr.heap.size, 0, none⟩ = some (.int .i64 x) := (Blk.new _ _ _).c2.1
        have e1 : (wr.alloc (.cells #[.int .i64 x, .int .i64 y] 67)).cell? ⟨wr.heap.size, 1, none⟩ = some (.int .i64 y) := (Blk.new _ _ _).c2.2
        have d0a : (wr.alloc (.cells #[.int .i64 x, .int .i64 y] 67)).cell? ⟨b, o + j * 2, none⟩ = some (.int .i64 u) := (World.cell?_alloc_lt wr _ _ hbs).trans d0
        have d1a : (wr.alloc (.cells #[.int .i64 x, .int .i64 y] 67)).cell? ⟨b, o + j * 2 + 1, none⟩ = some (.int .i64 v) := (World.cell?_alloc_lt wr _ _ hbs).trans d1
        have hws : wr.heap.size < (wr.alloc (.cells #[.int .i64 x, .int .i64 y] 67)).heap.size := (Blk.new _ _ _).lt
        have hbs2 : b < (wr.alloc (.cells #[.int .i64 x, .int .i64 y] 67)).heap.size := Nat.lt_trans hbs hws
        go_region_held3 (fun w' => w'.cell? ⟨wr.heap.size, 0, none⟩ = some (.int .i64 x) ∧ w'.cell? ⟨wr.heap.size, 1, none⟩ = some (.int .i64 y) ∧ w'.cell? ⟨b, o + j * 2, none⟩ = some (.int .i64 u) ∧ w'.cell? ⟨b, o + j * 2 + 1, none⟩ = some (.int .i64 v)) (first | exact ⟨e0, e1, d0a, d1a⟩ | exact ⟨k0, k1, k2, k3⟩) (first
          | (go_at_call 37; refine (within_any _ _ _ _).mono ?_; rintro e w1 ⟨he, rfl⟩; (first | rw [hs1] at he | rw [hs2] at he); subst he)
          | (go_at_call 61; refine (Q3.out _).mono ?_; rintro e w1 ⟨rfl, hb1⟩; have k0 := (hb1.cell (p := ⟨wr.heap.size, 0, none⟩) hws).trans e0; have k1 := (hb1.cell (p := ⟨wr.heap.size, 1, none⟩) hws).trans e1; have k2 := (hb1.cell (p := ⟨b, o + j * 2, none⟩) hbs2).trans d0a; have k3 := (hb1.cell (p := ⟨b, o + j * 2 + 1, none⟩) hbs2).trans d1a))
        all_goals
          go_wp2
          go_ret
          exact ⟨by rw [tuneTo_stop (by omega) (HS.out.trans (by rw [HP.out, hs1, hs2, hs3]; simp; omega))]; rfl, (hbl.alloc hbl.size _).drew.trans (hb1.mono (hbl.alloc hbl.size _).size)⟩
      · rw [hs3] at hlc
        have hc0 : cm < 0 := by simpa using hlc.symm
        clear hlc
        have Q3 := Lib.hid hless
        clear hless
        go_wp2
        have e0 : (wr.alloc (.cells #[.int .i64 x, .int .i64 y] 67)).cell? ⟨wr.heap.size, 0, none⟩ = some (.int .i64 x) := (Blk.new _ _ _).c2.1
        have e1 : (wr.alloc (.cells #[.int .i64 x, .int .i64 y] 67)).cell? ⟨wr.heap.size, 1, none⟩ = some (.int .i64 y) := (Blk.new _ _ _).c2.2
        have d0a : (wr.alloc (.cells #[.int .i64 x, .int .i64 y] 67)).cell? ⟨b, o + j * 2, none⟩ = some (.int .i64 u) := (World.cell?_alloc_lt wr _ _ hbs).trans d0
        have d1a : (wr.alloc (.cells #[.int .i64 x, .int .i64 y] 67)).cell? ⟨b, o + j * 2 + 1, none⟩ = some (.int .i64 v) := (World.cell?_alloc_lt wr _ _ hbs).trans d1
        have hws : wr.heap.size < (wr.alloc (.cells #[.int .i64 x, .int .i64 y] 67)).heap.size := (Blk.new _ _ _).lt
        have hbs2 : b < (wr.alloc (.cells #[.int .i64 x, .int .i64 y] 67)).heap.size := Nat.lt_trans hbs hws
        go_region_held3 (fun w' => w'.cell? ⟨wr.heap.size, 0, none⟩ = some (.int .i64 x) ∧ w'.cell? ⟨wr.heap.size, 1, none⟩ = some (.int .i64 y) ∧ w'.cell? ⟨b, o + j * 2, none⟩ = some (.int .i64 u) ∧ w'.cell? ⟨b, o + j * 2 + 1, none⟩ = some (.int .i64 v)) (first | exact ⟨e0, e1, d0a, d1a⟩ | exact ⟨k0, k1, k2, k3⟩) (first
          | (go_at_call 37; refine (within_any _ _ _ _).mono ?_; rintro e w1 ⟨he, rfl⟩; (first | rw [hs1] at he | rw [hs2] at he); subst he)
          | (go_at_call 61; refine (Q3.out _).mono ?_; rintro e w1 ⟨rfl, hb1⟩; have k0 := (hb1.cell (p := ⟨wr.heap.size, 0, none⟩) hws).trans e0; have k1 := (hb1.cell (p := ⟨wr.heap.size, 1, none⟩) hws).trans e1; have k2 := (hb1.cell (p := ⟨b, o + j * 2, none⟩) hbs2).trans d0a; have k3 := (hb1.cell (p := ⟨b, o + j * 2 + 1, none⟩) hbs2).trans d1a))
        all_goals
          go_wp2
          go_roundw
          case rel => exact ⟨k + 1, by omega, by go_num, tuneTo_step HA.out (HS.out.trans (by rw [HP.out, hs1, hs2, hs3]; simp)), (hbl.alloc hbl.size _).drew.trans (hb1.mono (hbl.alloc hbl.size _).size)⟩
          case measure => simp [intOf]; omega
    · obtain rfl : k = n := by omega
      go_wp2
      go_ret
      exact ⟨by rw [HA.out]; rfl, hbl⟩

end Go.Proofs.Ytjcaamnojinnmaa
