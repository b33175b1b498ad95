/-
  RootOf of impl and of spec: the root of a chord of three kinds of pitches, or -1.
-/
import Derived.Test.YteidigbjllicpaaList
import Derived.IntWalk
namespace Go.Proofs.Yteidigbjllicpaa
open Go.RowKit

def pw (p : Int) : Int := 2 ^ (p % 12).toNat
def orZ (a b : Int) : Int := bits .or .i64 a b
def setZ (xs : List Int) : Int := xs.foldl (fun s p => orZ s (pw p)) 0
theorem setZ_snoc (xs : List Int) (p : Int) : setZ (xs ++ [p]) = orZ (setZ xs) (pw p) := by simp [setZ]

theorem pw_small (k : Nat) (hk : k < 12) : wrap64 (2 ^ k) = 2 ^ k := by
  have : ∀ k : Nat, k < 12 → 0 ≤ (2 : Int) ^ k ∧ (2 : Int) ^ k ≤ 2048 := by decide
  have := this k hk
  exact IntWalk.wrap64_in _ (by omega)
theorem pw_wrap (y : Int) : wrap64 (2 ^ (y % 12).toNat) = pw y := by
  unfold pw
  exact pw_small _ (by omega)

theorem iStepsSet (A : Option Addr) (n c : Nat) (xs : List Int) (w : World) (h : Rd w w.heap.size 1 A n (xs.map (Value.int .i64))) (hn : n ≤ 1048576) (hx : ∀ x ∈ xs, 0 ≤ x ∧ x ≤ 1000) :
    Calls Try.prog 45 #[.slice A n c] w fun e w' => e = .returned (.int .i64 (setZ xs)) ∧ w = w' := by
  have hlen : xs.length = n := by simpa using h.1
  have HL := Lib.hid hlen
  have H := Lib.hid h
  have HX := Lib.hid hx
  clear hlen h hx
  go_enter Try.func45, Try.ntmps45
  go_wp2
  go_loop [3, 8] (fun s i => ∃ k : Nat, k ≤ n ∧ i = .int .i64 k ∧ s = .int .i64 (setZ (xs.take k))) (fun _ i => n - (intOf i).toNat)
  case atStart => exact ⟨0, Nat.zero_le _, rfl, rfl⟩
  case round =>
    obtain ⟨k, hk, rfl, rfl⟩ := hrel
    by_cases hlt : (k : Int) < n
    · obtain ⟨b, o, rfl, hbB, hcell⟩ := H.out.cell (by omega)
      obtain ⟨y, hy⟩ : ∃ y, xs[k]? = some y := ⟨_, List.getElem?_eq_getElem (by rw [HL.out]; omega)⟩
      have c1 : w.cell? ⟨b, o + k, none⟩ = some (.int .i64 y) := hcell k _ (by simp [hy])
      obtain ⟨y0, y1⟩ := HX.out y (List.mem_of_getElem? hy)
      have hst : setZ (xs.take (k + 1)) = orZ (setZ (xs.take k)) (pw y) := by rw [take_one hy, setZ_snoc]
      have HST := Lib.hid hst
      obtain ⟨s, hs⟩ : ∃ s, s = setZ (xs.take k) := ⟨_, rfl⟩
      rw [← hs]
      have HS := Lib.hid hs
      clear hy hcell hst hs
      go_wp2
      rw [pw_wrap]
      go_round
      case rel => exact ⟨k + 1, by omega, by go_num, by rw [HST.out, ← HS.out]; rfl⟩
      case measure => simp [intOf]; omega
    · obtain rfl : k = n := by omega
      go_wp2
      go_ret
      exact ⟨by rw [List.take_of_length_le (by rw [HL.out]; omega)]; rfl, rfl⟩

def triZ (d r : Nat) : Int := setZ [(r : Int), (r : Int) + d, (r : Int) + 7]
def rootAt (s : Int) (r : Nat) : Bool := (s == triZ 4 r) || (s == triZ 3 r)
def rootF (s : Int) : Int := match (List.range 12).find? (rootAt s) with
  | some k => k
  | none => -1
theorem rootF_hit {s : Int} {k : Nat} (hk : k < 12) (h : rootAt s k = true) (hn : ∀ j, j < k → rootAt s j = false) : rootF s = k := by
  unfold rootF
  rw [List.find?_range_eq_some.2 ⟨h, List.mem_range.2 hk, fun j hj => by rw [hn j hj]; rfl⟩]
theorem rootF_none {s : Int} (hn : ∀ j, j < 12 → rootAt s j = false) : rootF s = -1 := by
  unfold rootF
  rw [List.find?_range_eq_none.2 fun j hj => by rw [hn j hj]; rfl]
def rootZ (xs : List Int) : Int := if (xs.all pitchB && decide (1 ≤ xs.length ∧ xs.length ≤ 8)) = true then rootF (setZ xs) else -1
theorem tri_eq4 : ∀ r : Nat, r < 12 → orZ (orZ (pw (r : Int)) (pw ((r : Int) + 7))) (pw ((r : Int) + 4)) = triZ 4 r := by decide
theorem tri_eq3 : ∀ r : Nat, r < 12 → orZ (orZ (pw (r : Int)) (pw ((r : Int) + 7))) (pw ((r : Int) + 3)) = triZ 3 r := by decide
theorem rd_blk {w : World} {g n size : Nat} {t : TypeId} {cs : Array Value} (h : Blk w g t cs) (hs : cs.size = n * size) : Rd w w.heap.size size (some ⟨g, 0, none⟩) n cs.toList :=
  ⟨by simpa using hs, fun _ => ⟨g, 0, rfl, h.lt, fun j u hu => by
    rw [Nat.zero_add, h.cell j]
    simpa using hu⟩⟩
theorem pitch_all {xs : List Int} (h : xs.all pitchB = true) : ∀ x ∈ xs, 0 ≤ x ∧ x ≤ 1000 := fun x hx => by
  have := inB_iff.1 (List.all_eq_true.1 h x hx)
  omega
/-- the set of a literal slice of three -/
theorem iTri (d r : Nat) (hr : r < 12) (hd : d ≤ 7) (w : World) (g : Nat) (hg : w.heap.size = g) :
    Calls Try.prog 45 #[.slice (some ⟨g, 0, none⟩) 3 3] (w.alloc (.cells #[.int .i64 r, .int .i64 ((r : Int) + d), .int .i64 ((r : Int) + 7)] 3)) fun e w' => e = .returned (.int .i64 (triZ d r)) ∧ w.alloc (.cells #[.int .i64 r, .int .i64 ((r : Int) + d), .int .i64 ((r : Int) + 7)] 3) = w' := by
  subst hg
  exact iStepsSet _ 3 3 [(r : Int), (r : Int) + d, (r : Int) + 7] _ (rd_blk (Blk.new _ _ _) (by simp)) (by omega) (by intro x hx; simp at hx; omega)

set_option maxHeartbeats 1000000 in
theorem iRootOf (A : Option Addr) (n c : Nat) (xs : List Int) (w : World) (h : Rd w w.heap.size 1 A n (xs.map (Value.int .i64))) (hn : n ≤ 1048576) :
    Calls Try.prog 24 #[.slice A n c] w fun e w' => e = .returned (.int .i64 (rootZ xs)) ∧ Below w.heap.size w w' := by
  have hlen : xs.length = n := by simpa using h.1
  have HL := Lib.hid hlen
  have H := Lib.hid h
  have PH := Lib.hid (fun w h => iArePitches A n c xs w h hn)
  clear hlen h
  by_cases h1 : (1 : Int) ≤ n
  case neg =>
    rw [show rootZ xs = -1 by unfold rootZ; rw [HL.out, show decide (1 ≤ n ∧ n ≤ 8) = false by simp; omega]; simp]
    obtain rfl : n = 0 := by omega
    go_enter Try.func24, Try.ntmps24
    go_wp2
    go_ret
    exact ⟨rfl, by (repeat (first | exact Below.refl _ _ | assumption | refine Below.alloc ?_ (by first | omega | (simp <;> omega)) _ | refine Below.setCell ?_ (by first | omega | (simp <;> omega)) _ | refine Below.drew ?_ | refine Below.trans ?_ (Below.mono (by assumption) (by first | omega | (simp <;> omega)))))⟩
  have h0 : ((n : Int) == 0) = false := by simp; omega
  cases hq : xs.all pitchB && decide (n ≤ 8)
  · have e : rootZ xs = -1 := by
      unfold rootZ
      rw [HL.out]
      cases hp : xs.all pitchB
      · simp
      · rw [hp, Bool.true_and, decide_eq_false_iff_not] at hq
        rw [show decide (1 ≤ n ∧ n ≤ 8) = false by simp; omega]
        simp
    rw [e]
    rw [hq] at PH
    clear hq e
    go_enter Try.func24, Try.ntmps24
    go_wp2_with (go_at_call 39; refine (PH.out _ H.out).mono ?_; rintro e w1 ⟨rfl, hb1⟩)
    go_ret
    exact ⟨rfl, hb1⟩
  have hpa := (Bool.and_eq_true _ _ ▸ hq).1
  have hp8 := (Bool.and_eq_true _ _ ▸ hq).2
  have e : rootZ xs = rootF (setZ xs) := by
    unfold rootZ
    simp only [decide_eq_true_eq] at hp8
    rw [HL.out, hpa, show decide (1 ≤ n ∧ n ≤ 8) = true by simp; omega]
    simp
  rw [e]
  rw [hq] at PH
  have PX := Lib.hid (pitch_all hpa)
  obtain ⟨s, hs⟩ : ∃ s, s = setZ xs := ⟨_, rfl⟩
  rw [← hs]
  have HS := Lib.hid hs
  clear hq e hpa hp8 hs
  go_enter Try.func24, Try.ntmps24
  go_wp2_with fail
  refine (PH.out _ H.out).mono ?_
  rintro e w1 ⟨rfl, hb1⟩
  go_wp2_with fail
  refine (iStepsSet _ _ _ _ _ ((H.out.below hb1).more hb1.size) hn PX.out).mono ?_
  rintro e w' ⟨rfl, rfl⟩
  rw [← HS.out]
  go_wp2
  go_loopw [4] (fun i wr => ∃ k : Nat, k ≤ 12 ∧ i = .int .i64 k ∧ Hid (∀ j, j < k → rootAt s j = false) ∧ Below w.heap.size w wr) (fun i _ => 12 - (intOf i).toNat)
  case atStart => exact ⟨0, by omega, rfl, fun j hj => by omega, hb1⟩
  case round =>
    obtain ⟨k, hk, rfl, hall, hbl⟩ := hrel
    by_cases hlt : (k : Int) < 12
    · have T4 := Lib.hid (iTri 4 k (by omega) (by omega))
      have T3 := Lib.hid (iTri 3 k (by omega) (by omega))
      obtain ⟨t4, ht4⟩ : ∃ t, t = triZ 4 k := ⟨_, rfl⟩
      obtain ⟨t3, ht3⟩ : ∃ t, t = triZ 3 k := ⟨_, rfl⟩
      rw [← ht4] at T4
      rw [← ht3] at T3
      have hr : rootAt s k = ((s == t4) || (s == t3)) := by unfold rootAt; rw [ht4, ht3]
      have HR := Lib.hid hr
      clear ht4 ht3 hr
      have b4 : Below w.heap.size w (wr.alloc (.cells #[.int .i64 k, .int .i64 ((k : Int) + 4), .int .i64 ((k : Int) + 7)] 3)) := hbl.alloc hbl.size _
      have B4 := Lib.hid b4
      have B3 := Lib.hid (b4.alloc b4.size (.cells #[.int .i64 k, .int .i64 ((k : Int) + 3), .int .i64 ((k : Int) + 7)] 3))
      clear b4
      cases e4 : s == t4
      · cases e3 : s == t3
        · go_wp2_with fail
          refine (T4.out _ _ rfl).mono ?_
          rintro e w' ⟨rfl, rfl⟩
          go_wp2_with fail
          refine (T3.out _ _ (by simp)).mono ?_
          rintro e w' ⟨rfl, rfl⟩
          go_wp2
          go_roundw
          case rel => exact ⟨k + 1, by omega, by go_num, fun j hj => by
            by_cases e : j = k
            · subst e; rw [HR.out, e4, e3]; rfl
            · exact hall.out j (by omega), B3.out⟩
          case measure => simp [intOf]; omega
        · go_wp2_with fail
          refine (T4.out _ _ rfl).mono ?_
          rintro e w' ⟨rfl, rfl⟩
          go_wp2_with fail
          refine (T3.out _ _ (by simp)).mono ?_
          rintro e w' ⟨rfl, rfl⟩
          go_wp2
          go_ret
          exact ⟨by rw [rootF_hit (by omega) (HR.out.trans (by rw [e4, e3]; rfl)) hall.out]; rfl, B3.out⟩
      · go_wp2_with fail
        refine (T4.out _ _ rfl).mono ?_
        rintro e w' ⟨rfl, rfl⟩
        go_wp2
        go_ret
        exact ⟨by rw [rootF_hit (by omega) (HR.out.trans (by rw [e4]; rfl)) hall.out]; rfl, B4.out⟩
    · obtain rfl : k = 12 := by omega
      go_wp2
      go_ret
      exact ⟨by rw [rootF_none hall.out]; rfl, hbl⟩

end Go.Proofs.Yteidigbjllicpaa
