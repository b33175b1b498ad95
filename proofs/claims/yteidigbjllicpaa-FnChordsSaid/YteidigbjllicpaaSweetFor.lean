/-
  SweetFor of impl and of spec: the pitches within two bounds that are sweet with all of a list, as a slice of their own.
-/
import Derived.Test.YteidigbjllicpaaList
import Derived.Test.YteidigbjllicpaaApp
namespace Go.Proofs.Yteidigbjllicpaa
open Go.RowKit

def sweetTo (xs : List Int) (lo : Int) : Nat → List Int
  | 0 => []
  | k + 1 => sweetTo xs lo k ++ if withB xs (lo + (k : Int)) = true then [lo + (k : Int)] else []
def okB (xs : List Int) (lo hi : Int) : Bool := xs.all pitchB && decide (xs.length ≤ 8) && inB lo 0 60 && inB hi 0 60
def sweetV (xs : List Int) (lo hi : Int) : List Int := if okB xs lo hi = true then sweetTo xs lo (hi + 1 - lo).toNat else []
theorem sweetTo_len (xs : List Int) (lo : Int) : ∀ k, (sweetTo xs lo k).length ≤ k
  | 0 => by simp [sweetTo]
  | k + 1 => by
    have := sweetTo_len xs lo k
    unfold sweetTo
    rw [List.length_append]
    split <;> simp <;> omega
theorem fnExactSweetFor_small {xs : List Int} {lo hi : Int} : (sweetV xs lo hi).length ≤ 1048576 := by
  unfold sweetV
  split
  · rename_i h
    unfold okB at h
    simp only [Bool.and_eq_true] at h
    have h1 := inB_iff.1 h.1.2
    have h2 := inB_iff.1 h.2
    have := sweetTo_len xs lo (hi + 1 - lo).toNat
    omega
  · simp
theorem sweet_step1 {xs : List Int} {lo : Int} {k : Nat} (h : withB xs (lo + (k : Int)) = true) : sweetTo xs lo (k + 1) = sweetTo xs lo k ++ [lo + (k : Int)] := by rw [sweetTo, if_pos h]
theorem sweet_step0 {xs : List Int} {lo : Int} {k : Nat} (h : withB xs (lo + (k : Int)) = false) : sweetTo xs lo (k + 1) = sweetTo xs lo k := by rw [sweetTo, if_neg (by rw [h]; simp), List.append_nil]

/-- a slice of numbers that a call made -/
def MadeI (w : World) (l : List Int) (E : Ending) (w' : World) : Prop := MadeS w 3 1 l.length (l.map (Value.int .i64)) E w'
theorem madeI_nil (w w' : World) (hb : Below w.heap.size w w') : MadeI w [] (.returned (.slice none 0 0)) w' := ⟨none, 0, rfl, World.ownsRow_nil _ _ _ _, hb⟩
theorem madeI_of {w w' : World} {l : List Int} {v : Value} {n : Nat} (h : w'.ownsRow w.heap.size 3 1 v n (l.map (Value.int .i64))) (hb : Below w.heap.size w w') : MadeI w l (.returned v) w' := by
  obtain ⟨A, c, rfl⟩ := own_shape h
  have hn : l.length = n := by have := h.1; simpa using this
  subst hn
  exact ⟨A, c, rfl, h, hb⟩
theorem ownv_belowI {w w' : World} {base size n : Nat} {v : Value} {xs : List Value} {e : TypeId} (h : w.ownsRow base e size v n xs) (hb : Below w.heap.size w w') : w'.ownsRow base e size v n xs := by
  obtain ⟨A, c, rfl⟩ := own_shape h
  exact own_below h hb

set_option maxHeartbeats 800000 in
theorem iSweetFor (A : Option Addr) (n c : Nat) (xs : List Int) (lo hi : Int) (w : World) (h : Rd w w.heap.size 1 A n (xs.map (Value.int .i64))) (hn : n ≤ 1048576) :
    Calls Try.prog 26 #[.slice A n c, .int .i64 lo, .int .i64 hi] w (MadeI w (sweetV xs lo hi)) := by
  have hlen : xs.length = n := by simpa using h.1
  have HL := Lib.hid hlen
  have H := Lib.hid h
  have PH := Lib.hid (fun w h => iArePitches A n c xs w h hn)
  clear hlen h
  cases hp : xs.all pitchB && decide (n ≤ 8)
  · rw [show sweetV xs lo hi = [] by unfold sweetV; rw [if_neg]; rw [show okB xs lo hi = false by unfold okB; rw [HL.out, hp]; simp]; simp]
    rw [hp] at PH
    clear hp
    go_enter Try.func26, Try.ntmps26
    go_wp2_with (go_at_call 39; refine (PH.out _ H.out).mono ?_; rintro e w1 ⟨rfl, hb1⟩)
    go_ret
    exact madeI_nil _ _ hb1
  rw [hp] at PH
  cases h1 : inB lo 0 60
  · rw [show sweetV xs lo hi = [] by unfold sweetV; rw [if_neg]; rw [show okB xs lo hi = false by unfold okB; rw [h1]; simp]; simp]
    clear hp
    go_enter Try.func26, Try.ntmps26
    go_wp2_with fail
    refine (PH.out _ H.out).mono ?_
    rintro e w1 ⟨rfl, hb1⟩
    go_wp2_with fail
    refine (within_any _ _ _ _).mono ?_
    rintro e w' ⟨rfl, rfl⟩
    rw [h1]
    go_wp2
    go_ret
    exact madeI_nil _ _ hb1
  cases h2 : inB hi 0 60
  · rw [show sweetV xs lo hi = [] by unfold sweetV; rw [if_neg]; rw [show okB xs lo hi = false by unfold okB; rw [h2]; simp]; simp]
    clear hp
    go_enter Try.func26, Try.ntmps26
    go_wp2_with fail
    refine (PH.out _ H.out).mono ?_
    rintro e w1 ⟨rfl, hb1⟩
    go_wp2_with fail
    refine (within_any _ _ _ _).mono ?_
    rintro e w' ⟨rfl, rfl⟩
    rw [h1]
    go_wp2_with fail
    refine (within_any _ _ _ _).mono ?_
    rintro e w' ⟨rfl, rfl⟩
    rw [h2]
    go_wp2
    go_ret
    exact madeI_nil _ _ hb1
  rw [show sweetV xs lo hi = sweetTo xs lo (hi + 1 - lo).toNat by unfold sweetV; rw [if_pos]; unfold okB; rw [HL.out, hp, h1, h2]; rfl]
  obtain ⟨lo0, lo1⟩ := inB_iff.1 h1
  obtain ⟨hi0, hi1⟩ := inB_iff.1 h2
  have H1 := Lib.hid h1
  have H2 := Lib.hid h2
  clear hp h1 h2
  go_enter Try.func26, Try.ntmps26
  go_wp2_with fail
  refine (PH.out _ H.out).mono ?_
  rintro e w1 ⟨rfl, hb1⟩
  go_wp2_with fail
  refine (within_any _ _ _ _).mono ?_
  rintro e w' ⟨rfl, rfl⟩
  rw [H1.out]
  go_wp2_with fail
  refine (within_any _ _ _ _).mono ?_
  rintro e w' ⟨rfl, rfl⟩
  rw [H2.out]
  go_wp2
  go_loopw [7, 8] (fun v p wr => ∃ k : Nat, k ≤ 61 ∧ (k = 0 ∨ lo + (k : Int) ≤ hi + 1) ∧ p = .int .i64 (lo + (k : Int)) ∧ wr.ownsRow w.heap.size 3 1 v (sweetTo xs lo k).length ((sweetTo xs lo k).map (Value.int .i64)) ∧ Below w.heap.size w wr) (fun _ p _ => (61 - intOf p).toNat)
  case atStart => exact ⟨0, by omega, Or.inl rfl, by simp, own_empty _ _ _ _ hb1.size, hb1.alloc hb1.size _⟩
  case round =>
    obtain ⟨k, hk, hkk, rfl, hown, hbl⟩ := hrel
    have hll := sweetTo_len xs lo k
    by_cases hlt : lo + (k : Int) ≤ hi
    · have HR := Lib.hid ((H.out.below hbl).more hbl.size)
      have HO := Lib.hid hown
      cases hs : withB xs (lo + (k : Int))
      · have HS := Lib.hid (sweet_step0 hs)
        clear hown
        go_wp2_with (go_at_call 40; refine (iWith _ _ _ _ _ _ HR.out hn).mono ?_; rintro e w2 ⟨rfl, hb2⟩; rw [hs])
        go_roundw
        case rel => exact ⟨k + 1, by omega, Or.inr (by omega), by go_num, by rw [HS.out]; exact ownv_belowI HO.out hb2, hbl.trans (hb2.mono hbl.size)⟩
        case measure => simp [intOf] <;> omega
      · have HS := Lib.hid (sweet_step1 hs)
        clear hown
        go_wp2_with fail
        refine (iWith _ _ _ _ _ _ HR.out hn).mono ?_
        rintro e w2 ⟨rfl, hb2⟩
        rw [hs]
        have b2 := hbl.trans (hb2.mono hbl.size)
        have O2 := Lib.hid (ownv_belowI HO.out hb2)
        go_wp2_with (at_builtin; refine wpList_app_int (W := w) rfl (.tmp 32) (.tmp 34) rfl w.heap.size _ _ _ _ rfl O2.out rfl (by omega) b2.size b2 ?_; intro v' w' hown' hg' hbl')
        have HO' := Lib.hid hown'
        clear hown' hg'
        go_roundw
        case rel => exact ⟨k + 1, by omega, Or.inr (by omega), by go_num, by rw [HS.out, List.length_append]; exact HO'.out, hbl'⟩
        case measure => simp [intOf] <;> omega
    · have hke : k = (hi + 1 - lo).toNat := by omega
      have HK := Lib.hid hke
      have HO := Lib.hid hown
      clear hown hke
      go_wp2
      go_ret
      rw [← HK.out]
      exact madeI_of HO.out hbl

theorem inB_nat (n : Nat) : inB (n : Int) 0 8 = decide (n ≤ 8) := by
  by_cases h : n ≤ 8
  · rw [inB_true (by omega), decide_eq_true h]
  · rw [inB_false (by omega), decide_eq_false h]
theorem all_swap (l : List Int) (p : Int) : l.all (fun q => sweetB p q) = l.all (fun q => sweetB q p) := by
  congr 1
  funext q
  exact sweet_comm _ _

set_option maxHeartbeats 1000000 in
theorem sSweetFor (A : Option Addr) (n c : Nat) (xs : List Int) (lo hi : Int) (w : World) (h : Rd w w.heap.size 1 A n (xs.map (Value.int .i64))) (hn : n ≤ 1048576) :
    Calls Try.prog 25 #[.slice A n c, .int .i64 lo, .int .i64 hi] w (MadeI w (sweetV xs lo hi)) := by
  have hlen : xs.length = n := by simpa using h.1
  have HL := Lib.hid hlen
  have H1 := Lib.hid ((h.alloc (Nat.le_refl _) (.cells #[] 3)).more (B' := (w.alloc (.cells #[] 3)).heap.size) (by simp))
  have OE := Lib.hid (own_empty w 3 1 w.heap.size (Nat.le_refl _))
  have H := Lib.hid h
  have PH := Lib.hid (fun w h => sOk16 A n c xs 0 w h hn)
  rw [inB_nat] at PH
  clear hlen h
  have bE : Below w.heap.size w (w.alloc (.cells #[] 3)) := (Below.refl _ _).alloc (Nat.le_refl _) _
  have BE := Lib.hid bE
  clear bE
  cases hp : xs.all pitchB && decide (n ≤ 8)
  · rw [show sweetV xs lo hi = [] by unfold sweetV; rw [if_neg]; rw [show okB xs lo hi = false by unfold okB; rw [HL.out, hp]; simp]; simp]
    rw [hp] at PH
    clear hp
    go_enter Try.func25, Try.ntmps25
    go_wp2_with (go_at_call 38; refine (PH.out _ H1.out).mono ?_; rintro e w1 ⟨rfl, hb1⟩)
    go_ret
    exact madeI_of (l := []) (own_below OE.out hb1) (BE.out.trans (hb1.mono (by simp)))
  rw [hp] at PH
  cases h1 : inB lo 0 60
  · rw [show sweetV xs lo hi = [] by unfold sweetV; rw [if_neg]; rw [show okB xs lo hi = false by unfold okB; rw [h1]; simp]; simp]
    clear hp
    go_enter Try.func25, Try.ntmps25
    go_wp2_with fail
    refine (PH.out _ H1.out).mono ?_
    rintro e w1 ⟨rfl, hb1⟩
    go_wp2_with fail
    refine (l01In_any _ _ _ _).mono ?_
    rintro e w' ⟨rfl, rfl⟩
    rw [h1]
    go_wp2
    go_ret
    exact madeI_of (l := []) (own_below OE.out hb1) (BE.out.trans (hb1.mono (by simp)))
  cases h2 : inB hi 0 60
  · rw [show sweetV xs lo hi = [] by unfold sweetV; rw [if_neg]; rw [show okB xs lo hi = false by unfold okB; rw [h2]; simp]; simp]
    clear hp
    go_enter Try.func25, Try.ntmps25
    go_wp2_with fail
    refine (PH.out _ H1.out).mono ?_
    rintro e w1 ⟨rfl, hb1⟩
    go_wp2_with fail
    refine (l01In_any _ _ _ _).mono ?_
    rintro e w' ⟨rfl, rfl⟩
    rw [h1]
    go_wp2_with fail
    refine (l01In_any _ _ _ _).mono ?_
    rintro e w' ⟨rfl, rfl⟩
    rw [h2]
    go_wp2
    go_ret
    exact madeI_of (l := []) (own_below OE.out hb1) (BE.out.trans (hb1.mono (by simp)))
  rw [show sweetV xs lo hi = sweetTo xs lo (hi + 1 - lo).toNat by unfold sweetV; rw [if_pos]; unfold okB; rw [HL.out, hp, h1, h2]; rfl]
  obtain ⟨lo0, lo1⟩ := inB_iff.1 h1
  obtain ⟨hi0, hi1⟩ := inB_iff.1 h2
  have I1 := Lib.hid h1
  have I2 := Lib.hid h2
  clear hp h1 h2
  go_enter Try.func25, Try.ntmps25
  go_wp2_with fail
  refine (PH.out _ H1.out).mono ?_
  rintro e w1 ⟨rfl, hb1⟩
  go_wp2_with fail
  refine (l01In_any _ _ _ _).mono ?_
  rintro e w' ⟨rfl, rfl⟩
  rw [I1.out]
  go_wp2_with fail
  refine (l01In_any _ _ _ _).mono ?_
  rintro e w' ⟨rfl, rfl⟩
  rw [I2.out]
  have b1 : Below w.heap.size w w1 := BE.out.trans (hb1.mono (by simp))
  have O1 := Lib.hid (own_below OE.out hb1)
  go_wp2
  go_loopw [7, 8] (fun v p wr => ∃ k : Nat, k ≤ 61 ∧ (k = 0 ∨ lo + (k : Int) ≤ hi + 1) ∧ p = .int .i64 (lo + (k : Int)) ∧ wr.ownsRow w.heap.size 3 1 v (sweetTo xs lo k).length ((sweetTo xs lo k).map (Value.int .i64)) ∧ Below w.heap.size w wr) (fun _ p _ => (61 - intOf p).toNat)
  case atStart => exact ⟨0, by omega, Or.inl rfl, by simp, O1.out, b1⟩
  case round =>
    obtain ⟨k, hk, hkk, rfl, hown, hbl⟩ := hrel
    have hll := sweetTo_len xs lo k
    by_cases hlt : lo + (k : Int) ≤ hi
    · have HO := Lib.hid hown
      obtain ⟨wo, rfl⟩ : ∃ wo : World, wo = wr := ⟨_, rfl⟩
      obtain ⟨p, hp⟩ : ∃ p : Int, p = lo + (k : Int) := ⟨_, rfl⟩
      rw [← hp] at hlt ⊢
      have HP := Lib.hid hp
      have p0 : 0 ≤ p := by omega
      have p1 : p ≤ 60 := by omega
      have hk61 : k + 1 ≤ 61 := by omega
      have K2 : Hid (lo + ((k + 1 : Nat) : Int) ≤ hi + 1) := Lib.hid (by omega)
      have K3 : Hid (lo + ((k + 1 : Nat) : Int) = p + 1) := Lib.hid (by omega)
      clear hp
      obtain ⟨f, hf⟩ : ∃ f : Int → Bool, f = fun q => sweetB p q := ⟨_, rfl⟩
      have HF := Lib.hid hf
      clear hown hf
      go_wp2
      go_loopw [9, 10] (fun s i wr => ∃ (j : Nat) (q : Bool), j ≤ n ∧ i = .int .i64 j ∧ s = .bool q ∧ Hid ((xs.take j).all f = q) ∧ wr = wo) (fun _ i _ => n - (intOf i).toNat)
      case atStart => exact ⟨0, true, Nat.zero_le _, rfl, rfl, rfl, rfl⟩
      case round =>
        obtain ⟨j, q, hj, rfl, rfl, hq, rfl⟩ := hrel
        by_cases hjn : (j : Int) < n
        · obtain ⟨y, hy⟩ : ∃ y, xs[j]? = some y := ⟨_, List.getElem?_eq_getElem (by rw [HL.out]; omega)⟩
          have hall : (xs.take (j + 1)).all f = (q && sweetB p y) := by
            have e : f y = sweetB p y := by rw [HF.out]
            rw [take_one hy, List.all_append, hq.out, ← e]; simp
          cases q
          · have HA := Lib.hid hall
            clear hall hy
            go_wp2
            go_roundw
            case rel => exact ⟨j + 1, false, by omega, by go_num, rfl, HA.out.trans (by simp), by trivial⟩
            case measure => simp [intOf] <;> omega
          · obtain ⟨b, o, rfl, hbB, hcell⟩ := H.out.cell (by omega)
            have c1 : wr.cell? ⟨b, o + j, none⟩ = some (.int .i64 y) := (hbl.cell (p := ⟨b, o + j, none⟩) hbB).trans (hcell j _ (by simp [hy]))
            have HA := Lib.hid hall
            clear hall hy hcell
            cases hs : sweetB p y
            · go_wp2_with (go_at_call 12; refine (sIsSweet p y _).mono ?_; rintro e w' ⟨rfl, rfl⟩; rw [hs])
              go_roundw
              case rel => exact ⟨j + 1, false, by omega, by go_num, rfl, HA.out.trans (by rw [hs]; rfl), by trivial⟩
              case measure => simp [intOf] <;> omega
            · go_wp2_with (go_at_call 12; refine (sIsSweet p y _).mono ?_; rintro e w' ⟨rfl, rfl⟩; rw [hs])
              go_roundw
              case rel => exact ⟨j + 1, true, by omega, by go_num, rfl, HA.out.trans (by rw [hs]; rfl), by trivial⟩
              case measure => simp [intOf] <;> omega
        · obtain rfl : j = n := by omega
          have hw : withB xs p = q := by
            have := hq.out
            rw [List.take_of_length_le (by rw [HL.out]; omega), HF.out, all_swap] at this
            exact this
          rw [HP.out] at hw
          cases q
          · have HS := Lib.hid (sweet_step0 hw)
            clear hw
            go_wp2
            go_roundw
            case rel => exact ⟨k + 1, hk61, Or.inr K2.out, by rw [K3.out], by rw [HS.out]; exact HO.out, hbl⟩
            case measure => simp [intOf] <;> omega
          · have HS := Lib.hid (sweet_step1 hw)
            clear hw
            go_wp2_with (at_builtin; refine wpList_app_int (W := w) rfl (.tmp 48) (.tmp 50) rfl w.heap.size _ _ _ _ rfl HO.out rfl (by omega) hbl.size hbl ?_; intro v' w' hown' hg' hbl')
            have HO' := Lib.hid hown'
            clear hown' hg'
            go_roundw
            case rel => exact ⟨k + 1, hk61, Or.inr K2.out, by rw [K3.out], by rw [HS.out, List.length_append, ← HP.out]; exact HO'.out, hbl'⟩
            case measure => simp [intOf] <;> omega
    · have hke : k = (hi + 1 - lo).toNat := by omega
      have HK := Lib.hid hke
      have HO := Lib.hid hown
      clear hown hke
      go_wp2
      go_ret
      rw [← HK.out]
      exact madeI_of HO.out hbl

end Go.Proofs.Yteidigbjllicpaa
