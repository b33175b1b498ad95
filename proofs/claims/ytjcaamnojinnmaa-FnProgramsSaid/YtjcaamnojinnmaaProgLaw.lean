/-
  Plain facts that the law FnPrograms asks for: of at most four drawn tunes, the best set, one tune more, all tunes, another set.
-/
import Derived.Test.YtjcaamnojinnmaaMostTunesS
import Derived.Test.YtjcaamnojinnmaaExtra
import Derived.Test.YtjcaamnojinnmaaAssign
import Derived.Test.YtjcaamnojinnmaaDrawGrid
namespace Go.Proofs.Ytjcaamnojinnmaa

theorem tunes4_ok {ts : List (List (Int × Int))} (h : Tunes4 ts) : tunesB ts = true := by
  unfold tunesB
  rw [decide_eq_true (by have := h.1; omega), Bool.and_true, List.all_eq_true]
  exact fun t ht => (h.2 t ht).1
theorem teeth_set {ts : List (List (Int × Int))} {r : Int} (h : tunesB ts = true) (hr : inB r 1 100 = true) (s : Nat → Bool) : teethV ts (memL s ts.length) r = (tv ts r s : Nat) := by
  unfold teethV
  rw [if_pos ⟨h, memL_rise, hr⟩, tv_congr fun j hj => memL_sel hj]
theorem most_is {ts : List (List (Int × Int))} {r teeth : Int} (h : mostOkB ts r teeth = true) : mostV ts r teeth = memL (bitS (mostS ts r teeth)) ts.length := by
  unfold mostV
  rw [if_pos h]
theorem most_best {ts : List (List (Int × Int))} {r teeth : Int} (ht : 0 ≤ teeth) : mostS ts r teeth < 2 ^ ts.length ∧ (tv ts r (bitS (mostS ts r teeth)) : Int) ≤ teeth ∧
    ∀ S, S < 2 ^ ts.length → (tv ts r (bitS S) : Int) ≤ teeth → cn (bitS S) ts.length < cn (bitS (mostS ts r teeth)) ts.length ∨ (cn (bitS S) ts.length = cn (bitS (mostS ts r teeth)) ts.length ∧ tv ts r (bitS (mostS ts r teeth)) ≤ tv ts r (bitS S)) := by
  obtain ⟨h1, _, h3, h4⟩ := most_inv (ts := ts) (r := r) ht (2 ^ ts.length - 1)
  have hp : 0 < 2 ^ ts.length := Nat.pow_pos (by omega)
  exact ⟨by unfold mostS; omega, h3, fun S hS hle => h4 S (by omega) hle⟩
theorem sel_in {S n k : Nat} (h : k < n) : selC (memL (bitS S) n) k = bitS S k := memL_sel h
theorem cn_one {f g : Nat → Bool} {a : Nat} (ha : f a = false) (hga : g a = true) : ∀ {n : Nat}, a < n → (∀ i, i < n → i ≠ a → g i = f i) → cn g n = cn f n + 1
  | n + 1, h, hfg => by
    rw [cn_s, cn_s]
    by_cases e : a = n
    · subst e
      rw [cn_congr (g := f) fun j hj => hfg j (by omega) (by omega), ha, hga]
      simp
    · rw [cn_one ha hga (n := n) (by omega) fun i hi => hfg i (by omega), hfg n (by omega) (by omega)]
      omega
/-- one tune more: nothing where it is in, too many teeth where not -/
theorem extra_in {ts : List (List (Int × Int))} {r : Int} (h : tunesB ts = true) (hr : inB r 1 100 = true) {S k : Nat} (hk : k < ts.length) (hb : bitS S k = true) : extraV ts (memL (bitS S) ts.length) (k : Int) r = 0 := by
  have ht := teeth_set h hr (bitS S)
  unfold extraV
  rw [if_pos ⟨by rw [ht]; omega, by omega, by omega⟩, ht, tv_congr (s' := bitS S) fun j hj => by
    unfold moreB
    rw [sel_in hj]
    by_cases e : j = k
    · subst e; simp [hb]
    · have : ¬ ((j : Int) = (k : Int)) := by omega
      simp [this]]
  omega
theorem extra_out {ts : List (List (Int × Int))} {r teeth : Int} (h : tunesB ts = true) (hr : inB r 1 100 = true) (ht0 : 0 ≤ teeth) {k : Nat} (hk : k < ts.length) (hb : bitS (mostS ts r teeth) k = false) :
    0 ≤ extraV ts (memL (bitS (mostS ts r teeth)) ts.length) (k : Int) r ∧ teeth < tv ts r (bitS (mostS ts r teeth)) + extraV ts (memL (bitS (mostS ts r teeth)) ts.length) (k : Int) r ∧ extraV ts (memL (bitS (mostS ts r teeth)) ts.length) (k : Int) r ≤ 2440 := by
  obtain ⟨b1, b2, b3⟩ := most_best (ts := ts) (r := r) ht0
  generalize mostS ts r teeth = S at *
  have ht := teeth_set h hr (bitS S)
  have hbit : ∀ j, j < ts.length → moreB (memL (bitS S) ts.length) (k : Int) j = bitS (S ||| 2 ^ k) j := fun j hj => by
    unfold moreB
    rw [sel_in hj]
    unfold bitS
    rw [Nat.testBit_or, Nat.testBit_two_pow, Bool.or_comm]
    congr 1
    rw [Bool.eq_iff_iff]
    simp
    omega
  have hlt : S ||| 2 ^ k < 2 ^ ts.length := Nat.or_lt_two_pow b1 (Nat.pow_lt_pow_right (by omega) hk)
  have hcn : cn (bitS (S ||| 2 ^ k)) ts.length = cn (bitS S) ts.length + 1 := by
    refine cn_one hb ?_ hk fun i _ hi => ?_
    · unfold bitS
      rw [Nat.testBit_or, Nat.testBit_two_pow_self, Bool.or_true]
    · unfold bitS
      rw [Nat.testBit_or, Nat.testBit_two_pow, show decide (k = i) = false by simp; omega, Bool.or_false]
  have hm : tv ts r (bitS S) ≤ tv ts r (bitS (S ||| 2 ^ k)) := tv_mono fun j _ hs => by
    unfold bitS at *
    rw [Nat.testBit_or, hs, Bool.true_or]
  have hle := tv_le (tunes_all h).1 r (bitS (S ||| 2 ^ k))
  unfold extraV
  rw [if_pos ⟨by rw [ht]; omega, by omega, by omega⟩, ht, tv_congr hbit]
  have := b3 _ hlt
  omega
theorem extra_is {ts : List (List (Int × Int))} {r teeth : Int} (h : tunesB ts = true) (hr : inB r 1 100 = true) (ht0 : 0 ≤ teeth) {k : Nat} (hk : k < ts.length) :
    ∃ e : Int, extraV ts (memL (bitS (mostS ts r teeth)) ts.length) (k : Int) r = e ∧ 0 ≤ e ∧ e ≤ 2440 ∧ (decide ((k : Int) ∈ memL (bitS (mostS ts r teeth)) ts.length) = true → e = 0) ∧ (decide ((k : Int) ∈ memL (bitS (mostS ts r teeth)) ts.length) = false → teeth < tv ts r (bitS (mostS ts r teeth)) + e) := by
  have hs : decide ((k : Int) ∈ memL (bitS (mostS ts r teeth)) ts.length) = bitS (mostS ts r teeth) k := sel_in hk
  rw [hs]
  cases hb : bitS (mostS ts r teeth) k
  · obtain ⟨e1, e2, e3⟩ := extra_out h hr ht0 hk hb
    exact ⟨_, rfl, e1, e3, (fun h => by cases h), fun _ => e2⟩
  · have e := extra_in h hr hk hb
    exact ⟨0, e, Int.le_refl _, by omega, fun _ => rfl, (fun h => by cases h)⟩
def allT : Nat → Bool := fun _ => true
theorem all_step1 (k : Nat) : memL allT (k + 1) = memL allT k ++ [(k : Int)] := by rw [memL_step]; rfl
theorem comb_whole {ts : List (List (Int × Int))} {r : Int} (h : tunesB ts = true) (hr : inB r 1 100 = true) : combOkB ts (memL allT ts.length) r = inB (tv ts r allT : Nat) 1 24 ∧ (combOkB ts (memL allT ts.length) r = true → (combV ts (memL allT ts.length) r).length = tv ts r allT ∧ combB (combV ts (memL allT ts.length) r) = true ∧
    ∀ (k : Nat) (t : List (Int × Int)), ts[k]? = some t → ∀ j, j < t.length → cntS t r j ≤ cntL (combV ts (memL allT ts.length) r) (nt t j).2) := by
  have ht := teeth_set h hr allT
  have h0 : combOkB ts (memL allT ts.length) r = inB (tv ts r allT : Nat) 1 24 := by unfold combOkB; rw [ht]
  refine ⟨h0, fun hok => ?_⟩
  have hsm : sm (allN ts r (selC (memL allT ts.length))) 61 = tv ts r allT := tv_congr (ts := ts) (r := r) fun j hj => memL_sel hj
  have hv : combV ts (memL allT ts.length) r = combL (allN ts r (selC (memL allT ts.length))) 61 := by unfold combV; rw [if_pos hok]
  rw [hv]
  refine ⟨by rw [combL_len, hsm], by rw [comb_made, hsm, ← h0]; exact hok, fun k t hk j hj => ?_⟩
  have htu : tuneB t = true := List.all_eq_true.1 (tunes_all h).1 t (List.mem_of_getElem? hk)
  have hb := tune_at htu hj
  obtain ⟨P, hP⟩ := Int.eq_ofNat_of_zero_le hb.2.2.1
  have hkl := (List.getElem?_eq_some_iff.1 hk).1
  rw [hP, cntL_comb, if_pos (by omega)]
  refine Nat.le_trans ?_ (mx_ge (n := ts.length) (k := k) hkl ((memL_sel hkl).trans rfl))
  unfold nd
  rw [getD_of hk]
  exact mx_ge (s := pickP t (P : Int)) (f := cntS t r) hj (by simp [pickP, hP])
theorem teeth_8 {ts : List (List (Int × Int))} {r : Int} (h : ts.length ≤ 4) : teethV ts [8] r = -1 := by
  unfold teethV
  rw [if_neg]
  rintro ⟨_, h2, _⟩
  have := rise_in (x := 8) h2 (by simp)
  omega

end Go.Proofs.Ytjcaamnojinnmaa
