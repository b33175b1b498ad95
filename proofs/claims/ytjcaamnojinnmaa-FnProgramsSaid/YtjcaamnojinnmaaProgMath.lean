/-
  Plain facts on programs of tunes: the teeth for a choice of tunes, sets of tunes as numbers, the best set. No program in sight.
-/
import Derived.Test.YtjcaamnojinnmaaTeethMath
namespace Go.Proofs.Ytjcaamnojinnmaa

/-- f 0 + .. + f (k-1) -/
def sm (f : Nat → Nat) : Nat → Nat
  | 0 => 0
  | k + 1 => sm f k + f k
theorem sm_mono {f g : Nat → Nat} : ∀ {k : Nat}, (∀ j, j < k → f j ≤ g j) → sm f k ≤ sm g k
  | 0, _ => Nat.le_refl _
  | k + 1, h => by
    have h1 := sm_mono (f := f) (g := g) (k := k) fun j hj => h j (by omega)
    have h2 := h k (by omega)
    unfold sm
    omega
theorem sm_congr {f g : Nat → Nat} : ∀ {k : Nat}, (∀ j, j < k → f j = g j) → sm f k = sm g k
  | 0, _ => rfl
  | k + 1, h => by
    unfold sm
    rw [sm_congr (f := f) (g := g) (k := k) fun j hj => h j (by omega), h k (by omega)]
theorem sm_ge {f : Nat → Nat} : ∀ {k j : Nat}, j < k → f j ≤ sm f k
  | k + 1, j, h => by
    unfold sm
    by_cases e : j = k
    · subst e; omega
    · have := sm_ge (f := f) (k := k) (j := j) (by omega)
      omega
theorem sm_le {f : Nat → Nat} {b : Nat} : ∀ {k : Nat}, (∀ j, j < k → f j ≤ b) → sm f k ≤ k * b
  | 0, _ => by simp [sm]
  | k + 1, h => by
    have h1 := sm_le (f := f) (b := b) (k := k) fun j hj => h j (by omega)
    have h2 := h k (by omega)
    unfold sm
    rw [Nat.add_mul]
    omega
theorem sm_zero : ∀ (k : Nat), sm (fun _ => 0) k = 0
  | 0 => rfl
  | k + 1 => by unfold sm; rw [sm_zero k]

theorem mx_congr {s s' : Nat → Bool} {f : Nat → Nat} : ∀ {n : Nat}, (∀ k, k < n → s k = s' k) → mx s f n = mx s' f n
  | 0, _ => rfl
  | n + 1, h => by
    unfold mx
    rw [mx_congr (s := s) (s' := s') (f := f) (n := n) fun k hk => h k (by omega), h n (by omega)]
theorem mx_mono {s s' : Nat → Bool} {f : Nat → Nat} {n : Nat} (h : ∀ k, k < n → s k = true → s' k = true) : mx s f n ≤ mx s' f n := mx_le fun k hk hs => mx_ge hk (h k hk hs)
theorem mx_none {s : Nat → Bool} {f : Nat → Nat} {n : Nat} (h : ∀ k, k < n → s k = false) : mx s f n = 0 := by
  have : mx s f n ≤ 0 := mx_le fun k hk hs => by rw [h k hk] at hs; cases hs
  omega

/-- how many teeth of pitch p tune k needs -/
def nd (ts : List (List (Int × Int))) (r : Int) (p k : Nat) : Nat := needS (ts.getD k []) r p (ts.getD k []).length
/-- how many teeth of pitch p the chosen tunes need -/
def allN (ts : List (List (Int × Int))) (r : Int) (s : Nat → Bool) (p : Nat) : Nat := mx s (nd ts r p) ts.length
/-- how many teeth the chosen tunes need -/
def tv (ts : List (List (Int × Int))) (r : Int) (s : Nat → Bool) : Nat := sm (allN ts r s) 61
theorem tv_mono {ts : List (List (Int × Int))} {r : Int} {s s' : Nat → Bool} (h : ∀ k, k < ts.length → s k = true → s' k = true) : tv ts r s ≤ tv ts r s' := sm_mono fun _ _ => mx_mono h
theorem tv_congr {ts : List (List (Int × Int))} {r : Int} {s s' : Nat → Bool} (h : ∀ k, k < ts.length → s k = s' k) : tv ts r s = tv ts r s' := sm_congr fun _ _ => mx_congr h
theorem tv_none {ts : List (List (Int × Int))} {r : Int} {s : Nat → Bool} (h : ∀ k, k < ts.length → s k = false) : tv ts r s = 0 := by
  have := sm_congr (f := allN ts r s) (g := fun _ => 0) (k := 61) fun _ _ => mx_none h
  rw [sm_zero] at this
  exact this
def tunesB (ts : List (List (Int × Int))) : Bool := ts.all tuneB && decide (ts.length ≤ 8)
theorem nd_le {ts : List (List (Int × Int))} (h : ts.all tuneB = true) (r : Int) (p k : Nat) : nd ts r p k ≤ 40 := by
  unfold nd
  refine Nat.le_trans (needS_le r p (Nat.le_refl _)) ?_
  rw [List.getD_eq_getElem?_getD]
  cases e : ts[k]? with
  | none => simp
  | some xs => exact tune_len (List.all_eq_true.1 h _ (List.mem_of_getElem? e))
theorem allN_le {ts : List (List (Int × Int))} (h : ts.all tuneB = true) (r : Int) (s : Nat → Bool) (p : Nat) : allN ts r s p ≤ 40 := mx_le fun k _ _ => nd_le h r p k
theorem tv_le {ts : List (List (Int × Int))} (h : ts.all tuneB = true) (r : Int) (s : Nat → Bool) : tv ts r s ≤ 2440 := sm_le fun p _ => allN_le h r s p

/-! ### Choices as lists -/

def stepC (ch : List Int) (m : Int) (k : Nat) : Bool := inB (ch.getD k 0) 0 m && (k == 0 || decide (ch.getD (k - 1) 0 < ch.getD k 0))
def riseTo (ch : List Int) (m : Int) (k : Nat) : Bool := (List.range k).all (stepC ch m)
/-- strictly ascending numbers from 0 to m -/
def riseB (ch : List Int) (m : Int) : Bool := riseTo ch m ch.length
theorem riseTo_step {ch : List Int} {m : Int} {k : Nat} (h : riseTo ch m k = true) (h1 : stepC ch m k = true) : riseTo ch m (k + 1) = true := by
  unfold riseTo at *
  rw [List.range_succ, List.all_append, h]; simp [h1]
theorem riseTo_stop {ch : List Int} {m : Int} {k n : Nat} (hk : k < n) (h1 : stepC ch m k = false) : riseTo ch m n = false := by
  rw [Bool.eq_false_iff]; intro ha
  have := List.all_eq_true.1 ha k (List.mem_range.2 hk)
  rw [h1] at this; cases this
theorem rise_in {ch : List Int} {m x : Int} (h : riseB ch m = true) (hx : x ∈ ch) : 0 ≤ x ∧ x ≤ m := by
  obtain ⟨k, hk⟩ := List.getElem?_of_mem hx
  have hlt := (List.getElem?_eq_some_iff.1 hk).1
  have := List.all_eq_true.1 h k (List.mem_range.2 hlt)
  unfold stepC at this
  rw [getD_of hk] at this
  simp only [Bool.and_eq_true] at this
  exact inB_iff.1 this.1
/-- is k chosen? -/
def selC (ch : List Int) (k : Nat) : Bool := decide ((k : Int) ∈ ch)
/-- the greatest need over a list of choices -/
def allL (ts : List (List (Int × Int))) (r : Int) (ch : List Int) (p : Nat) : Nat := ch.foldl (fun a k => max a (nd ts r p k.toNat)) 0
theorem allL_snoc (ts : List (List (Int × Int))) (r : Int) (ch : List Int) (x : Int) (p : Nat) : allL ts r (ch ++ [x]) p = max (allL ts r ch p) (nd ts r p x.toNat) := by simp [allL]
theorem fmax_le {α : Type} {f : α → Nat} {b : Nat} : ∀ (l : List α) (a : Nat), a ≤ b → (∀ x ∈ l, f x ≤ b) → l.foldl (fun a x => max a (f x)) a ≤ b
  | [], a, ha, _ => ha
  | x :: l, a, ha, h => fmax_le l _ (Nat.max_le.2 ⟨ha, h x (by simp)⟩) fun y hy => h y (by simp [hy])
theorem fmax_start {α : Type} {f : α → Nat} : ∀ (l : List α) (a : Nat), a ≤ l.foldl (fun a x => max a (f x)) a
  | [], _ => Nat.le_refl _
  | x :: l, a => Nat.le_trans (Nat.le_max_left _ _) (fmax_start l (max a (f x)))
theorem fmax_ge {α : Type} {f : α → Nat} {x : α} : ∀ (l : List α) (a : Nat), x ∈ l → f x ≤ l.foldl (fun a x => max a (f x)) a
  | y :: l, a, h => by
    rcases List.mem_cons.1 h with rfl | h
    · exact Nat.le_trans (Nat.le_max_right _ _) (fmax_start l _)
    · exact fmax_ge l _ h
theorem allL_eq {ts : List (List (Int × Int))} {r : Int} {ch : List Int} (h : ∀ x ∈ ch, 0 ≤ x ∧ x < ts.length) (p : Nat) : allL ts r ch p = allN ts r (selC ch) p := by
  apply Nat.le_antisymm
  · refine fmax_le _ _ (Nat.zero_le _) fun x hx => ?_
    obtain ⟨h0, h1⟩ := h x hx
    exact mx_ge (k := x.toNat) (by omega) (by unfold selC; rw [Int.toNat_of_nonneg h0]; exact decide_eq_true hx)
  · refine mx_le fun k _ hs => ?_
    have hs : (k : Int) ∈ ch := of_decide_eq_true hs
    exact fmax_ge (f := fun x : Int => nd ts r p x.toNat) _ _ hs

/-! ### Sets of tunes as numbers -/

def setL (ch : List Int) : Nat := ch.foldl (fun s k => s ||| 2 ^ k.toNat) 0
theorem setL_snoc (ch : List Int) (x : Int) : setL (ch ++ [x]) = setL ch ||| 2 ^ x.toNat := by simp [setL]
theorem set_bit (k : Nat) : ∀ (ch : List Int) (s : Nat), (∀ x ∈ ch, 0 ≤ x) → (ch.foldl (fun s k => s ||| 2 ^ k.toNat) s).testBit k = (s.testBit k || decide ((k : Int) ∈ ch))
  | [], s, _ => by simp
  | x :: ch, s, h => by
    have hx := h x (by simp)
    rw [List.foldl_cons, set_bit k ch _ fun y hy => h y (by simp [hy]), Nat.testBit_or, Nat.testBit_two_pow, Bool.or_assoc]
    congr 1
    rw [Bool.eq_iff_iff]
    simp only [Bool.or_eq_true, decide_eq_true_eq, List.mem_cons]
    constructor
    · rintro (h1 | h1)
      · left; omega
      · exact Or.inr h1
    · rintro (h1 | h1)
      · left; omega
      · exact Or.inr h1
theorem setL_bit {ch : List Int} (h : ∀ x ∈ ch, 0 ≤ x) (k : Nat) : (setL ch).testBit k = selC ch k := by
  unfold setL selC
  rw [set_bit k ch 0 h]
  simp
theorem setL_lt {ch : List Int} {n : Nat} (h : ∀ x ∈ ch, 0 ≤ x ∧ x < n) : setL ch < 2 ^ n := by
  apply Nat.lt_pow_two_of_testBit
  intro k hk
  rw [setL_bit (fun x hx => (h x hx).1)]
  unfold selC
  apply decide_eq_false
  intro hm
  have := (h _ hm).2
  omega
/-- the numbers below n that are picked, ascending -/
def memL (s : Nat → Bool) (n : Nat) : List Int := ((List.range n).filter s).map fun k : Nat => (k : Int)
theorem memL_step (s : Nat → Bool) (n : Nat) : memL s (n + 1) = memL s n ++ if s n = true then [(n : Int)] else [] := by
  unfold memL
  rw [List.range_succ, List.filter_append, List.map_append]
  by_cases h : s n = true
  · rw [if_pos h]; simp [h]
  · rw [if_neg h]; simp [h]
theorem memL_mem {s : Nat → Bool} {n : Nat} {x : Int} : x ∈ memL s n ↔ 0 ≤ x ∧ x < n ∧ s x.toNat = true := by
  unfold memL
  simp only [List.mem_map, List.mem_filter, List.mem_range]
  constructor
  · rintro ⟨k, ⟨h1, h2⟩, rfl⟩
    refine ⟨by omega, by omega, by simpa using h2⟩
  · rintro ⟨h0, h1, h2⟩
    exact ⟨x.toNat, ⟨by omega, h2⟩, by omega⟩
theorem memL_sel {s : Nat → Bool} {n k : Nat} (h : k < n) : selC (memL s n) k = s k := by
  unfold selC
  rw [Bool.eq_iff_iff, decide_eq_true_iff, memL_mem]
  simp [h]
theorem memL_len (s : Nat → Bool) : ∀ n, (memL s n).length = cn s n
  | 0 => rfl
  | n + 1 => by
    rw [memL_step, List.length_append, memL_len s n, cn_s]
    split <;> simp
theorem memL_congr {s s' : Nat → Bool} {n : Nat} (h : ∀ k, k < n → s k = s' k) : memL s n = memL s' n := by
  unfold memL
  congr 1
  apply List.filter_congr
  intro x hx
  exact h x (List.mem_range.1 hx)
theorem memL_sorted (s : Nat → Bool) (n : Nat) : (memL s n).Pairwise (· < ·) := by
  unfold memL
  rw [List.pairwise_map]
  refine ((List.pairwise_lt_range).filter s).imp fun h => by omega
theorem memL_rise {s : Nat → Bool} {n : Nat} : riseB (memL s n) ((n : Int) - 1) = true := by
  unfold riseB riseTo
  rw [List.all_eq_true]
  intro k hk
  have hk := List.mem_range.1 hk
  have hm := memL_mem.1 (List.getElem_mem hk)
  unfold stepC
  rw [getD_of (List.getElem?_eq_getElem hk), inB_true (by omega)]
  by_cases h0 : k = 0
  · simp [h0]
  · obtain ⟨j, rfl⟩ : ∃ j, k = j + 1 := ⟨k - 1, by omega⟩
    have := List.pairwise_iff_getElem.1 (memL_sorted s n) j (j + 1) (by omega) hk (by omega)
    rw [show j + 1 - 1 = j by omega, getD_of (List.getElem?_eq_getElem (show j < (memL s n).length by omega))]
    simp [this]
/-- a set's number of tunes and of teeth -/
def bitS (S : Nat) : Nat → Bool := fun k => S.testBit k
/-- the lexicographic order of lists of the same length -/
def lexB : List Int → List Int → Bool
  | x :: a, y :: b => if x = y then lexB a b else decide (x < y)
  | _, _ => false
/-- one set tried against the best so far -/
def tryM (ts : List (List (Int × Int))) (r : Int) (teeth : Int) (b : Nat × Nat) (S : Nat) : Nat × Nat :=
  let l := memL (bitS S) ts.length
  let m := tv ts r (bitS S)
  if teeth < m ∨ l.length < (memL (bitS b.1) ts.length).length then b
  else if (memL (bitS b.1) ts.length).length < l.length ∨ m < b.2 ∨ (m = b.2 ∧ lexB l (memL (bitS b.1) ts.length) = true) then (S, m) else b
/-- the best of the sets 1 .. k -/
def mostTo (ts : List (List (Int × Int))) (r : Int) (teeth : Int) : Nat → Nat × Nat
  | 0 => (0, 0)
  | k + 1 => tryM ts r teeth (mostTo ts r teeth k) (k + 1)
theorem bit_zero (k : Nat) : bitS 0 k = false := by simp [bitS]
theorem tv_zero (ts : List (List (Int × Int))) (r : Int) : tv ts r (bitS 0) = 0 := tv_none fun k _ => bit_zero k
theorem most_inv {ts : List (List (Int × Int))} {r teeth : Int} (ht : 0 ≤ teeth) : ∀ k, (mostTo ts r teeth k).1 ≤ k ∧ (mostTo ts r teeth k).2 = tv ts r (bitS (mostTo ts r teeth k).1) ∧ (tv ts r (bitS (mostTo ts r teeth k).1) : Int) ≤ teeth ∧
    ∀ S, S ≤ k → (tv ts r (bitS S) : Int) ≤ teeth → cn (bitS S) ts.length < cn (bitS (mostTo ts r teeth k).1) ts.length ∨ (cn (bitS S) ts.length = cn (bitS (mostTo ts r teeth k).1) ts.length ∧ tv ts r (bitS (mostTo ts r teeth k).1) ≤ tv ts r (bitS S))
  | 0 => by
    refine ⟨Nat.le_refl _, (tv_zero ts r).symm, ?_, fun S hS _ => ?_⟩
    · rw [show (mostTo ts r teeth 0).1 = 0 from rfl, tv_zero]; exact ht
    · obtain rfl : S = 0 := by omega
      exact Or.inr ⟨rfl, Nat.le_refl _⟩
  | k + 1 => by
    obtain ⟨h1, h2, h3, h4⟩ := most_inv (ts := ts) (r := r) ht k
    unfold mostTo tryM
    simp only [memL_len]
    generalize mostTo ts r teeth k = b at *
    by_cases c1 : teeth < tv ts r (bitS (k + 1)) ∨ cn (bitS (k + 1)) ts.length < cn (bitS b.1) ts.length
    · rw [if_pos c1]
      refine ⟨by omega, h2, h3, fun S hS hle => ?_⟩
      by_cases e : S = k + 1
      · subst e
        rcases c1 with c1 | c1
        · omega
        · exact Or.inl c1
      · exact h4 S (by omega) hle
    · rw [if_neg c1]
      by_cases c2 : cn (bitS b.1) ts.length < cn (bitS (k + 1)) ts.length ∨ tv ts r (bitS (k + 1)) < b.2 ∨ (tv ts r (bitS (k + 1)) = b.2 ∧ lexB (memL (bitS (k + 1)) ts.length) (memL (bitS b.1) ts.length) = true)
      · rw [if_pos c2]
        refine ⟨Nat.le_refl _, rfl, by simp only; omega, fun S hS hle => ?_⟩
        simp only
        by_cases e : S = k + 1
        · subst e
          exact Or.inr ⟨rfl, Nat.le_refl _⟩
        · have := h4 S (by omega) hle
          rw [← h2] at this
          rcases c2 with c2 | c2 | ⟨c2, _⟩ <;> omega
      · rw [if_neg c2]
        refine ⟨by omega, h2, h3, fun S hS hle => ?_⟩
        by_cases e : S = k + 1
        · subst e
          rw [h2] at c2
          right
          omega
        · exact h4 S (by omega) hle

end Go.Proofs.Ytjcaamnojinnmaa
