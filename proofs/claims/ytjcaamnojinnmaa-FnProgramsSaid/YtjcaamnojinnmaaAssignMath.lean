/-
  Plain facts on the assigning of teeth: on a comb with as many teeth of each pitch as the tune needs, a free tooth is always found. No program in sight.
-/
import Derived.Test.YtjcaamnojinnmaaComb
namespace Go.Proofs.Ytjcaamnojinnmaa

theorem cn_erase {Q : Nat → Bool} {a : Nat} (ha : Q a = true) : ∀ {k : Nat}, a < k → cn Q k = cn (fun x => Q x && !(x == a)) k + 1
  | k + 1, h => by
    rw [cn_s, cn_s]
    by_cases e : a = k
    · subst e
      rw [cn_congr (g := fun x => Q x && !(x == a)) (k := a) fun j hj => by
        have : (j == a) = false := by simp; omega
        simp [this]]
      simp [ha]
    · rw [cn_erase ha (k := k) (by omega)]
      have : (k == a) = false := by simp; omega
      simp only [this, Bool.not_false, Bool.and_true]
      omega
/-- a one to one map from picked numbers to picked numbers -/
theorem cn_inj {P : Nat → Bool} {k : Nat} {j : Nat → Nat} : ∀ {m : Nat} {Q : Nat → Bool}, (∀ i, i < m → P i = true → j i < k ∧ Q (j i) = true) → (∀ i i', i < m → i' < m → P i = true → P i' = true → j i = j i' → i = i') → cn P m ≤ cn Q k
  | 0, Q, _, _ => Nat.zero_le _
  | m + 1, Q, h, hi => by
    rw [cn_s]
    by_cases hp : P m = true
    · obtain ⟨h1, h2⟩ := h m (by omega) hp
      rw [if_pos hp, cn_erase h2 h1]
      have := cn_inj (P := P) (k := k) (j := j) (m := m) (Q := fun x => Q x && !(x == j m)) (fun i hm hpi => by
        obtain ⟨q1, q2⟩ := h i (by omega) hpi
        refine ⟨q1, ?_⟩
        have hne : j i ≠ j m := fun e => by have := hi i m (by omega) (by omega) hpi hp e; omega
        simp [q2, hne]) (fun i i' h1 h2 => hi i i' (by omega) (by omega))
      omega
    · rw [if_neg hp]
      exact cn_inj (fun i hm => h i (by omega)) (fun i i' h1 h2 => hi i i' (by omega) (by omega))

/-- how often p stands in a list -/
def cntL (l : List Int) (p : Int) : Nat := cn (fun i => decide (l.getD i (-1) = p)) l.length
theorem cntL_app (a b : List Int) (p : Int) : cntL (a ++ b) p = cntL a p + cntL b p := by
  unfold cntL
  rw [List.length_append, cn_shift]
  congr 1
  · exact cn_congr fun j hj => by rw [List.getD_eq_getElem?_getD, List.getElem?_append_left hj, ← List.getD_eq_getElem?_getD]
  · exact cn_congr fun j hj => by rw [List.getD_eq_getElem?_getD, List.getElem?_append_right (by omega), Nat.add_sub_cancel_left, ← List.getD_eq_getElem?_getD]
theorem cn_const {f : Nat → Bool} : ∀ {k : Nat}, (∀ j, j < k → f j = true) → cn f k = k
  | 0, _ => rfl
  | k + 1, h => by
    rw [cn_s, cn_const (f := f) (k := k) fun j hj => h j (by omega), h k (by omega), if_pos rfl]
theorem cntL_rep (n : Nat) (q p : Int) : cntL (List.replicate n q) p = if q = p then n else 0 := by
  unfold cntL
  rw [List.length_replicate]
  by_cases e : q = p
  · rw [if_pos e]
    exact cn_const fun j hj => by simp [List.getD_eq_getElem?_getD, hj, e]
  · rw [if_neg e]
    exact cn_none fun j hj => by simp [List.getD_eq_getElem?_getD, hj, e]
theorem cntL_comb (f : Nat → Nat) (p : Nat) : ∀ m, cntL (combL f m) (p : Int) = if p < m then f p else 0
  | 0 => by simp [combL, cntL, cn]
  | m + 1 => by
    unfold combL
    rw [cntL_app, cntL_comb f p m, cntL_rep]
    by_cases h1 : p < m
    · rw [if_pos h1, if_neg (by omega), if_pos (by omega)]
      omega
    · rw [if_neg h1]
      by_cases h2 : p = m
      · subst h2
        rw [if_pos rfl, if_pos (by omega)]
        omega
      · rw [if_neg (by omega), if_neg (by omega)]

/-- which note a tooth played last -/
def lastT (xs : List (Int × Int)) (J : Nat → Option Nat) (i : Nat) : Int := match J i with
  | none => -1000
  | some j => (nt xs j).1
/-- teeth played by notes before k, each note by one tooth of its own pitch -/
def Played (xs : List (Int × Int)) (cs : List Int) (k : Nat) (J : Nat → Option Nat) : Prop :=
  (∀ i j, J i = some j → j < k ∧ cs.getD i (-1) = (nt xs j).2) ∧ ∀ i i' j, J i = some j → J i' = some j → i = i'
/-- a tooth that may play note k -/
def freeB (xs : List (Int × Int)) (cs : List Int) (r : Int) (k : Nat) (J : Nat → Option Nat) (i : Nat) : Bool := decide (cs.getD i (-1) = (nt xs k).2 ∧ r ≤ (nt xs k).1 - lastT xs J i)
theorem played_start (xs : List (Int × Int)) (cs : List Int) : Played xs cs 0 fun _ => none := ⟨fun i j h => (by cases h), fun i i' j h => (by cases h)⟩
theorem played_step {xs : List (Int × Int)} {cs : List Int} {k i : Nat} {J : Nat → Option Nat} (h : Played xs cs k J) (hp : cs.getD i (-1) = (nt xs k).2) : Played xs cs (k + 1) fun x => if x = i then some k else J x := by
  refine ⟨fun x j hx => ?_, fun x x' j hx hx' => ?_⟩
  · by_cases e : x = i
    · simp only [if_pos e] at hx
      injection hx with hx
      subst hx e
      exact ⟨by omega, hp⟩
    · simp only [if_neg e] at hx
      have := h.1 x j hx
      exact ⟨by omega, this.2⟩
  · by_cases e : x = i
    · simp only [if_pos e] at hx
      injection hx with hx
      subst hx
      by_cases e' : x' = i
      · omega
      · simp only [if_neg e'] at hx'
        have := (h.1 x' _ hx').1
        omega
    · simp only [if_neg e] at hx
      by_cases e' : x' = i
      · simp only [if_pos e'] at hx'
        injection hx' with hx'
        subst hx'
        have := (h.1 x _ hx).1
        omega
      · simp only [if_neg e'] at hx'
        exact h.2 x x' j hx hx'
/-- there is a free tooth -/
theorem free_tooth {xs : List (Int × Int)} {cs : List Int} {r : Int} {k : Nat} {J : Nat → Option Nat} (h : Played xs cs k J) (ht : tuneB xs = true) (hk : k < xs.length) (hr0 : 1 ≤ r) (hr : r ≤ 100)
    (hc : cntS xs r k ≤ cntL cs (nt xs k).2) : ∃ i, i < cs.length ∧ freeB xs cs r k J i = true := by
  apply Classical.byContradiction
  intro hno
  have hall : ∀ i, i < cs.length → cs.getD i (-1) = (nt xs k).2 → ∃ j, J i = some j ∧ (nt xs k).1 - (nt xs j).1 < r := fun i hi hp => by
    have hf : freeB xs cs r k J i ≠ true := fun e => hno ⟨i, hi, e⟩
    unfold freeB at hf
    have hlt : ¬ r ≤ (nt xs k).1 - lastT xs J i := fun e => hf (decide_eq_true ⟨hp, e⟩)
    have h0 := (tune_at ht hk).1
    unfold lastT at hlt
    cases e : J i with
    | none => rw [e] at hlt; simp only at hlt; omega
    | some j => rw [e] at hlt; simp only at hlt; exact ⟨j, rfl, by omega⟩
  have hle : cntL cs (nt xs k).2 ≤ cn (winS xs r k) k := by
    unfold cntL
    refine cn_inj (j := fun i => (J i).getD 0) (fun i hi hp => ?_) (fun i i' hi hi' hp hp' e => ?_)
    · obtain ⟨j, e, hj⟩ := hall i hi (of_decide_eq_true hp)
      have h1 := h.1 i j e
      simp only [e, Option.getD_some]
      refine ⟨h1.1, ?_⟩
      unfold winS
      exact decide_eq_true ⟨by rw [← h1.2]; exact of_decide_eq_true hp, hj⟩
    · obtain ⟨j, e1, _⟩ := hall i hi (of_decide_eq_true hp)
      obtain ⟨j', e2, _⟩ := hall i' hi' (of_decide_eq_true hp')
      simp only [e1, e2, Option.getD_some] at e
      subst e
      exact h.2 i i' j e1 e2
  have hs : cntS xs r k = cn (winS xs r k) k + 1 := by
    unfold cntS
    rw [cn_s, if_pos]
    unfold winS
    apply decide_eq_true
    exact ⟨rfl, by omega⟩
  omega

/-! ### A row of numbers told by a function -/

def arrL (L : Nat → Int) (M : Nat) : Array Value := ((List.range M).map fun i => Value.int .i64 (L i)).toArray
theorem arrL_size (L : Nat → Int) (M : Nat) : (arrL L M).size = M := by simp [arrL]
theorem arrL_get (L : Nat → Int) {M i : Nat} (h : i < M) : (arrL L M)[i]? = some (.int .i64 (L i)) := by simp [arrL, h]
theorem arrL_ext {cs : Array Value} {L : Nat → Int} {M : Nat} (hs : cs.size = M) (h : ∀ i, i < M → cs[i]? = some (.int .i64 (L i))) : cs = arrL L M := by
  apply Array.ext_getElem?
  intro p
  by_cases hp : p < M
  · rw [h p hp, arrL_get L hp]
  · rw [Array.getElem?_eq_none (by omega), Array.getElem?_eq_none (by rw [arrL_size]; omega)]
theorem arrL_set (L : Nat → Int) {M i : Nat} (v : Int) (h : i < M) : (arrL L M).setIfInBounds i (.int .i64 v) = arrL (fun x => if x = i then v else L x) M := by
  refine arrL_ext (by simp [arrL_size]) fun q hq => ?_
  by_cases e : q = i
  · subst e
    rw [Array.getElem?_setIfInBounds_self_of_lt (by rw [arrL_size]; omega), if_pos rfl]
  · rw [Array.getElem?_setIfInBounds_ne (by omega), arrL_get L hq, if_neg e]
theorem arrL_congr {L L' : Nat → Int} {M : Nat} (h : ∀ i, i < M → L i = L' i) : arrL L M = arrL L' M := arrL_ext (arrL_size _ _) fun i hi => by rw [arrL_get L hi, h i hi]
theorem arrL_zero (M : Nat) : madeCells #[.int .i64 0] M = arrL (fun _ => 0) M := arrL_ext (by simp [madeCells]) fun p hp => by
  simp [madeCells, hp, Nat.mod_one]
theorem last_step (xs : List (Int × Int)) (J : Nat → Option Nat) (i k : Nat) : (fun x => if x = i then (nt xs k).1 else lastT xs J x) = lastT xs fun x => if x = i then some k else J x := funext fun x => by
  unfold lastT
  by_cases e : x = i
  · simp [e]
  · simp [e]

end Go.Proofs.Ytjcaamnojinnmaa
