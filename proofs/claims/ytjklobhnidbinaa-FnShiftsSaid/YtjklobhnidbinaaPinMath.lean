/-
  Plain facts on cylinders: pins in order, one pin put in at its place, two lists of pins merged. No program in sight.
-/
import Derived.Test.YtjklobhnidbinaaPinOrd
namespace Go.Proofs.Ytjklobhnidbinaa

def sw (p : Int × Int) : Int × Int := (p.2, p.1)
theorem sw_inj {p q : Int × Int} (h : sw p = sw q) : p = q := by
  rcases p with ⟨a, b⟩
  rcases q with ⟨c, d⟩
  simp [sw] at h
  simp [h]
/-- a pin (track, angle) before another: by angle, then by track -/
def lessQ (p q : Int × Int) : Bool := lessN (sw p) (sw q)
def cmpQ (p q : Int × Int) : Int := if lessQ p q = true then -1 else if p = q then 0 else 1
def stepQ (s t : Int) (xs : List (Int × Int)) (k : Nat) : Bool :=
  inB (xs.getD k (0, 0)).1 0 (t - 1) && inB (xs.getD k (0, 0)).2 0 (s - 1) && (k == 0 || lessQ (xs.getD (k - 1) (0, 0)) (xs.getD k (0, 0)))
def pinsTo (s t : Int) (xs : List (Int × Int)) (k : Nat) : Bool := (List.range k).all (stepQ s t xs)
/-- is a cylinder valid? -/
def cylB (s t : Int) (xs : List (Int × Int)) : Bool := inB s 4 96 && inB t 1 100 && decide (xs.length ≤ 100) && pinsTo s t xs xs.length
theorem pinsTo_step {s t : Int} {xs : List (Int × Int)} {k : Nat} (h : pinsTo s t xs k = true) (h1 : stepQ s t xs k = true) : pinsTo s t xs (k + 1) = true := by
  unfold pinsTo at *
  rw [List.range_succ, List.all_append, h]; simp [h1]
theorem pinsTo_stop {s t : Int} {xs : List (Int × Int)} {k n : Nat} (hk : k < n) (h1 : stepQ s t xs k = false) : pinsTo s t xs n = false := by
  rw [Bool.eq_false_iff]; intro ha
  have := List.all_eq_true.1 ha k (List.mem_range.2 hk)
  rw [h1] at this; cases this
def AscQ (l : List (Int × Int)) : Prop := l.Pairwise fun p q => lessQ p q = true
theorem ascQ_map {l : List (Int × Int)} : Asc (l.map sw) ↔ AscQ l := by unfold Asc AscQ; rw [List.pairwise_map]; rfl
theorem lessQ_trans {p q r : Int × Int} (h : lessQ p q = true) (k : lessQ q r = true) : lessQ p r = true := less_trans h k
theorem lessQ_irr (p : Int × Int) : lessQ p p = false := less_irr _
theorem lessQ_total {p q : Int × Int} (h : lessQ p q = false) : lessQ q p = true ∨ q = p := by
  rcases less_total h with h | h
  · exact Or.inl h
  · exact Or.inr (sw_inj h)
theorem lessQ_asymm {p q : Int × Int} (h : lessQ p q = true) : lessQ q p = false := by
  rw [Bool.eq_false_iff]
  intro k
  have := lessQ_trans h k
  rw [lessQ_irr] at this
  cases this
def inQ (s t : Int) (p : Int × Int) : Prop := 0 ≤ p.1 ∧ p.1 ≤ t - 1 ∧ 0 ≤ p.2 ∧ p.2 ≤ s - 1
/-- valid: the bounds, and strictly ascending pins in their bounds -/
theorem asc_step {α : Type} {R : α → α → Prop} (ht : ∀ {a b c}, R a b → R b c → R a c) : ∀ {l : List α}, (∀ k p q, l[k]? = some p → l[k + 1]? = some q → R p q) → l.Pairwise R
  | [], _ => List.Pairwise.nil
  | a :: l, h => by
    have ih := asc_step (R := R) ht (l := l) fun k p q h1 h2 => h (k + 1) p q (by simpa using h1) (by simpa using h2)
    refine List.pairwise_cons.2 ⟨fun b hb => ?_, ih⟩
    cases l with
    | nil => cases hb
    | cons c l =>
      have hac := h 0 a c rfl rfl
      rcases List.mem_cons.1 hb with rfl | hb
      · exact hac
      · exact ht hac ((List.pairwise_cons.1 ih).1 b hb)
theorem cyl_iff {s t : Int} {xs : List (Int × Int)} : cylB s t xs = true ↔ (4 ≤ s ∧ s ≤ 96) ∧ (1 ≤ t ∧ t ≤ 100) ∧ xs.length ≤ 100 ∧ (∀ p ∈ xs, inQ s t p) ∧ AscQ xs := by
  unfold cylB pinsTo
  simp only [Bool.and_eq_true, decide_eq_true_eq, List.all_eq_true, List.mem_range]
  constructor
  · rintro ⟨⟨⟨h1, h2⟩, h3⟩, h4⟩
    have hg : ∀ k p, xs[k]? = some p → inQ s t p ∧ (0 < k → lessQ (xs.getD (k - 1) (0, 0)) p = true) := fun k p hp => by
      have := h4 k (List.getElem?_eq_some_iff.1 hp).1
      unfold stepQ at this
      rw [getD_of hp] at this
      simp only [Bool.and_eq_true, Bool.or_eq_true, beq_iff_eq] at this
      have i1 := inB_iff.1 this.1.1
      have i2 := inB_iff.1 this.1.2
      exact ⟨⟨i1.1, i1.2, i2.1, i2.2⟩, fun hk => this.2.resolve_left (by omega)⟩
    refine ⟨inB_iff.1 h1, inB_iff.1 h2, h3, fun p hp => ?_, asc_step (R := fun p q => lessQ p q = true) (fun h k => lessQ_trans h k) fun k p q hp hq => ?_⟩
    · obtain ⟨k, hk⟩ := List.getElem?_of_mem hp
      exact (hg k p hk).1
    · have := (hg (k + 1) q hq).2 (by omega)
      rw [show k + 1 - 1 = k by omega, getD_of hp] at this
      exact this
  · rintro ⟨h1, h2, h3, h4, h5⟩
    refine ⟨⟨⟨inB_true h1, inB_true h2⟩, h3⟩, fun k hk => ?_⟩
    have hp := List.getElem?_eq_getElem hk
    obtain ⟨b0, b1, b2, b3⟩ := h4 _ (List.mem_of_getElem? hp)
    unfold stepQ
    rw [getD_of hp, inB_true ⟨b0, b1⟩, inB_true ⟨b2, b3⟩]
    by_cases h0 : k = 0
    · simp [h0]
    · obtain ⟨j, rfl⟩ : ∃ j, k = j + 1 := ⟨k - 1, by omega⟩
      have := List.pairwise_iff_getElem.1 h5 j (j + 1) (by omega) hk (by omega)
      rw [show j + 1 - 1 = j by omega, getD_of (List.getElem?_eq_getElem (show j < xs.length by omega))]
      simp [this]
theorem asc_nodup {l : List (Int × Int)} (h : AscQ l) : l.Nodup := h.imp fun {a b} hab e => by
  subst e
  rw [lessQ_irr] at hab
  cases hab
/-- two ascending lists with the same pins are one -/
theorem asc_one {l m : List (Int × Int)} (h : AscQ l) (k : AscQ m) (hp : l.Perm m) : l = m :=
  hp.eq_of_pairwise (fun a b _ _ h1 h2 => absurd h2 (by rw [lessQ_asymm h1]; simp)) h k
/-- weakly ascending without a pair is ascending -/
theorem asc_of_weak {l : List (Int × Int)} (h : l.Pairwise fun p q => lessQ q p = false) (hn : l.Nodup) : AscQ l := by
  refine (h.and hn).imp fun {a b} hab => ?_
  rcases lessQ_total hab.1 with h1 | h1
  · exact h1
  · exact absurd h1 hab.2

/-! ### One pin put in -/

def atQ (l : List (Int × Int)) (x : Int × Int) : Nat := atN (l.map sw) (sw x)
theorem atQ_le (l : List (Int × Int)) (x : Int × Int) : atQ l x ≤ l.length := by
  have := atN_le (l.map sw) (sw x)
  simpa [atQ] using this
theorem atQ_before {l : List (Int × Int)} {x p : Int × Int} {k : Nat} (hk : k < atQ l x) (h : l[k]? = some p) : lessQ p x = true :=
  atN_before (l := l.map sw) (p := sw p) hk (by rw [List.getElem?_map, h]; rfl)
theorem atQ_stop {l : List (Int × Int)} {x p : Int × Int} (h : l[atQ l x]? = some p) : lessQ p x = false :=
  atN_stop (l := l.map sw) (p := sw p) (by rw [List.getElem?_map]; unfold atQ at h; rw [h]; rfl)
theorem atQ_is {l : List (Int × Int)} {x : Int × Int} {k : Nat} (hk : k ≤ l.length) (hb : ∀ j p, j < k → l[j]? = some p → lessQ p x = true) (hs : ∀ p, l[k]? = some p → lessQ p x = false) : atQ l x = k := by
  refine atN_is (by simpa using hk) (fun j p hj hp => ?_) fun p hp => ?_
  · rw [List.getElem?_map] at hp
    cases h : l[j]? with
    | none => rw [h] at hp; cases hp
    | some q => rw [h] at hp; injection hp with hp; subst hp; exact hb j q hj h
  · rw [List.getElem?_map] at hp
    cases h : l[k]? with
    | none => rw [h] at hp; cases hp
    | some q => rw [h] at hp; injection hp with hp; subst hp; exact hs q h
/-- is the pin there? -/
def hasQ (l : List (Int × Int)) (x : Int × Int) : Bool := decide (l[atQ l x]? = some x)
def putQ (l : List (Int × Int)) (x : Int × Int) : List (Int × Int) := l.take (atQ l x) ++ [x] ++ l.drop (atQ l x)
theorem put_len (l : List (Int × Int)) (x : Int × Int) : (putQ l x).length = l.length + 1 := by
  have := atQ_le l x
  simp [putQ]
  omega
theorem put_perm (l : List (Int × Int)) (x : Int × Int) : (putQ l x).Perm (l ++ [x]) := by
  unfold putQ
  have h : (l.take (atQ l x) ++ [x] ++ l.drop (atQ l x)).Perm (l.take (atQ l x) ++ (l.drop (atQ l x) ++ [x])) := by
    rw [List.append_assoc]
    exact List.Perm.append_left _ List.perm_append_comm
  rwa [← List.append_assoc, List.take_append_drop] at h
theorem put_asc {l : List (Int × Int)} {x : Int × Int} (h : AscQ l) (hx : hasQ l x = false) : AscQ (putQ l x) := by
  rw [← ascQ_map] at h ⊢
  have h2 := ins_asc (x := sw x) h
  have hne : (l.map sw)[atN (l.map sw) (sw x)]? ≠ some (sw x) := fun e => by
    rw [List.getElem?_map] at e
    have : l[atQ l x]? = some x := by
      unfold atQ
      cases hq : l[atN (l.map sw) (sw x)]? with
      | none => rw [hq] at e; cases e
      | some q => rw [hq] at e; injection e with e; rw [sw_inj e]
    unfold hasQ at hx
    rw [decide_eq_true this] at hx
    cases hx
  unfold insN at h2
  rw [if_neg hne] at h2
  unfold putQ
  rw [List.map_append, List.map_append, List.map_take, List.map_drop]
  exact h2
theorem has_mem {l : List (Int × Int)} {x : Int × Int} (h : hasQ l x = true) : x ∈ l := List.mem_of_getElem? (of_decide_eq_true h)
/-- the pins b[0] .. b[k-1] put in, one behind the other; none where one was there -/
def mergeTo (a b : List (Int × Int)) : Nat → Option (List (Int × Int))
  | 0 => some a
  | k + 1 => match mergeTo a b k, b[k]? with
    | some l, some x => if hasQ l x = true then none else some (putQ l x)
    | _, _ => none
theorem merge_some {a b : List (Int × Int)} (h : AscQ a) : ∀ {k : Nat} {l : List (Int × Int)}, mergeTo a b k = some l → k ≤ b.length ∧ AscQ l ∧ l.Perm (a ++ b.take k)
  | 0, l, e => by
    injection e with e
    subst e
    exact ⟨Nat.zero_le _, h, by simp⟩
  | k + 1, l, e => by
    unfold mergeTo at e
    split at e
    · rename_i l' x h1 h2
      obtain ⟨_, i2, i3⟩ := merge_some h h1
      have hk := (List.getElem?_eq_some_iff.1 h2).1
      split at e
      · cases e
      · rename_i hx
        injection e with e
        subst e
        refine ⟨by omega, put_asc i2 (by simpa using hx), ?_⟩
        rw [List.take_add_one, h2, ← List.append_assoc]
        exact (put_perm _ _).trans (i3.append_right _)
    · cases e
theorem merge_none {a b : List (Int × Int)} (h : AscQ a) : ∀ {k : Nat}, k ≤ b.length → mergeTo a b k = none → ¬ (a ++ b).Nodup
  | k + 1, hk, e => by
    obtain ⟨x, hx⟩ : ∃ x, b[k]? = some x := ⟨_, List.getElem?_eq_getElem (by omega)⟩
    unfold mergeTo at e
    cases h1 : mergeTo a b k with
    | none => exact merge_none h (by omega) h1
    | some l =>
      rw [h1, hx] at e
      simp only at e
      split at e
      · rename_i hh
        obtain ⟨_, _, i3⟩ := merge_some h h1
        have hm : x ∈ a ++ b.take k := i3.mem_iff.1 (has_mem hh)
        intro hn
        have hb : b = b.take k ++ (x :: b.drop (k + 1)) := by
          have := (List.take_append_drop k b).symm
          rw [List.drop_eq_getElem_cons (by omega)] at this
          have e2 : b[k] = x := (List.getElem?_eq_some_iff.1 hx).2
          rw [e2] at this
          exact this
        rw [hb, ← List.append_assoc] at hn
        exact (List.nodup_append.1 hn).2.2 x hm x (by simp) rfl
      · cases e
theorem mergeTo_stop {a b : List (Int × Int)} {k : Nat} (h : mergeTo a b k = none) : ∀ {m : Nat}, k ≤ m → mergeTo a b m = none
  | m, hm => by
    by_cases e : k = m
    · subst e; exact h
    · obtain ⟨j, rfl⟩ : ∃ j, m = j + 1 := ⟨m - 1, by omega⟩
      unfold mergeTo
      rw [mergeTo_stop h (show k ≤ j by omega)]

/-- what Merge gives: steps, tracks, pins -/
def mergeV (s t : Int) (a : List (Int × Int)) (s' t' : Int) (b : List (Int × Int)) : Option (List (Int × Int)) :=
  if cylB s t a = true ∧ cylB s' t' b = true ∧ s = s' ∧ t = t' then
    match mergeTo a b b.length with
    | some l => if l.length ≤ 100 then some l else none
    | none => none
  else none
/-- a sorted list of the pins of both is valid just if the merging ends well, and then it is what it gives -/
theorem merge_sorted {s t : Int} {a b m : List (Int × Int)} (ha : cylB s t a = true) (hb : cylB s t b = true) (hp : m.Perm (a ++ b)) (hs : m.Pairwise fun p q => lessQ q p = false) :
    mergeV s t a s t b = if cylB s t m = true then some m else none := by
  obtain ⟨a1, a2, a3, a4, a5⟩ := cyl_iff.1 ha
  obtain ⟨b1, b2, b3, b4, b5⟩ := cyl_iff.1 hb
  unfold mergeV
  rw [if_pos ⟨ha, hb, rfl, rfl⟩]
  cases h : mergeTo a b b.length with
  | none =>
    have hn := merge_none a5 (Nat.le_refl _) h
    rw [if_neg]
    intro hc
    exact hn (hp.nodup_iff.1 (asc_nodup (cyl_iff.1 hc).2.2.2.2))
  | some l =>
    obtain ⟨_, i2, i3⟩ := merge_some a5 h
    rw [List.take_length] at i3
    have hlm : l.Perm m := i3.trans hp.symm
    have hm : AscQ m := asc_of_weak hs (hlm.nodup_iff.1 (asc_nodup i2))
    have e := asc_one i2 hm hlm
    subst e
    simp only
    by_cases hl : l.length ≤ 100
    · rw [if_pos hl, if_pos (cyl_iff.2 ⟨a1, a2, hl, fun p hp' => ?_, i2⟩)]
      rcases List.mem_append.1 (i3.mem_iff.1 hp') with h1 | h1
      · exact a4 p h1
      · exact b4 p h1
    · rw [if_neg hl, if_neg]
      intro hc
      exact hl (cyl_iff.1 hc).2.2.1

/-! ### Tracks moved and picked -/

def shP (d k : Int) (p : Int × Int) : Int × Int := (p.1 * d + k, p.2)
def shiftL (d k : Int) (xs : List (Int × Int)) : List (Int × Int) := xs.map (shP d k)
theorem shift_asc {d k : Int} {xs : List (Int × Int)} (hd : 1 ≤ d) (h : AscQ xs) : AscQ (shiftL d k xs) := by
  unfold AscQ shiftL
  rw [List.pairwise_map]
  refine List.Pairwise.imp (fun {p q} hpq => ?_) h
  have hpq : lessQ p q = true := hpq
  unfold lessQ lessN at hpq ⊢
  rw [decide_eq_true_eq] at hpq ⊢
  simp only [sw, shP] at hpq ⊢
  rcases hpq with h1 | ⟨h1, h2⟩
  · exact Or.inl h1
  · right
    refine ⟨h1, ?_⟩
    have := Int.mul_lt_mul_of_pos_right h2 (show 0 < d by omega)
    omega
def shiftB (s t : Int) (xs : List (Int × Int)) (d k : Int) : Bool := cylB s t xs && inB d 1 20 && inB k 0 (d - 1)
/-- what ShiftedTracks gives -/
def shiftV (s t : Int) (xs : List (Int × Int)) (d k : Int) : Option (List (Int × Int)) := if shiftB s t xs d k = true ∧ cylB s 100 (shiftL d k xs) = true then some (shiftL d k xs) else none
def ptP (d : Int) (p : Int × Int) : Int × Int := (p.1 / d, p.2)
def partL (d k : Int) (xs : List (Int × Int)) : List (Int × Int) := (xs.filter fun p => decide (p.1 % d = k)).map (ptP d)

end Go.Proofs.Ytjklobhnidbinaa
