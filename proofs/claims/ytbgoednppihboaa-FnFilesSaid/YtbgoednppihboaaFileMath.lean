/-
  Plain facts on a tooth that is filed: the fewest steps to a tone, and the closest tone. No program in sight; the bounds stand in each lemma.
-/
import Derived.Below
namespace Go.Proofs.Ytbgoednppihboaa

/-- tone z, tip t, root r: in range -/
def tooB (z t r : Int) : Bool := decide (0 ≤ z ∧ z ≤ 6000) && decide (0 ≤ t ∧ t ≤ 20) && decide (0 ≤ r ∧ r ≤ 20)
theorem tooB_iff {z t r : Int} : tooB z t r = true ↔ 0 ≤ z ∧ z ≤ 6000 ∧ 0 ≤ t ∧ t ≤ 20 ∧ 0 ≤ r ∧ r ≤ 20 := by simp [tooB]; omega
theorem tooB_no {z t r : Int} (h : tooB z t r = false) : ¬ (0 ≤ z ∧ z ≤ 6000 ∧ 0 ≤ t ∧ t ≤ 20 ∧ 0 ≤ r ∧ r ≤ 20) := fun k => by rw [tooB_iff.2 k] at h; cases h

/-- (a, b) is a way to the tone -/
def hitZ (z goal a b : Int) : Prop := z + 7 * a - 11 * b = goal
/-- what StepsTo gives: the fewest steps, or none -/
def StepsToIs (z t r goal a b : Int) (ok : Bool) : Prop :=
  (ok = true ∧ 0 ≤ a ∧ a ≤ t ∧ 0 ≤ b ∧ b ≤ r ∧ hitZ z goal a b ∧ ∀ x y, 0 ≤ x → x ≤ t → 0 ≤ y → y ≤ r → hitZ z goal x y → a + b ≤ x + y) ∨
  (ok = false ∧ a = 0 ∧ b = 0 ∧ ∀ x y, 0 ≤ x → x ≤ t → 0 ≤ y → y ≤ r → ¬ hitZ z goal x y)
theorem StepsToIs.one {z t r goal a b a' b' : Int} {ok ok' : Bool} (h : StepsToIs z t r goal a b ok) (h' : StepsToIs z t r goal a' b' ok') : a = a' ∧ b = b' ∧ ok = ok' := by
  rcases h with ⟨rfl, h1, h2, h3, h4, h5, h6⟩ | ⟨rfl, rfl, rfl, h6⟩ <;> rcases h' with ⟨rfl, k1, k2, k3, k4, k5, k6⟩ | ⟨rfl, rfl, rfl, k6⟩
  · have x := h6 a' b' k1 k2 k3 k4 k5
    have y := k6 a b h1 h2 h3 h4 h5
    unfold hitZ at h5 k5
    refine ⟨by omega, by omega, rfl⟩
  · exact absurd h5 (k6 a b h1 h2 h3 h4)
  · exact absurd k5 (h6 a' b' k1 k2 k3 k4)
  · exact ⟨rfl, rfl, rfl⟩
def StepsToOf (z t r goal a b : Int) (ok : Bool) : Prop := if tooB z t r = true ∧ 0 ≤ goal ∧ goal ≤ 6000 then StepsToIs z t r goal a b ok else a = 0 ∧ b = 0 ∧ ok = false
theorem StepsToOf.one {z t r goal a b a' b' : Int} {ok ok' : Bool} (h : StepsToOf z t r goal a b ok) (h' : StepsToOf z t r goal a' b' ok') : a = a' ∧ b = b' ∧ ok = ok' := by
  unfold StepsToOf at h h'
  split at h
  · rename_i hc
    rw [if_pos hc] at h'
    exact h.one h'
  · rename_i hc
    rw [if_neg hc] at h'
    obtain ⟨rfl, rfl, rfl⟩ := h
    obtain ⟨rfl, rfl, rfl⟩ := h'
    exact ⟨rfl, rfl, rfl⟩

/-- what impl.StepsTo holds when (p, q) is next -/
def StepsRun (z t r goal p q a b : Int) (ok : Bool) : Prop :=
  (ok = true ∧ 0 ≤ a ∧ a ≤ t ∧ 0 ≤ b ∧ b ≤ r ∧ hitZ z goal a b ∧ ∀ x y, 0 ≤ x → x ≤ t → 0 ≤ y → y ≤ r → (x < p ∨ (x = p ∧ y < q)) → hitZ z goal x y → a + b ≤ x + y) ∨
  (ok = false ∧ a = 0 ∧ b = 0 ∧ ∀ x y, 0 ≤ x → x ≤ t → 0 ≤ y → y ≤ r → (x < p ∨ (x = p ∧ y < q)) → ¬ hitZ z goal x y)
theorem StepsRun.start (z t r goal : Int) : StepsRun z t r goal 0 0 0 0 false := .inr ⟨rfl, rfl, rfl, fun x y _ _ _ _ h => by omega⟩
theorem StepsRun.row {z t r goal p a b : Int} {ok : Bool} {q : Int} (h : StepsRun z t r goal p q a b ok) (hq : r < q) : StepsRun z t r goal (p + 1) 0 a b ok := by
  rcases h with ⟨rfl, h1, h2, h3, h4, h5, h6⟩ | ⟨rfl, rfl, rfl, h6⟩
  · exact .inl ⟨rfl, h1, h2, h3, h4, h5, fun x y a1 a2 a3 a4 hl => h6 x y a1 a2 a3 a4 (by omega)⟩
  · exact .inr ⟨rfl, rfl, rfl, fun x y a1 a2 a3 a4 hl => h6 x y a1 a2 a3 a4 (by omega)⟩
theorem StepsRun.keep {z t r goal p q a b : Int} {ok : Bool} (h : StepsRun z t r goal p q a b ok) (hc : ¬ (hitZ z goal p q ∧ (ok = false ∨ p + q < a + b))) : StepsRun z t r goal p (q + 1) a b ok := by
  rcases h with ⟨rfl, h1, h2, h3, h4, h5, h6⟩ | ⟨rfl, rfl, rfl, h6⟩
  · refine .inl ⟨rfl, h1, h2, h3, h4, h5, fun x y a1 a2 a3 a4 hl hh => ?_⟩
    by_cases e : x = p ∧ y = q
    · obtain ⟨rfl, rfl⟩ := e
      rcases Int.lt_or_le (x + y) (a + b) with hlt | hle
      · exact absurd ⟨hh, .inr hlt⟩ hc
      · exact hle
    · exact h6 x y a1 a2 a3 a4 (by omega) hh
  · refine .inr ⟨rfl, rfl, rfl, fun x y a1 a2 a3 a4 hl hh => ?_⟩
    by_cases e : x = p ∧ y = q
    · obtain ⟨rfl, rfl⟩ := e
      exact hc ⟨hh, .inl rfl⟩
    · exact h6 x y a1 a2 a3 a4 (by omega) hh
theorem StepsRun.take {z t r goal p q a b : Int} {ok : Bool} (h : StepsRun z t r goal p q a b ok) (hp : 0 ≤ p) (hp' : p ≤ t) (hq : 0 ≤ q) (hq' : q ≤ r) (hh : hitZ z goal p q) (hc : ok = false ∨ p + q < a + b) :
    StepsRun z t r goal p (q + 1) p q true := by
  refine .inl ⟨rfl, hp, hp', hq, hq', hh, fun x y a1 a2 a3 a4 hl hx => ?_⟩
  by_cases e : x = p ∧ y = q
  · obtain ⟨rfl, rfl⟩ := e
    omega
  · rcases h with ⟨rfl, h1, h2, h3, h4, h5, h6⟩ | ⟨rfl, rfl, rfl, h6⟩
    · have := h6 x y a1 a2 a3 a4 (by omega) hx
      rcases hc with hc | hc
      · cases hc
      · omega
    · exact absurd hx (h6 x y a1 a2 a3 a4 (by omega))
theorem StepsRun.done {z t r goal p q a b : Int} {ok : Bool} (h : StepsRun z t r goal p q a b ok) (hp : t < p) : StepsToIs z t r goal a b ok := by
  rcases h with ⟨rfl, h1, h2, h3, h4, h5, h6⟩ | ⟨rfl, rfl, rfl, h6⟩
  · exact .inl ⟨rfl, h1, h2, h3, h4, h5, fun x y a1 a2 a3 a4 => h6 x y a1 a2 a3 a4 (by omega)⟩
  · exact .inr ⟨rfl, rfl, rfl, fun x y a1 a2 a3 a4 => h6 x y a1 a2 a3 a4 (by omega)⟩

/-- what spec.StepsTo holds when sum n, first number p is next: no way before -/
def StepsSum (z t r goal n p : Int) : Prop := ∀ x y, 0 ≤ x → x ≤ t → 0 ≤ y → y ≤ r → (x + y < n ∨ (x + y = n ∧ x < p)) → ¬ hitZ z goal x y
theorem StepsSum.hit {z t r goal n p : Int} (h : StepsSum z t r goal n p) (hp : 0 ≤ p) (hp' : p ≤ t) (hq : 0 ≤ n - p) (hq' : n - p ≤ r) (hh : hitZ z goal p (n - p)) : StepsToIs z t r goal p (n - p) true := by
  refine .inl ⟨rfl, hp, hp', hq, hq', hh, fun x y a1 a2 a3 a4 hx => ?_⟩
  rcases Int.lt_or_le (x + y) (p + (n - p)) with hlt | hle
  · exact absurd hx (h x y a1 a2 a3 a4 (by omega))
  · exact hle
theorem StepsSum.none {z t r goal n p : Int} (h : StepsSum z t r goal n p) (hn : t + r < n) : StepsToIs z t r goal 0 0 false :=
  .inr ⟨rfl, rfl, rfl, fun x y a1 a2 a3 a4 => h x y a1 a2 a3 a4 (by omega)⟩
theorem StepsSum.next {z t r goal n p : Int} (h : StepsSum z t r goal n p) (hn : ¬ (p ≤ t ∧ n - p ≤ r ∧ hitZ z goal p (n - p))) : StepsSum z t r goal n (p + 1) := by
  intro x y a1 a2 a3 a4 hl hx
  by_cases e : x + y = n ∧ x = p
  · obtain ⟨e1, rfl⟩ := e
    have ey : y = n - x := by omega
    subst ey
    exact hn ⟨a2, a4, hx⟩
  · exact h x y a1 a2 a3 a4 (by omega) hx
theorem StepsSum.row {z t r goal n p : Int} (h : StepsSum z t r goal n p) (hp : n < p) : StepsSum z t r goal (n + 1) 0 := by
  intro x y a1 a2 a3 a4 hl
  exact h x y a1 a2 a3 a4 (by omega)

/-! ### The closest tone -/
/-- x is at least as good as y: nearer, or as near and not above -/
def better (goal x y : Int) : Prop := max (x - goal) (goal - x) < max (y - goal) (goal - y) ∨ (max (x - goal) (goal - x) = max (y - goal) (goal - y) ∧ x ≤ y)
/-- c can be had -/
def canBe (z t r c : Int) : Prop := 0 ≤ c ∧ c ≤ 6000 ∧ ∃ x y, 0 ≤ x ∧ x ≤ t ∧ 0 ≤ y ∧ y ≤ r ∧ c = z + 7 * x - 11 * y
def ClosestIs (z t r goal c : Int) : Prop := canBe z t r c ∧ ∀ d, canBe z t r d → better goal c d
theorem ClosestIs.one {z t r goal c c' : Int} (h : ClosestIs z t r goal c) (h' : ClosestIs z t r goal c') : c = c' := by
  have a := h.2 c' h'.1
  have b := h'.2 c h.1
  unfold better at a b
  omega
def ClosestOf (z t r goal c : Int) : Prop := if tooB z t r = true ∧ 0 ≤ goal ∧ goal ≤ 6000 then ClosestIs z t r goal c else c = -1
theorem ClosestOf.one {z t r goal c c' : Int} (h : ClosestOf z t r goal c) (h' : ClosestOf z t r goal c') : c = c' := by
  unfold ClosestOf at h h'
  split at h
  · rename_i hc
    rw [if_pos hc] at h'
    exact h.one h'
  · rename_i hc
    rw [if_neg hc] at h'
    rw [h, h']
/-- what a run holds when (p, q) is next -/
def ClosestRun (z t r goal p q c : Int) : Prop := canBe z t r c ∧ ∀ x y, 0 ≤ x → x ≤ t → 0 ≤ y → y ≤ r → (x < p ∨ (x = p ∧ y < q)) → 0 ≤ z + 7 * x - 11 * y → z + 7 * x - 11 * y ≤ 6000 → better goal c (z + 7 * x - 11 * y)
theorem better_refl (goal c : Int) : better goal c c := .inr ⟨rfl, Int.le_refl _⟩
theorem ClosestRun.start {z t r goal : Int} (h : tooB z t r = true) : ClosestRun z t r goal 0 0 z := by
  have := tooB_iff.1 h
  exact ⟨⟨by omega, by omega, 0, 0, by omega, by omega, by omega, by omega, by omega⟩, fun x y _ _ _ _ h => by omega⟩
theorem ClosestRun.row {z t r goal p q c : Int} (h : ClosestRun z t r goal p q c) (hq : r < q) : ClosestRun z t r goal (p + 1) 0 c :=
  ⟨h.1, fun x y a1 a2 a3 a4 hl => h.2 x y a1 a2 a3 a4 (by omega)⟩
theorem ClosestRun.keep {z t r goal p q c : Int} (h : ClosestRun z t r goal p q c) (hc : 0 ≤ z + 7 * p - 11 * q → z + 7 * p - 11 * q ≤ 6000 → better goal c (z + 7 * p - 11 * q)) : ClosestRun z t r goal p (q + 1) c := by
  refine ⟨h.1, fun x y a1 a2 a3 a4 hl b1 b2 => ?_⟩
  by_cases e : x = p ∧ y = q
  · obtain ⟨rfl, rfl⟩ := e
    exact hc b1 b2
  · exact h.2 x y a1 a2 a3 a4 (by omega) b1 b2
theorem better_trans {goal a b c : Int} (h : better goal a b) (k : better goal b c) : better goal a c := by
  unfold better at *
  omega
theorem ClosestRun.take {z t r goal p q c : Int} (h : ClosestRun z t r goal p q c) (hp : 0 ≤ p) (hp' : p ≤ t) (hq : 0 ≤ q) (hq' : q ≤ r) (b1 : 0 ≤ z + 7 * p - 11 * q) (b2 : z + 7 * p - 11 * q ≤ 6000)
    (hc : better goal (z + 7 * p - 11 * q) c) : ClosestRun z t r goal p (q + 1) (z + 7 * p - 11 * q) := by
  refine ⟨⟨b1, b2, p, q, hp, hp', hq, hq', rfl⟩, fun x y a1 a2 a3 a4 hl d1 d2 => ?_⟩
  by_cases e : x = p ∧ y = q
  · obtain ⟨rfl, rfl⟩ := e
    exact better_refl _ _
  · exact better_trans hc (h.2 x y a1 a2 a3 a4 (by omega) d1 d2)
theorem ClosestRun.done {z t r goal p q c : Int} (h : ClosestRun z t r goal p q c) (hp : t < p) : ClosestIs z t r goal c := by
  refine ⟨h.1, ?_⟩
  rintro d ⟨d1, d2, x, y, a1, a2, a3, a4, rfl⟩
  exact h.2 x y a1 a2 a3 a4 (by omega) d1 d2

end Go.Proofs.Ytbgoednppihboaa
