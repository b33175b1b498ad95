/-
  Plain facts on gears that come nearest to a fraction, and on continued fractions. No program in sight; the bounds stand in each lemma.
-/
import Derived.Below
namespace Go.Proofs.Ytiecjmnaphfeaaa

/-- how far x / y is from t / b: the top of the difference -/
def dst (t b x y : Int) : Int := max (x * b - t * y) (-(x * b - t * y))
theorem dst_nn (t b x y : Int) : 0 ≤ dst t b x y := by unfold dst; omega
theorem dst_zero {t b x y : Int} : dst t b x y = 0 ↔ x * b = t * y := by unfold dst; omega

theorem cross_trans {A C E y v s : Int} (hv : 0 < v) (hy : 0 ≤ y) (hs : 0 ≤ s) (h1 : A * v ≤ C * y) (h2 : C * s ≤ E * v) : A * s ≤ E * y := by
  have a1 : A * v * s ≤ C * y * s := Int.mul_le_mul_of_nonneg_right h1 hs
  have a2 : C * s * y ≤ E * v * y := Int.mul_le_mul_of_nonneg_right h2 hy
  have e1 : C * y * s = C * s * y := by rw [Int.mul_assoc, Int.mul_comm y s, ← Int.mul_assoc]
  have e2 : A * v * s = A * s * v := by rw [Int.mul_assoc, Int.mul_comm v s, ← Int.mul_assoc]
  have e3 : E * v * y = E * y * v := by rw [Int.mul_assoc, Int.mul_comm v y, ← Int.mul_assoc]
  have a3 : A * s * v ≤ E * y * v := by omega
  exact Int.le_of_mul_le_mul_right a3 hv

theorem cross_trans_lt {A C E y v s : Int} (hv : 0 < v) (hy : 0 < y) (hs : 0 < s) (h1 : A * v < C * y) (h2 : C * s ≤ E * v) : A * s < E * y := by
  have a1 : A * v * s < C * y * s := Int.mul_lt_mul_of_pos_right h1 hs
  have a2 : C * s * y ≤ E * v * y := Int.mul_le_mul_of_nonneg_right h2 (by omega)
  have e1 : C * y * s = C * s * y := by rw [Int.mul_assoc, Int.mul_comm y s, ← Int.mul_assoc]
  have e2 : A * v * s = A * s * v := by rw [Int.mul_assoc, Int.mul_comm v s, ← Int.mul_assoc]
  have e3 : E * v * y = E * y * v := by rw [Int.mul_assoc, Int.mul_comm v y, ← Int.mul_assoc]
  have a3 : A * s * v < E * y * v := by omega
  exact Int.lt_of_mul_lt_mul_right a3 (by omega)

/-- (x, y) comes before (u, v) -/
def lexB (x y u v : Int) : Prop := x < u ∨ (x = u ∧ y < v)
/-- (u, v) is the first nearest of the pairs that come before (p, q) -/
def NearTo (t b p q u v : Int) : Prop :=
  6 ≤ u ∧ u ≤ 120 ∧ 6 ≤ v ∧ v ≤ 120 ∧
  (∀ x y, 6 ≤ x → x ≤ 120 → 6 ≤ y → y ≤ 120 → lexB x y p q → dst t b u v * y ≤ dst t b x y * v) ∧
  (∀ x y, 6 ≤ x → x ≤ 120 → 6 ≤ y → y ≤ 120 → lexB x y u v → dst t b u v * y < dst t b x y * v)
def NearIs (t b u v : Int) : Prop := NearTo t b 121 6 u v

theorem NearTo.start (t b : Int) : NearTo t b 6 6 6 6 := by
  refine ⟨by omega, by omega, by omega, by omega, fun x y h1 _ h2 _ h => ?_, fun x y h1 _ h2 _ h => ?_⟩ <;> · unfold lexB at h; omega

theorem NearTo.row {t b p u v : Int} (h : NearTo t b p 121 u v) : NearTo t b (p + 1) 6 u v := by
  obtain ⟨h1, h2, h3, h4, h5, h6⟩ := h
  refine ⟨h1, h2, h3, h4, fun x y a1 a2 a3 a4 hl => h5 x y a1 a2 a3 a4 ?_, h6⟩
  unfold lexB at hl ⊢
  omega

theorem NearTo.keep {t b p q u v : Int} (h : NearTo t b p q u v) (hc : ¬ dst t b p q * v < dst t b u v * q) : NearTo t b p (q + 1) u v := by
  obtain ⟨h1, h2, h3, h4, h5, h6⟩ := h
  refine ⟨h1, h2, h3, h4, fun x y a1 a2 a3 a4 hl => ?_, h6⟩
  by_cases e : x = p ∧ y = q
  · obtain ⟨rfl, rfl⟩ := e
    omega
  · refine h5 x y a1 a2 a3 a4 ?_
    unfold lexB at hl ⊢
    omega

theorem NearTo.take {t b p q u v : Int} (h : NearTo t b p q u v) (hp : 6 ≤ p) (hp' : p ≤ 120) (hq : 6 ≤ q) (hq' : q ≤ 120) (hc : dst t b p q * v < dst t b u v * q) : NearTo t b p (q + 1) p q := by
  obtain ⟨h1, h2, h3, h4, h5, h6⟩ := h
  have hlt : ∀ x y, 6 ≤ x → x ≤ 120 → 6 ≤ y → y ≤ 120 → lexB x y p q → dst t b p q * y < dst t b x y * q := fun x y a1 a2 a3 a4 hl =>
    cross_trans_lt (by omega) (by omega) (by omega) hc (h5 x y a1 a2 a3 a4 hl)
  refine ⟨hp, hp', hq, hq', fun x y a1 a2 a3 a4 hl => ?_, hlt⟩
  by_cases e : x = p ∧ y = q
  · obtain ⟨rfl, rfl⟩ := e
    omega
  · refine Int.le_of_lt (hlt x y a1 a2 a3 a4 ?_)
    unfold lexB at hl ⊢
    omega

theorem NearIs.one {t b u v u' v' : Int} (h : NearIs t b u v) (h' : NearIs t b u' v') : u = u' ∧ v = v' := by
  obtain ⟨h1, h2, h3, h4, h5, h6⟩ := h
  obtain ⟨k1, k2, k3, k4, k5, k6⟩ := h'
  by_cases e : lexB u v u' v'
  · have a := k6 u v h1 h2 h3 h4 e
    have b := h5 u' v' k1 k2 k3 k4 (by unfold lexB; omega)
    omega
  · by_cases e' : lexB u' v' u v
    · have a := h6 u' v' k1 k2 k3 k4 e'
      have b := k5 u v h1 h2 h3 h4 (by unfold lexB; omega)
      omega
    · unfold lexB at e e'
      omega

theorem parts_mono {a D D' v y : Int} (ha : 0 < a) (hv : 0 < v) (hy : 0 < y) (h : D * y ≤ D' * v) : D * 1000000 / (a * v) ≤ D' * 1000000 / (a * y) := by
  have hav : 0 < a * v := Int.mul_pos ha hv
  have hay : 0 < a * y := Int.mul_pos ha hy
  rw [Int.le_ediv_iff_mul_le hay]
  have h1 : D * 1000000 / (a * v) * (a * v) ≤ D * 1000000 := Int.ediv_mul_le _ (by omega)
  generalize D * 1000000 / (a * v) = q at h1 ⊢
  have h2 : q * (a * v) * y ≤ D * 1000000 * y := Int.mul_le_mul_of_nonneg_right h1 (by omega)
  have h3 : D * y * 1000000 ≤ D' * v * 1000000 := Int.mul_le_mul_of_nonneg_right h (by omega)
  have e1 : q * (a * v) * y = q * (a * y) * v := by
    rw [← Int.mul_assoc, ← Int.mul_assoc, Int.mul_assoc (q * a) v y, Int.mul_comm v y, ← Int.mul_assoc]
  have e2 : D * 1000000 * y = D * y * 1000000 := by rw [Int.mul_assoc, Int.mul_comm 1000000 y, ← Int.mul_assoc]
  have e3 : D' * v * 1000000 = D' * 1000000 * v := by rw [Int.mul_assoc, Int.mul_comm v 1000000, ← Int.mul_assoc]
  have h4 : q * (a * y) * v ≤ D' * 1000000 * v := by omega
  exact Int.le_of_mul_le_mul_right h4 hv

/-! ### Continued fractions -/

/-- the quotients of a / b, by fuel -/
def cfl : Nat → Int → Int → List Int
  | 0, _, _ => []
  | k + 1, a, b => if 0 < b then a / b :: cfl k b (a % b) else []
def cf (a b : Int) : List Int := cfl (b.toNat + 1) a b

theorem cfl_more : ∀ (k j : Nat) (a b : Int), 0 ≤ b → b.toNat < k → b.toNat < j → cfl k a b = cfl j a b
  | 0, _, _, _, _, h, _ => absurd h (by omega)
  | _, 0, _, _, _, _, h => absurd h (by omega)
  | k + 1, j + 1, a, b, hb, h1, h2 => by
    unfold cfl
    by_cases h : 0 < b
    · rw [if_pos h, if_pos h]
      have m0 := Int.emod_nonneg a (show b ≠ 0 by omega)
      have m1 := Int.emod_lt_of_pos a h
      rw [cfl_more k j b (a % b) m0 (by omega) (by omega)]
    · rw [if_neg h, if_neg h]
theorem cf_nil {a b : Int} (h : b ≤ 0) : cf a b = [] := by
  unfold cf cfl
  rw [if_neg (by omega)]
theorem cf_cons {a b : Int} (h : 0 < b) : cf a b = a / b :: cf b (a % b) := by
  have m0 := Int.emod_nonneg a (show b ≠ 0 by omega)
  have m1 := Int.emod_lt_of_pos a h
  show cfl (b.toNat + 1) a b = _
  rw [show cfl (b.toNat + 1) a b = if 0 < b then a / b :: cfl b.toNat b (a % b) else [] from rfl, if_pos h]
  rw [cfl_more b.toNat ((a % b).toNat + 1) b (a % b) m0 (by omega) (by omega)]
  rfl
theorem cf_length : ∀ (k : Nat) (a b : Int), 0 ≤ b → b.toNat ≤ k → (cf a b).length ≤ k
  | 0, a, b, hb, h => by rw [cf_nil (by omega)]; simp
  | k + 1, a, b, hb, h => by
    by_cases h0 : 0 < b
    · have m0 := Int.emod_nonneg a (show b ≠ 0 by omega)
      have m1 := Int.emod_lt_of_pos a h0
      rw [cf_cons h0]
      have := cf_length k b (a % b) m0 (by omega)
      simp
      omega
    · rw [cf_nil (by omega)]; simp

/-- what FractionOf reckons from the end of the list; none where a number grows above 1000000 -/
def frS : List Int → Option (Int × Int)
  | [] => none
  | [q] => some (q, 1)
  | q :: r :: l =>
    match frS (r :: l) with
    | none => none
    | some (t, b) => if 1000000 < q * t + b ∨ 1000000 < t then none else some (q * t + b, t)

theorem frS_cons {q t b : Int} {l : List Int} (h : frS l = some (t, b)) : frS (q :: l) = if 1000000 < q * t + b ∨ 1000000 < t then none else some (q * t + b, t) := by
  cases l with
  | nil => simp [frS] at h
  | cons r l => simp only [frS, h]

/-- the first number from 0 to 1000, the others from 1 to 1000; one to twelve of them -/
def quotB (l : List Int) : Bool := decide (1 ≤ l.length) && decide (l.length ≤ 12) && decide (0 ≤ l.headD 0 ∧ l.headD 0 ≤ 1000) && l.tail.all fun q => decide (1 ≤ q) && decide (q ≤ 1000)
def FracZ (l : List Int) : Int × Int × Bool := if quotB l = true then (match frS l with | some (t, b) => (t, b, true) | none => (0, 0, false)) else (0, 0, false)

theorem frS_cf : ∀ (k : Nat) (a b : Int), b.toNat ≤ k → 0 < b → b ≤ 200 → 0 ≤ a → a ≤ 200 → ∃ t d g, frS (cf a b) = some (t, d) ∧ t * g = a ∧ d * g = b ∧ 0 < g ∧ 0 ≤ t ∧ t ≤ a ∧ 0 ≤ d ∧ d ≤ b
  | 0, _, b, h, h0, _, _, _ => absurd h0 (by omega)
  | k + 1, a, b, h, h0, hb, ha0, ha => by
    have m0 := Int.emod_nonneg a (show b ≠ 0 by omega)
    have m1 := Int.emod_lt_of_pos a h0
    have ed := Int.mul_ediv_add_emod a b
    have q0 : 0 ≤ a / b := Int.ediv_nonneg ha0 (by omega)
    have q1 : a / b ≤ a := Int.ediv_le_self b ha0
    rw [cf_cons h0]
    by_cases hz : a % b = 0
    · rw [cf_nil (show a % b ≤ 0 by omega)]
      have e : a / b * b = a := by rw [Int.mul_comm]; omega
      exact ⟨a / b, 1, b, rfl, e, by omega, h0, q0, q1, by omega, by omega⟩
    · obtain ⟨t, d, g, hf, ht, hd, hg, ht0, ht1, hd0, hd1⟩ := frS_cf k b (a % b) (by omega) (by omega) (by omega) (by omega) hb
      have e : (a / b * t + d) * g = a := by
        rw [Int.add_mul, Int.mul_assoc, ht, hd, Int.mul_comm]
        omega
      have n0 : 0 ≤ a / b * t := Int.mul_nonneg q0 ht0
      have le : a / b * t + d ≤ a := by
        have : (a / b * t + d) * 1 ≤ (a / b * t + d) * g := Int.mul_le_mul_of_nonneg_left (by omega) (by omega)
        omega
      refine ⟨a / b * t + d, t, g, ?_, e, ht, hg, by omega, le, ht0, ht1⟩
      rw [frS_cons hf, if_neg (by omega)]

theorem cf_tail : ∀ (k : Nat) (a b : Int), b.toNat ≤ k → 0 < b → b ≤ 200 → ∀ q ∈ (cf a b).tail, 1 ≤ q ∧ q ≤ 200
  | 0, _, b, h, h0, _ => absurd h0 (by omega)
  | k + 1, a, b, h, h0, hb => by
    have m0 := Int.emod_nonneg a (show b ≠ 0 by omega)
    have m1 := Int.emod_lt_of_pos a h0
    rw [cf_cons h0]
    intro q hq
    simp only [List.tail_cons] at hq
    by_cases hz : a % b = 0
    · rw [cf_nil (show a % b ≤ 0 by omega)] at hq
      simp at hq
    · have hp : 0 < a % b := by omega
      have ht := cf_tail k b (a % b) (by omega) hp (by omega)
      rw [cf_cons hp] at hq ht
      simp only [List.tail_cons] at ht
      rcases List.mem_cons.1 hq with rfl | hq
      · refine ⟨?_, ?_⟩
        · rw [Int.le_ediv_iff_mul_le hp]; omega
        · have := Int.ediv_le_self (a % b) (show 0 ≤ b by omega); omega
      · exact ht q hq

theorem frac_back {t d g a b : Int} (h1 : t * g = a) (h2 : d * g = b) : t * b = a * d := by
  rw [← h1, ← h2, Int.mul_assoc, Int.mul_comm g d]

end Go.Proofs.Ytiecjmnaphfeaaa
