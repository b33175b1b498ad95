/-
  Plain facts on trains of gears: products, the greatest common divisor, turns. No program in sight; the bounds stand in each lemma.
-/
import Derived.Below
namespace Go.Proofs.Ytbiokfgkiillkaa

def gearB (a b : Int) : Bool := decide (6 ≤ a ∧ a ≤ 120) && decide (6 ≤ b ∧ b ≤ 120)
theorem gearB_iff {a b : Int} : gearB a b = true ↔ 6 ≤ a ∧ a ≤ 120 ∧ 6 ≤ b ∧ b ≤ 120 := by simp [gearB]; omega
theorem gearB_no {a b : Int} (h : gearB a b = false) : ¬ (6 ≤ a ∧ a ≤ 120 ∧ 6 ≤ b ∧ b ≤ 120) := fun k => by rw [gearB_iff.2 k] at h; cases h

def topP : List (Int × Int) → Int
  | [] => 1
  | g :: l => g.1 * topP l
def botP : List (Int × Int) → Int
  | [] => 1
  | g :: l => g.2 * botP l
def swapL (l : List (Int × Int)) : List (Int × Int) := (l.map fun g => (g.2, g.1)).reverse
def trainB (l : List (Int × Int)) : Bool := decide (l.length ≤ 4) && l.all fun g => gearB g.1 g.2

theorem topP_snoc : ∀ (l : List (Int × Int)) (g : Int × Int), topP (l ++ [g]) = topP l * g.1
  | [], g => by simp [topP]
  | h :: l, g => by simp only [List.cons_append, topP, topP_snoc l g]; rw [Int.mul_assoc]
theorem botP_snoc : ∀ (l : List (Int × Int)) (g : Int × Int), botP (l ++ [g]) = botP l * g.2
  | [], g => by simp [botP]
  | h :: l, g => by simp only [List.cons_append, botP, botP_snoc l g]; rw [Int.mul_assoc]
theorem topP_swap : ∀ l : List (Int × Int), topP (swapL l) = botP l
  | [] => rfl
  | g :: l => by
    have h := topP_swap l
    unfold swapL at h ⊢
    rw [List.map_cons, List.reverse_cons, topP_snoc, h, Int.mul_comm]
    rfl
theorem botP_swap : ∀ l : List (Int × Int), botP (swapL l) = topP l
  | [] => rfl
  | g :: l => by
    have h := botP_swap l
    unfold swapL at h ⊢
    rw [List.map_cons, List.reverse_cons, botP_snoc, h, Int.mul_comm]
    rfl

theorem mul_grow {x a : Int} {k : Nat} {m : Int} (hx : 1 ≤ x) (hxm : x ≤ m) (ha : 1 ≤ a) (hk : a ≤ k) : 1 ≤ x * a ∧ x * a ≤ m * k := by
  have h1 : 1 * 1 ≤ x * a := Int.mul_le_mul hx ha (by omega) (by omega)
  have h2 : x * a ≤ m * k := Int.mul_le_mul hxm hk (by omega) (by omega)
  omega

theorem prod_bd : ∀ (l : List (Int × Int)), (∀ g ∈ l, gearB g.1 g.2 = true) → 1 ≤ topP l ∧ topP l ≤ 120 ^ l.length ∧ 1 ≤ botP l ∧ botP l ≤ 120 ^ l.length
  | [], _ => by simp [topP, botP]
  | g :: l, h => by
    obtain ⟨a, b, c, d⟩ := prod_bd l fun x hx => h x (List.mem_cons_of_mem _ hx)
    have hg := gearB_iff.1 (h g (List.mem_cons_self ..))
    have e : (120 : Int) ^ (g :: l).length = 120 * 120 ^ l.length := by rw [List.length_cons, Int.pow_succ, Int.mul_comm]
    rw [e]
    simp only [topP, botP]
    have x1 : 1 * 1 ≤ g.1 * topP l := Int.mul_le_mul (by omega) a (by omega) (by omega)
    have x2 : g.1 * topP l ≤ 120 * 120 ^ l.length := Int.mul_le_mul (by omega) b (by omega) (by omega)
    have x3 : 1 * 1 ≤ g.2 * botP l := Int.mul_le_mul (by omega) c (by omega) (by omega)
    have x4 : g.2 * botP l ≤ 120 * 120 ^ l.length := Int.mul_le_mul (by omega) d (by omega) (by omega)
    omega

theorem pow_le4 {n : Nat} (h : n ≤ 4) : (120 : Int) ^ n ≤ 207360000 := by
  match n, h with
  | 0, _ => decide
  | 1, _ => decide
  | 2, _ => decide
  | 3, _ => decide
  | 4, _ => decide

theorem train_bd {l : List (Int × Int)} (h : ∀ g ∈ l, gearB g.1 g.2 = true) (hn : l.length ≤ 4) : 1 ≤ topP l ∧ topP l ≤ 207360000 ∧ 1 ≤ botP l ∧ botP l ≤ 207360000 := by
  have a := prod_bd l h
  have b := pow_le4 hn
  omega

/-- the greatest common divisor, as a number -/
def gcdZ (a b : Int) : Int := (Nat.gcd a.toNat b.toNat : Nat)
theorem gcdZ_zero (a : Int) (h : 0 ≤ a) : gcdZ a 0 = a := by unfold gcdZ; simp; omega
theorem gcdZ_step {a b : Int} (ha : 0 ≤ a) (hb : 0 < b) : gcdZ b (a % b) = gcdZ a b := by
  unfold gcdZ
  have e : (a % b).toNat = a.toNat % b.toNat := by
    obtain ⟨m, rfl⟩ := Int.eq_ofNat_of_zero_le ha
    obtain ⟨n, rfl⟩ := Int.eq_ofNat_of_zero_le (Int.le_of_lt hb)
    rw [← Int.natCast_emod, Int.toNat_natCast, Int.toNat_natCast, Int.toNat_natCast]
  rw [e, Nat.gcd_comm a.toNat b.toNat, Nat.gcd_rec b.toNat a.toNat, Nat.gcd_comm]
theorem gcdZ_comm (a b : Int) : gcdZ a b = gcdZ b a := by unfold gcdZ; rw [Nat.gcd_comm]
theorem gcdZ_pos {a b : Int} (h : 0 < a) : 1 ≤ gcdZ a b := by
  unfold gcdZ
  have : 0 < Nat.gcd a.toNat b.toNat := Nat.gcd_pos_of_pos_left _ (by omega)
  omega
theorem gcdZ_nn (a b : Int) : 0 ≤ gcdZ a b := by unfold gcdZ; omega
theorem gcdZ_dvd_left {a b : Int} (h : 0 ≤ a) : gcdZ a b ∣ a := by
  unfold gcdZ
  obtain ⟨m, rfl⟩ := Int.eq_ofNat_of_zero_le h
  rw [Int.toNat_natCast]
  exact Int.natCast_dvd_natCast.2 (Nat.gcd_dvd_left _ _)
theorem gcdZ_dvd_right {a b : Int} (h : 0 ≤ b) : gcdZ a b ∣ b := by rw [gcdZ_comm]; exact gcdZ_dvd_left h
theorem gcdZ_le {a b : Int} (h : 0 < a) : gcdZ a b ≤ a := Int.le_of_dvd h (gcdZ_dvd_left (by omega))

/-- the two numbers of a train's ratio; two noughts where the train is not valid -/
def ratTop (l : List (Int × Int)) : Int := if trainB l = true then topP l / gcdZ (topP l) (botP l) else 0
def ratBot (l : List (Int × Int)) : Int := if trainB l = true then botP l / gcdZ (topP l) (botP l) else 0
theorem trainB_iff {l : List (Int × Int)} : trainB l = true ↔ l.length ≤ 4 ∧ ∀ g ∈ l, gearB g.1 g.2 = true := by simp [trainB]
theorem trainB_swap (l : List (Int × Int)) : trainB (swapL l) = trainB l := by
  rw [Bool.eq_iff_iff, trainB_iff, trainB_iff]
  unfold swapL
  simp only [List.length_reverse, List.length_map, List.mem_reverse, List.mem_map]
  refine and_congr Iff.rfl ⟨fun h g hg => ?_, ?_⟩
  · have := gearB_iff.1 (h (g.2, g.1) ⟨g, hg, rfl⟩)
    exact gearB_iff.2 (by simp only at this; omega)
  · rintro h _ ⟨g, hg, rfl⟩
    have := gearB_iff.1 (h g hg)
    exact gearB_iff.2 (by simp only; omega)
theorem ratTop_swap (l : List (Int × Int)) : ratTop (swapL l) = ratBot l := by
  unfold ratTop ratBot
  rw [trainB_swap, topP_swap, botP_swap, gcdZ_comm]
theorem ratBot_swap (l : List (Int × Int)) : ratBot (swapL l) = ratTop l := by
  unfold ratTop ratBot
  rw [trainB_swap, topP_swap, botP_swap, gcdZ_comm]
theorem rat_pos {l : List (Int × Int)} (h : trainB l = true) : 1 ≤ ratTop l ∧ ratTop l ≤ 207360000 ∧ 1 ≤ ratBot l ∧ ratBot l ≤ 207360000 := by
  obtain ⟨h1, h2⟩ := trainB_iff.1 h
  obtain ⟨a, b, c, d⟩ := train_bd h2 h1
  have g1 := gcdZ_pos (b := botP l) (show 0 < topP l by omega)
  have l1 := gcdZ_le (b := botP l) (show 0 < topP l by omega)
  have l2 : gcdZ (topP l) (botP l) ≤ botP l := by rw [gcdZ_comm]; exact gcdZ_le (by omega)
  unfold ratTop ratBot
  rw [if_pos h, if_pos h]
  refine ⟨?_, ?_, ?_, ?_⟩
  · rw [Int.le_ediv_iff_mul_le (by omega)]; omega
  · have := Int.ediv_le_self (gcdZ (topP l) (botP l)) (show 0 ≤ topP l by omega); omega
  · rw [Int.le_ediv_iff_mul_le (by omega)]; omega
  · have := Int.ediv_le_self (gcdZ (topP l) (botP l)) (show 0 ≤ botP l by omega); omega
theorem rat_no {l : List (Int × Int)} (h : trainB l = false) : ratTop l = 0 ∧ ratBot l = 0 := by simp [ratTop, ratBot, h]

/-- the two numbers of a ratio have no common divisor -/
theorem rat_coprime {l : List (Int × Int)} (h : trainB l = true) : Nat.gcd (ratTop l).toNat (ratBot l).toNat = 1 := by
  obtain ⟨h1, h2⟩ := trainB_iff.1 h
  obtain ⟨a, b, c, d⟩ := train_bd h2 h1
  unfold ratTop ratBot
  rw [if_pos h, if_pos h]
  generalize topP l = x at *
  generalize botP l = y at *
  obtain ⟨m, rfl⟩ := Int.eq_ofNat_of_zero_le (show 0 ≤ x by omega)
  obtain ⟨n, rfl⟩ := Int.eq_ofNat_of_zero_le (show 0 ≤ y by omega)
  unfold gcdZ
  simp only [Int.toNat_natCast]
  rw [← Int.natCast_ediv, ← Int.natCast_ediv, Int.toNat_natCast, Int.toNat_natCast]
  have hg : 0 < Nat.gcd m n := Nat.gcd_pos_of_pos_left _ (by omega)
  rw [Nat.gcd_div (Nat.gcd_dvd_left _ _) (Nat.gcd_dvd_right _ _)]
  exact Nat.div_self hg

/-- fewer turns than the bottom are no whole number of turns -/
theorem no_less {l : List (Int × Int)} (h : trainB l = true) {k : Int} (h0 : 0 < k) (hk : k < ratBot l) : k * ratTop l % ratBot l ≠ 0 := by
  intro hz
  obtain ⟨p1, p2, p3, p4⟩ := rat_pos h
  have hc := rat_coprime h
  generalize ratTop l = x at *
  generalize ratBot l = y at *
  obtain ⟨m, rfl⟩ := Int.eq_ofNat_of_zero_le (show 0 ≤ x by omega)
  obtain ⟨n, rfl⟩ := Int.eq_ofNat_of_zero_le (show 0 ≤ y by omega)
  obtain ⟨j, rfl⟩ := Int.eq_ofNat_of_zero_le (show 0 ≤ k by omega)
  simp only [Int.toNat_natCast] at hc
  have hd : (n : Int) ∣ ((j * m : Nat) : Int) := by rw [Int.natCast_mul]; exact Int.dvd_of_emod_eq_zero hz
  have hd' : n ∣ j * m := Int.natCast_dvd_natCast.1 hd
  have h3 : n ∣ j := Nat.Coprime.dvd_of_dvd_mul_right (by rw [Nat.Coprime, Nat.gcd_comm]; exact hc) hd'
  have := Nat.le_of_dvd (by omega) h3
  omega

end Go.Proofs.Ytbiokfgkiillkaa
