/-
  Plain facts on a governor's speed: one step, many steps, the steady speed. No program in sight; the bounds stand in each lemma.
-/
import Derived.Test.YtcnnkdpfigckoaaNum
namespace Go.Proofs.Ytcnnkdpfigckoaa

/-- the three arguments of a step are in range -/
def govB (v f b : Int) : Bool := inB v 0 100000 && inB f 0 10000 && inB b 0 100
theorem govB_true {v f b : Int} (h : govB v f b = true) : 0 ≤ v ∧ v ≤ 100000 ∧ 0 ≤ f ∧ f ≤ 10000 ∧ 0 ≤ b ∧ b ≤ 100 := by
  simp [govB, inB] at h
  omega

/-- one step, before it is cut -/
def nxt (v f b : Int) : Int := v + f - b * v / 100
theorem mul_bd {b v : Int} (hb0 : 0 ≤ b) (hb : b ≤ 100) (hv0 : 0 ≤ v) (hv : v ≤ 100000) : 0 ≤ b * v ∧ b * v ≤ 100 * v ∧ b * v ≤ 10000000 := by
  have h1 : 0 ≤ b * v := Int.mul_nonneg hb0 hv0
  have h2 : b * v ≤ 100 * v := Int.mul_le_mul_of_nonneg_right hb hv0
  omega
theorem nxt_bd {v f b : Int} (hb0 : 0 ≤ b) (hb : b ≤ 100) (hv0 : 0 ≤ v) (hv : v ≤ 100000) (hf0 : 0 ≤ f) (hf : f ≤ 10000) : 0 ≤ nxt v f b ∧ nxt v f b ≤ v + f ∧ nxt v f b ≤ 110000 ∧ f ≤ nxt v f b := by
  obtain ⟨h1, h2, h3⟩ := mul_bd hb0 hb hv0 hv
  unfold nxt
  omega

def NextZ (v f b : Int) : Int := if govB v f b = true then nxt v f b else -1

def adv (f b v : Int) : Int := min 100000 (nxt v f b)
def advN (f b : Int) : Nat → Int → Int
  | 0, v => v
  | n + 1, v => advN f b n (adv f b v)
theorem advN_succ (f b : Int) : ∀ (n : Nat) (v : Int), advN f b (n + 1) v = adv f b (advN f b n v)
  | 0, _ => rfl
  | n + 1, v => by
    show advN f b (n + 1) (adv f b v) = adv f b (advN f b n (adv f b v))
    exact advN_succ f b n _
theorem adv_bd {v f b : Int} (hb0 : 0 ≤ b) (hb : b ≤ 100) (hv0 : 0 ≤ v) (hv : v ≤ 100000) (hf0 : 0 ≤ f) (hf : f ≤ 10000) : 0 ≤ adv f b v ∧ adv f b v ≤ 100000 := by
  have := nxt_bd hb0 hb hv0 hv hf0 hf
  unfold adv
  omega
theorem advN_bd {f b : Int} (hb0 : 0 ≤ b) (hb : b ≤ 100) (hf0 : 0 ≤ f) (hf : f ≤ 10000) : ∀ (n : Nat) (v : Int), 0 ≤ v → v ≤ 100000 → 0 ≤ advN f b n v ∧ advN f b n v ≤ 100000
  | 0, _, h0, h1 => ⟨h0, h1⟩
  | n + 1, v, h0, h1 => by
    have := adv_bd hb0 hb h0 h1 hf0 hf
    exact advN_bd hb0 hb hf0 hf n _ this.1 this.2
theorem advN_fix {f b : Int} {s : Int} (hs1 : s ≤ 100000) (h : nxt s f b = s) : ∀ n : Nat, advN f b n s = s
  | 0 => rfl
  | n + 1 => by
    have e : adv f b s = s := by unfold adv; rw [h]; omega
    show advN f b n (adv f b s) = s
    rw [e]
    exact advN_fix hs1 h n

def AfterZ (v f b n : Int) : Int := if govB v f b = true ∧ inB n 0 1000 = true then advN f b n.toNat v else -1

/-- r is the least speed that keeps itself, or -1 where none does -/
def SteadyIs (f b r : Int) : Prop := (0 ≤ r ∧ r ≤ 100000 ∧ b * r / 100 = f ∧ ∀ s, 0 ≤ s → s < r → b * s / 100 ≠ f) ∨ (r = -1 ∧ ∀ s, 0 ≤ s → s ≤ 100000 → b * s / 100 ≠ f)
theorem SteadyIs.one {f b r r' : Int} (h : SteadyIs f b r) (h' : SteadyIs f b r') : r = r' := by
  rcases h with ⟨h0, h1, h2, h3⟩ | ⟨rfl, h3⟩ <;> rcases h' with ⟨k0, k1, k2, k3⟩ | ⟨rfl, k3⟩
  · rcases Int.lt_trichotomy r r' with h | h | h
    · exact absurd h2 (k3 r h0 h)
    · exact h
    · exact absurd k2 (h3 r' k0 h)
  · exact absurd h2 (k3 r h0 h1)
  · exact absurd k2 (h3 r' k0 k1)
  · rfl
/-- what a call of SteadySpeed gives -/
def SteadyOf (f b r : Int) : Prop := if inB f 0 10000 = true ∧ inB b 1 100 = true then SteadyIs f b r else r = -1
theorem SteadyOf.one {f b r r' : Int} (h : SteadyOf f b r) (h' : SteadyOf f b r') : r = r' := by
  unfold SteadyOf at h h'
  split at h
  · rename_i hc
    rw [if_pos hc] at h'
    exact h.one h'
  · rename_i hc
    rw [if_neg hc] at h'
    rw [h, h']
theorem nxt_fix {f b s : Int} : nxt s f b = s ↔ b * s / 100 = f := by unfold nxt; omega
theorem div_mono {b s t : Int} (hb : 0 ≤ b) (h : s ≤ t) : b * s / 100 ≤ b * t / 100 := by
  have := Int.mul_le_mul_of_nonneg_left h hb
  omega

/-- r is the number of steps until the speed keeps itself, at most 1000; else -1 -/
def StepsIs (v f b r : Int) : Prop :=
  (∃ k : Nat, r = k ∧ k ≤ 1000 ∧ nxt (advN f b k v) f b = advN f b k v ∧ ∀ j, j < k → nxt (advN f b j v) f b ≠ advN f b j v) ∨ (r = -1 ∧ ∀ j : Nat, j ≤ 1000 → nxt (advN f b j v) f b ≠ advN f b j v)
theorem StepsIs.one {v f b r r' : Int} (h : StepsIs v f b r) (h' : StepsIs v f b r') : r = r' := by
  rcases h with ⟨k, rfl, h1, h2, h3⟩ | ⟨rfl, h3⟩ <;> rcases h' with ⟨k', rfl, k1, k2, k3⟩ | ⟨rfl, k3⟩
  · rcases Nat.lt_trichotomy k k' with h | h | h
    · exact absurd h2 (k3 k h)
    · rw [h]
    · exact absurd k2 (h3 k' h)
  · exact absurd h2 (k3 k h1)
  · exact absurd k2 (h3 k' k1)
  · rfl
def StepsOfGov (v f b r : Int) : Prop := if govB v f b = true ∧ inB b 1 100 = true then StepsIs v f b r else r = -1
theorem StepsOfGov.one {v f b r r' : Int} (h : StepsOfGov v f b r) (h' : StepsOfGov v f b r') : r = r' := by
  unfold StepsOfGov at h h'
  split at h
  · rename_i hc
    rw [if_pos hc] at h'
    exact h.one h'
  · rename_i hc
    rw [if_neg hc] at h'
    rw [h, h']

end Go.Proofs.Ytcnnkdpfigckoaa
