/-
  Plain facts on cylinders: options of cylinders that the functions give, tracks moved and picked again, pins that disturb each other. No program in sight.
-/
import Derived.Test.YtjklobhnidbinaaPinMath
namespace Go.Proofs.Ytjklobhnidbinaa

/-- a cylinder, if there is one: steps, tracks, pins -/
abbrev CyO := Option (Int × Int × List (Int × Int))
def cyS (o : CyO) : Int := match o with | some c => c.1 | none => 0
def cyT (o : CyO) : Int := match o with | some c => c.2.1 | none => 0
def cyP (o : CyO) : List (Int × Int) := match o with | some c => c.2.2 | none => []
/-- what PartAt gives -/
def partC (s t : Int) (xs : List (Int × Int)) (d k : Int) : CyO := if shiftB s t xs d k = true then some (s, (t + d - 1) / d, partL d k xs) else none
/-- what ShiftedTracks gives -/
def shiftC (s t : Int) (xs : List (Int × Int)) (d k : Int) : CyO := if shiftB s t xs d k = true ∧ cylB s 100 (shiftL d k xs) = true then some (s, 100, shiftL d k xs) else none
/-- what Merge gives -/
def mergeC (s t : Int) (a : List (Int × Int)) (s' t' : Int) (b : List (Int × Int)) : CyO := match mergeV s t a s' t' b with | some l => some (s, t, l) | none => none
theorem partL_len (d k : Int) (xs : List (Int × Int)) : (partL d k xs).length ≤ xs.length := by
  unfold partL
  rw [List.length_map]
  exact List.length_filter_le _ _
theorem shiftL_len (d k : Int) (xs : List (Int × Int)) : (shiftL d k xs).length = xs.length := by simp [shiftL]
theorem cyl_len {s t : Int} {xs : List (Int × Int)} (h : cylB s t xs = true) : xs.length ≤ 100 := (cyl_iff.1 h).2.2.1
theorem shiftB_iff {s t : Int} {xs : List (Int × Int)} {d k : Int} : shiftB s t xs d k = true ↔ cylB s t xs = true ∧ (1 ≤ d ∧ d ≤ 20) ∧ (0 ≤ k ∧ k ≤ d - 1) := by
  unfold shiftB
  rw [Bool.and_eq_true, Bool.and_eq_true, inB_iff, inB_iff]
  exact ⟨fun ⟨⟨a, b⟩, c⟩ => ⟨a, b, c⟩, fun ⟨a, b, c⟩ => ⟨⟨a, b⟩, c⟩⟩
theorem partC_len (s t : Int) (xs : List (Int × Int)) (d k : Int) : (cyP (partC s t xs d k)).length ≤ 100 := by
  unfold partC
  split
  · rename_i h
    have h1 := cyl_len (shiftB_iff.1 h).1
    have h2 := partL_len d k xs
    simp only [cyP]
    omega
  · simp [cyP]
theorem shiftC_len (s t : Int) (xs : List (Int × Int)) (d k : Int) : (cyP (shiftC s t xs d k)).length ≤ 100 := by
  unfold shiftC
  split
  · rename_i h
    exact cyl_len h.2
  · simp [cyP]
theorem mergeC_len (s t : Int) (a : List (Int × Int)) (s' t' : Int) (b : List (Int × Int)) : (cyP (mergeC s t a s' t' b)).length ≤ 100 := by
  unfold mergeC mergeV
  split
  · rename_i l h
    simp only [cyP]
    split at h
    · split at h
      · split at h
        · rename_i h1
          injection h with h
          subst h
          exact h1
        · cases h
      · cases h
    · cases h
  · simp [cyP]

/-! ### One pin put in where there is none -/
def insQ (l : List (Int × Int)) (x : Int × Int) : List (Int × Int) := if hasQ l x = true then l else putQ l x
theorem insQ_len (l : List (Int × Int)) (x : Int × Int) : (insQ l x).length ≤ l.length + 1 := by
  unfold insQ
  split
  · omega
  · rw [put_len]; exact Nat.le_refl _
theorem insQ_asc {l : List (Int × Int)} {x : Int × Int} (h : AscQ l) : AscQ (insQ l x) := by
  unfold insQ
  split
  · exact h
  · rename_i hx
    exact put_asc h (by simpa using hx)
theorem insQ_mem {l : List (Int × Int)} {x p : Int × Int} (h : p ∈ insQ l x) : p ∈ l ∨ p = x := by
  unfold insQ at h
  split at h
  · exact Or.inl h
  · have := (put_perm l x).mem_iff.1 h
    simpa using this

/-! ### Moved and picked again -/
theorem part_append (d k : Int) (a b : List (Int × Int)) : partL d k (a ++ b) = partL d k a ++ partL d k b := by simp [partL]
theorem part_perm (d k : Int) {a b : List (Int × Int)} (h : a.Perm b) : (partL d k a).Perm (partL d k b) := (h.filter _).map _
theorem part_step {d k : Int} {xs : List (Int × Int)} {j : Nat} {p : Int × Int} (h : xs[j]? = some p) : partL d k (xs.take (j + 1)) = if p.1 % d = k then partL d k (xs.take j) ++ [ptP d p] else partL d k (xs.take j) := by
  obtain ⟨hk, rfl⟩ := List.getElem?_eq_some_iff.1 h
  rw [List.take_succ_eq_append_getElem hk, part_append]
  by_cases e : (xs[j]).1 % d = k
  · rw [if_pos e]; simp [partL, e]
  · rw [if_neg e]; simp [partL, e]
theorem shift_step {d k : Int} {xs : List (Int × Int)} {j : Nat} {p : Int × Int} (h : xs[j]? = some p) : shiftL d k (xs.take (j + 1)) = shiftL d k (xs.take j) ++ [shP d k p] := by
  obtain ⟨hk, rfl⟩ := List.getElem?_eq_some_iff.1 h
  unfold shiftL
  rw [List.take_succ_eq_append_getElem hk, List.map_append]
  rfl
theorem mul_mod (x d k : Int) (hk : 0 ≤ k ∧ k ≤ d - 1) : (x * d + k) % d = k := by
  rw [Int.add_comm, Int.add_mul_emod_self_right]
  exact Int.emod_eq_of_lt hk.1 (by omega)
theorem mul_div (x d k : Int) (hk : 0 ≤ k ∧ k ≤ d - 1) : (x * d + k) / d = x := by
  rw [Int.add_comm, Int.add_mul_ediv_right _ _ (by omega), Int.ediv_eq_zero_of_lt hk.1 (by omega)]
  omega
theorem part_shift (d k : Int) (hk : 0 ≤ k ∧ k ≤ d - 1) : ∀ (xs : List (Int × Int)), partL d k (shiftL d k xs) = xs
  | [] => rfl
  | p :: xs => by
    have ih := part_shift d k hk xs
    unfold partL shiftL at ih ⊢
    rw [List.map_cons, List.filter_cons_of_pos (by simp [shP, mul_mod _ _ _ hk]), List.map_cons, ih]
    simp [ptP, shP, mul_div _ _ _ hk]
theorem part_other (d k j : Int) (hk : 0 ≤ k ∧ k ≤ d - 1) (hne : k ≠ j) : ∀ (xs : List (Int × Int)), partL d j (shiftL d k xs) = []
  | [] => rfl
  | p :: xs => by
    have ih := part_other d k j hk hne xs
    unfold partL shiftL at ih ⊢
    rw [List.map_cons, List.filter_cons_of_neg (by simp [shP, mul_mod _ _ _ hk, hne]), ih]
theorem part_asc {d k : Int} {xs : List (Int × Int)} (hd : 1 ≤ d) (h : AscQ xs) : AscQ (partL d k xs) := by
  unfold AscQ partL
  rw [List.pairwise_map]
  have hf : (xs.filter fun p => decide (p.1 % d = k)).Pairwise fun p q => lessQ p q = true := List.Pairwise.filter _ h
  refine List.Pairwise.imp_of_mem (fun {p q} hp hq hpq => ?_) hf
  have hp := of_decide_eq_true (List.mem_filter.1 hp).2
  have hq := of_decide_eq_true (List.mem_filter.1 hq).2
  have hpq : lessQ p q = true := hpq
  unfold lessQ lessN at hpq ⊢
  rw [decide_eq_true_eq] at hpq ⊢
  simp only [sw, ptP] at hpq ⊢
  rcases hpq with h1 | ⟨h1, h2⟩
  · exact Or.inl h1
  · right
    refine ⟨h1, ?_⟩
    have e1 := Int.emod_add_mul_ediv p.1 d
    have e2 := Int.emod_add_mul_ediv q.1 d
    rw [hp] at e1
    rw [hq] at e2
    rcases Int.lt_or_le (p.1 / d) (q.1 / d) with h3 | h3
    · exact h3
    · have := Int.mul_le_mul_of_nonneg_left h3 (show 0 ≤ d by omega)
      omega

/-! ### Pins that disturb each other -/
def gapZ (a b s : Int) : Int := min (if a - b < 0 then -(a - b) else a - b) (s - (if a - b < 0 then -(a - b) else a - b))
theorem gap_comm (a b s : Int) : gapZ a b s = gapZ b a s := by
  unfold gapZ
  have : (if a - b < 0 then -(a - b) else a - b) = (if b - a < 0 then -(b - a) else b - a) := by split <;> split <;> omega
  rw [this]
theorem gap_one {a b s : Int} (ha : 0 ≤ a ∧ a ≤ s - 1) (hb : 0 ≤ b ∧ b ≤ s - 1) : gapZ a b s < 1 ↔ a = b := by
  unfold gapZ
  split <;> omega
def hitQ (s r : Int) (p q : Int × Int) : Bool := decide (p.1 = q.1) && decide (gapZ p.2 q.2 s < r)
theorem hit_comm (s r : Int) (p q : Int × Int) : hitQ s r p q = hitQ s r q p := by
  unfold hitQ
  rw [gap_comm]
  congr 1
  rw [Bool.eq_iff_iff]
  simp [eq_comm]
def distL (s r : Int) (a b : List (Int × Int)) : Nat := (a.map fun p => b.countP (hitQ s r p)).sum
theorem dist_nil (s r : Int) (a : List (Int × Int)) : distL s r a [] = 0 := by
  induction a with
  | nil => rfl
  | cons p a ih => simpa [distL] using ih
theorem dist_cons (s r : Int) (p : Int × Int) (a b : List (Int × Int)) : distL s r (p :: a) b = b.countP (hitQ s r p) + distL s r a b := by simp [distL]
theorem dist_cons2 (s r : Int) (q : Int × Int) (b : List (Int × Int)) : ∀ a : List (Int × Int), distL s r a (q :: b) = a.countP (hitQ s r q) + distL s r a b
  | [] => by simp [distL]
  | p :: a => by
    rw [dist_cons, dist_cons, dist_cons2 s r q b a, List.countP_cons, List.countP_cons, hit_comm s r p q]
    omega
theorem dist_comm (s r : Int) : ∀ (a b : List (Int × Int)), distL s r a b = distL s r b a
  | [], b => by rw [dist_nil]; rfl
  | p :: a, b => by rw [dist_cons, dist_cons2, dist_comm s r a b]
theorem dist_mono {s r r' : Int} (h : r ≤ r') (a b : List (Int × Int)) : distL s r a b ≤ distL s r' a b := by
  induction a with
  | nil => exact Nat.le_refl _
  | cons p a ih =>
    rw [dist_cons, dist_cons]
    have : b.countP (hitQ s r p) ≤ b.countP (hitQ s r' p) := List.countP_mono_left fun q _ hq => by
      unfold hitQ at *
      simp only [Bool.and_eq_true, decide_eq_true_eq] at *
      exact ⟨hq.1, by omega⟩
    omega
theorem dist_zero {s t : Int} {a b : List (Int × Int)} (ha : ∀ p ∈ a, inQ s t p) (hb : ∀ p ∈ b, inQ s t p) : distL s 1 a b = 0 ↔ ∀ p ∈ a, p ∉ b := by
  induction a with
  | nil => simp [distL]
  | cons p a ih =>
    have ih := ih fun q hq => ha q (List.mem_cons_of_mem _ hq)
    rw [dist_cons, Nat.add_eq_zero_iff, ih, List.countP_eq_zero]
    constructor
    · rintro ⟨h1, h2⟩ q hq
      rcases List.mem_cons.1 hq with rfl | hq
      · intro hqb
        refine h1 q hqb ?_
        have := ha q (by simp)
        unfold hitQ
        rw [decide_eq_true rfl, decide_eq_true ((gap_one ⟨this.2.2.1, this.2.2.2⟩ ⟨this.2.2.1, this.2.2.2⟩).2 rfl)]
        rfl
      · exact h2 q hq
    · intro h
      refine ⟨fun q hq hh => ?_, fun q hq => h q (List.mem_cons_of_mem _ hq)⟩
      unfold hitQ at hh
      simp only [Bool.and_eq_true, decide_eq_true_eq] at hh
      have h1 := ha p (by simp)
      have h2 := hb q hq
      have e := (gap_one ⟨h1.2.2.1, h1.2.2.2⟩ ⟨h2.2.2.1, h2.2.2.2⟩).1 hh.2
      have : p = q := by
        rcases p with ⟨x, y⟩
        rcases q with ⟨u, v⟩
        simp at hh e
        rw [hh.1, e]
      exact h p (by simp) (this ▸ hq)

/-! ### A merging that goes well -/
theorem merge_ok {s t : Int} {a b : List (Int × Int)} (ha : cylB s t a = true) (hb : cylB s t b = true) (hl : a.length + b.length ≤ 100) (hd : ∀ p ∈ a, p ∉ b) : ∃ m, mergeC s t a s t b = some (s, t, m) ∧ m.Perm (a ++ b) ∧ AscQ m ∧ cylB s t m = true := by
  obtain ⟨a1, a2, a3, a4, a5⟩ := cyl_iff.1 ha
  obtain ⟨b1, b2, b3, b4, b5⟩ := cyl_iff.1 hb
  unfold mergeC mergeV
  rw [if_pos ⟨ha, hb, rfl, rfl⟩]
  cases h : mergeTo a b b.length with
  | none =>
    exfalso
    refine merge_none a5 (Nat.le_refl _) h (List.nodup_append.2 ⟨asc_nodup a5, asc_nodup b5, fun p hp q hq e => ?_⟩)
    subst e
    exact hd p hp hq
  | some l =>
    obtain ⟨_, i2, i3⟩ := merge_some a5 h
    rw [List.take_length] at i3
    have hll : l.length = a.length + b.length := by rw [i3.length_eq, List.length_append]
    refine ⟨l, by simp only; rw [if_pos (by omega)], i3, i2, cyl_iff.2 ⟨a1, a2, by omega, fun p hp => ?_, i2⟩⟩
    rcases List.mem_append.1 (i3.mem_iff.1 hp) with h1 | h1
    · exact a4 p h1
    · exact b4 p h1
theorem merge_no {s t : Int} {a b : List (Int × Int)} (hb : AscQ a) {p : Int × Int} (hp : p ∈ a) (hq : p ∈ b) : mergeC s t a s t b = none := by
  unfold mergeC mergeV
  split
  · rename_i l h
    split at h
    · cases h2 : mergeTo a b b.length with
      | none => rw [h2] at h; cases h
      | some l' =>
        exfalso
        obtain ⟨_, i2, i3⟩ := merge_some hb h2
        rw [List.take_length] at i3
        have hn := i3.nodup_iff.1 (asc_nodup i2)
        exact (List.nodup_append.1 hn).2.2 p hp p hq rfl
    · cases h
  · rfl
theorem shift_ok {s t : Int} {a : List (Int × Int)} {d k : Int} (ha : cylB s t a = true) (hd : 1 ≤ d ∧ d ≤ 20) (hk : 0 ≤ k ∧ k ≤ d - 1) (ht : t * d ≤ 100) : shiftC s t a d k = some (s, 100, shiftL d k a) ∧ cylB s 100 (shiftL d k a) = true := by
  obtain ⟨a1, a2, a3, a4, a5⟩ := cyl_iff.1 ha
  have hc : cylB s 100 (shiftL d k a) = true := by
    refine cyl_iff.2 ⟨a1, ⟨by omega, by omega⟩, by rw [shiftL_len]; exact a3, fun p hp => ?_, shift_asc hd.1 a5⟩
    unfold shiftL at hp
    obtain ⟨q, hq, rfl⟩ := List.mem_map.1 hp
    obtain ⟨b1, b2, b3, b4⟩ := a4 q hq
    have h1 := Int.mul_nonneg b1 (show 0 ≤ d by omega)
    have h2 := Int.mul_le_mul_of_nonneg_right b2 (show 0 ≤ d by omega)
    rw [Int.sub_mul] at h2
    refine ⟨?_, ?_, b3, b4⟩
    · show 0 ≤ q.1 * d + k
      omega
    · show q.1 * d + k ≤ 100 - 1
      omega
  unfold shiftC
  rw [if_pos ⟨shiftB_iff.2 ⟨ha, hd, hk⟩, hc⟩]
  exact ⟨rfl, hc⟩
theorem shift_apart (d j k : Int) (hj : 0 ≤ j ∧ j ≤ d - 1) (hk : 0 ≤ k ∧ k ≤ d - 1) (hne : j ≠ k) (a b : List (Int × Int)) : ∀ p ∈ shiftL d j a, p ∉ shiftL d k b := fun p hp hq => by
  unfold shiftL at hp hq
  obtain ⟨x, _, rfl⟩ := List.mem_map.1 hp
  obtain ⟨y, _, e⟩ := List.mem_map.1 hq
  have e1 : (shP d k y).1 = (shP d j x).1 := by rw [e]
  have h1 : (shP d k y).1 % d = k := mul_mod _ _ _ hk
  have h2 : (shP d j x).1 % d = j := mul_mod _ _ _ hj
  rw [e1, h2] at h1
  exact hne h1
theorem part_merge {d : Int} {a b m : List (Int × Int)} (hd : 2 ≤ d) (ha : AscQ a) (hb : AscQ b) (hm : AscQ m) (hp : m.Perm (shiftL d 0 a ++ shiftL d 1 b)) :
    partL d 0 m = a ∧ partL d 1 m = b ∧ ∀ k, 2 ≤ k → partL d k m = [] := by
  have key := fun k => part_perm d k hp
  refine ⟨asc_one (part_asc (by omega) hm) ha ?_, asc_one (part_asc (by omega) hm) hb ?_, fun k hk => ?_⟩
  · have := key 0
    rw [part_append, part_shift d 0 (by omega), part_other d 1 0 (by omega) (by omega), List.append_nil] at this
    exact this
  · have := key 1
    rw [part_append, part_other d 0 1 (by omega) (by omega), part_shift d 1 (by omega), List.nil_append] at this
    exact this
  · have := key k
    rw [part_append, part_other d 0 k (by omega) (by omega), part_other d 1 k (by omega) (by omega)] at this
    exact List.Perm.eq_nil this

end Go.Proofs.Ytjklobhnidbinaa
