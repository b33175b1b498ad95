/-
  Plain facts on pairs in order: one pair put in at its place. No program in sight.
-/
import Derived.Test.YtjklobhnidbinaaNum
namespace Go.Proofs.Ytjklobhnidbinaa

def lessN (a b : Int × Int) : Bool := decide (a.1 < b.1 ∨ (a.1 = b.1 ∧ a.2 < b.2))
theorem getD_of {α : Type} {xs : List α} {k : Nat} {p d : α} (h : xs[k]? = some p) : xs.getD k d = p := by rw [List.getD_eq_getElem?_getD, h]; rfl

/-- how many notes come before x -/
def atN (l : List (Int × Int)) (x : Int × Int) : Nat := (l.takeWhile fun p => lessN p x).length
def insN (l : List (Int × Int)) (x : Int × Int) : List (Int × Int) := if l[atN l x]? = some x then l else l.take (atN l x) ++ [x] ++ l.drop (atN l x)
def sortN (l : List (Int × Int)) : List (Int × Int) := l.foldl insN []
def Asc (l : List (Int × Int)) : Prop := l.Pairwise fun p q => lessN p q = true

theorem less_trans {p q r : Int × Int} (h : lessN p q = true) (k : lessN q r = true) : lessN p r = true := by
  simp [lessN] at *
  omega
theorem less_total {p q : Int × Int} (h : lessN p q = false) : lessN q p = true ∨ q = p := by
  simp [lessN] at *
  rcases p with ⟨a, b⟩
  rcases q with ⟨c, d⟩
  simp at *
  omega
theorem less_irr (p : Int × Int) : lessN p p = false := by simp [lessN]
theorem mem_tw {α : Type} {f : α → Bool} : ∀ {l : List α} {x : α}, x ∈ l.takeWhile f → f x = true
  | [], x, h => by simp at h
  | y :: l, x, h => by
    rw [List.takeWhile_cons] at h
    split at h
    · rename_i hy
      rcases List.mem_cons.1 h with rfl | h
      · exact hy
      · exact mem_tw h
    · cases h
theorem atN_le (l : List (Int × Int)) (x : Int × Int) : atN l x ≤ l.length := (List.takeWhile_prefix _).length_le
theorem take_atN (l : List (Int × Int)) (x : Int × Int) : l.take (atN l x) = l.takeWhile fun p => lessN p x := by
  unfold atN
  exact (List.prefix_iff_eq_take.1 (List.takeWhile_prefix (l := l) (fun p => lessN p x))).symm
theorem drop_atN (l : List (Int × Int)) (x : Int × Int) : l.drop (atN l x) = l.dropWhile fun p => lessN p x := by
  have h : l.takeWhile (fun p => lessN p x) ++ l.dropWhile (fun p => lessN p x) = l.take (atN l x) ++ l.drop (atN l x) := by rw [List.takeWhile_append_dropWhile, List.take_append_drop]
  rw [take_atN] at h
  exact (List.append_cancel_left h).symm
theorem atN_before {l : List (Int × Int)} {x p : Int × Int} {k : Nat} (hk : k < atN l x) (h : l[k]? = some p) : lessN p x = true := by
  have hm : p ∈ l.takeWhile fun p => lessN p x := by
    rw [← take_atN]
    exact List.mem_of_getElem? (i := k) (by rw [List.getElem?_take, if_pos hk]; exact h)
  exact mem_tw (f := fun p => lessN p x) hm
theorem atN_stop {l : List (Int × Int)} {x p : Int × Int} (h : l[atN l x]? = some p) : lessN p x = false := by
  have hd : (l.drop (atN l x))[0]? = some p := by rw [List.getElem?_drop]; exact h
  rw [drop_atN] at hd
  cases hl : l.dropWhile (fun p => lessN p x) with
  | nil => rw [hl] at hd; simp at hd
  | cons q t =>
    rw [hl] at hd
    simp at hd
    subst hd
    have := List.head_dropWhile_not (p := fun p => lessN p x) (l := l) (by rw [hl]; simp)
    simpa [hl] using this
/-- the place, told by its two sides -/
theorem atN_is {l : List (Int × Int)} {x : Int × Int} {k : Nat} (hk : k ≤ l.length) (hb : ∀ j p, j < k → l[j]? = some p → lessN p x = true) (hs : ∀ p, l[k]? = some p → lessN p x = false) : atN l x = k := by
  rcases Nat.lt_trichotomy (atN l x) k with h | h | h
  · obtain ⟨p, hp⟩ : ∃ p, l[atN l x]? = some p := ⟨_, List.getElem?_eq_getElem (by omega)⟩
    have h1 := atN_stop hp
    rw [hb _ p h hp] at h1
    cases h1
  · exact h
  · obtain ⟨p, hp⟩ : ∃ p, l[k]? = some p := ⟨_, List.getElem?_eq_getElem (by have := atN_le l x; omega)⟩
    have h1 := atN_before h hp
    rw [hs p hp] at h1
    cases h1
theorem ins_mem {l : List (Int × Int)} {x p : Int × Int} (h : p ∈ insN l x) : p ∈ l ∨ p = x := by
  unfold insN at h
  split at h
  · exact Or.inl h
  · simp only [List.append_assoc, List.mem_append, List.mem_singleton] at h
    rcases h with h | h | h
    · exact Or.inl (List.mem_of_mem_take h)
    · exact Or.inr h
    · exact Or.inl (List.mem_of_mem_drop h)
theorem ins_len (l : List (Int × Int)) (x : Int × Int) : (insN l x).length ≤ l.length + 1 := by
  unfold insN
  split
  · omega
  · have := atN_le l x
    simp
    omega
theorem ins_asc {l : List (Int × Int)} {x : Int × Int} (h : Asc l) : Asc (insN l x) := by
  unfold insN
  split
  · exact h
  · rename_i hne
    unfold Asc at *
    have h1 : l = l.take (atN l x) ++ l.drop (atN l x) := (List.take_append_drop _ _).symm
    rw [h1, List.pairwise_append] at h
    obtain ⟨ha, hb, hc⟩ := h
    have hbef : ∀ p ∈ l.take (atN l x), lessN p x = true := fun p hp => by
      rw [take_atN] at hp
      exact mem_tw (f := fun p => lessN p x) hp
    have haft : ∀ q ∈ l.drop (atN l x), lessN x q = true := fun q hq => by
      cases hd : l.drop (atN l x) with
      | nil => rw [hd] at hq; cases hq
      | cons p t =>
        have hp : l[atN l x]? = some p := by
          have : (l.drop (atN l x))[0]? = some p := by rw [hd]; rfl
          rwa [List.getElem?_drop] at this
        have hpx : lessN x p = true := by
          rcases less_total (atN_stop hp) with h2 | h2
          · exact h2
          · subst h2; exact absurd hp hne
        rw [hd] at hq hb
        rcases List.mem_cons.1 hq with rfl | hq
        · exact hpx
        · exact less_trans hpx ((List.pairwise_cons.1 hb).1 q hq)
    rw [List.append_assoc, List.pairwise_append]
    refine ⟨ha, ?_, fun p hp q hq => ?_⟩
    · rw [List.singleton_append, List.pairwise_cons]
      exact ⟨haft, hb⟩
    · rcases List.mem_append.1 hq with hq | hq
      · rw [List.mem_singleton.1 hq]; exact hbef p hp
      · exact hc p hp q hq
theorem sort_snoc (l : List (Int × Int)) (x : Int × Int) : sortN (l ++ [x]) = insN (sortN l) x := by simp [sortN]
theorem fold_mem {p : Int × Int} : ∀ (l acc : List (Int × Int)), p ∈ l.foldl insN acc → p ∈ l ∨ p ∈ acc
  | [], acc, h => Or.inr h
  | x :: l, acc, h => by
    rcases fold_mem l (insN acc x) h with h | h
    · exact Or.inl (List.mem_cons_of_mem _ h)
    · rcases ins_mem h with h | h
      · exact Or.inr h
      · rw [h]; exact Or.inl (by simp)
theorem fold_len : ∀ (l acc : List (Int × Int)), (l.foldl insN acc).length ≤ l.length + acc.length
  | [], acc => by simp
  | x :: l, acc => by
    have h1 := fold_len l (insN acc x)
    have h2 := ins_len acc x
    simp only [List.foldl_cons, List.length_cons]
    omega
theorem fold_asc : ∀ (l acc : List (Int × Int)), Asc acc → Asc (l.foldl insN acc)
  | [], _, h => h
  | x :: l, acc, h => fold_asc l (insN acc x) (ins_asc h)
theorem sort_mem {p : Int × Int} {l : List (Int × Int)} (h : p ∈ sortN l) : p ∈ l := by
  rcases fold_mem l [] h with h | h
  · exact h
  · cases h
theorem sort_len (l : List (Int × Int)) : (sortN l).length ≤ l.length := by
  have := fold_len l []
  simpa [sortN] using this
theorem sort_asc (l : List (Int × Int)) : Asc (sortN l) := fold_asc l [] List.Pairwise.nil

end Go.Proofs.Ytjklobhnidbinaa
