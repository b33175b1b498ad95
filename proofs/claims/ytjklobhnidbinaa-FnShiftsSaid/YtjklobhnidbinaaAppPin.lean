/-
  One element appended to a row of Pin of the call's own, in order and at a step of a region that draws its order. A row of at most 1048576 elements.
-/
import Derived.Test.YtjklobhnidbinaaPinS
import Derived.Test.YtjklobhnidbinaaOwnAid
namespace Go.Proofs.Ytjklobhnidbinaa
open Go.RowKit

theorem own_pair_len {w : World} {base n : Nat} {v : Value} {xs : List (Int × Int)} {e : TypeId} (h : w.ownsRow base e 2 v n (pc xs)) : xs.length = n := by
  have := h.1
  rw [pc_length] at this
  omega

theorem wpList_app_Pin {ops : Array Oper} {rest : List Oper} {o : Oper} {a : Act} {Q : Exit → Act → World → Prop} {w W : World} (hgd : o.guard = none) (s x : Operand)
    (ho : o.op = .call { callee := .builtin .append, args := #[s, x], argTypes := #[26, 26] })
    (base : Nat) (v : Value) (n : Nat) (l : List (Int × Int)) (y z : Int) (hs : a.eval s = v) (hown : w.ownsRow base 50 2 v n (pc l))
    (hx : a.eval x = .slice (some ⟨w.heap.size, 0, none⟩) 1 1) (hn : n ≤ 1048576) (hbase : base ≤ w.heap.size) (hB : Below base W w)
    (h : ∀ v' w', w'.ownsRow base 50 2 v' (n + 1) (pc (l ++ [(y, z)])) → w.grownBy w' v.ownBlock → Below base W w' → wpList Try.prog ops Q rest (a.put o.dst v') w') :
    wpList Try.prog ops Q (o :: rest) a (w.alloc (.cells #[.int .i64 y, .int .i64 z] 50)) := by
  obtain ⟨i0, hi, hz0, hz1, hz2⟩ := info_parts infoPin
  refine wpList_append_own _ hgd s x _ ho base 50 i0 (.agg #[.int .i64 0, .int .i64 0]) 2 16 Try.underlying26 hi hz0 hz1 hz2 rfl (by decide) v n _ hs (hown.alloc _) ⟨w.heap.size, 0, none⟩ 1 1 [.int .i64 y, .int .i64 z] hx rfl ?_ ?_ ?_ ?_ ?_ ?_
  · intro j u hu
    have hj : j = 0 ∨ j = 1 := by
      have := (List.getElem?_eq_some_iff.1 hu).1
      simp at this
      omega
    rcases hj with rfl | rfl
    · simp at hu
      subst hu
      simp [Addr.add]
    · simp at hu
      subst hu
      simp [Addr.add]
  · simp [Value.oneCell']
  · unfold maxLen; omega
  · omega
  · simp; omega
  · intro v' w' hown' hg _
    have hg2 : w.grownBy w' v.ownBlock := grown_trans (World.grownBy_alloc w _ _) hg
    refine h v' w' ?_ hg2 (hB.grown hg2 hbase fun k hk => (hown.lt k hk).1)
    rw [pc_append]
    exact hown'

/-- the like at a step of a region that draws its order -/
theorem step_app_Pin {ops : Array Oper} {o : Oper} {a : Act} {K : Act → World → Prop} {Q : Exit → Act → World → Prop} {E : Prop} {w W : World} (hgd : o.guard = none) (s x : Operand)
    (ho : o.op = .call { callee := .builtin .append, args := #[s, x], argTypes := #[26, 26] })
    (base : Nat) (v : Value) (n : Nat) (l : List (Int × Int)) (y z : Int) (hs : a.eval s = v) (hown : w.ownsRow base 50 2 v n (pc l))
    (hx : a.eval x = .slice (some ⟨w.heap.size, 0, none⟩) 1 1) (hn : n ≤ 1048576) (hbase : base ≤ w.heap.size) (hB : Below base W w)
    (h : ∀ v' w', w'.ownsRow base 50 2 v' (n + 1) (pc (l ++ [(y, z)])) → w.grownBy w' v.ownBlock → Below base W w' → K (a.put o.dst v') w') :
    if Region.wanted o (yielded ops a.tmps) = true then Oper.wp Try.prog o a ((w.alloc (.cells #[.int .i64 y, .int .i64 z] 50)).drew) K Q else E := by
  have hw : Region.wanted o (yielded ops a.tmps) = true := by simp [Region.wanted, hgd]
  rw [if_pos hw]
  obtain ⟨i0, hi, hz0, hz1, hz2⟩ := info_parts infoPin
  refine wp_append_own _ s x _ ho base 50 i0 (.agg #[.int .i64 0, .int .i64 0]) 2 16 Try.underlying26 hi hz0 hz1 hz2 rfl (by decide) v n _ hs (own_drewN (hown.alloc _) 1) ⟨w.heap.size, 0, none⟩ 1 1 [.int .i64 y, .int .i64 z] hx rfl ?_ ?_ ?_ ?_ ?_ ?_
  · intro j u hu
    have hj : j = 0 ∨ j = 1 := by
      have := (List.getElem?_eq_some_iff.1 hu).1
      simp at this
      omega
    rcases hj with rfl | rfl
    · simp at hu
      subst hu
      simp [Addr.add]
    · simp at hu
      subst hu
      simp [Addr.add]
  · simp [Value.oneCell']
  · unfold maxLen; omega
  · omega
  · simp; omega
  · intro v' w' hown' hg _
    have hg1 : w.grownBy (w.alloc (.cells #[.int .i64 y, .int .i64 z] 50)).drew v.ownBlock := ⟨rfl, rfl, rfl, by simp, fun k hk _ => Below.heap_alloc w _ k hk⟩
    have hg2 : w.grownBy w' v.ownBlock := grown_trans hg1 hg
    refine h v' w' ?_ hg2 (hB.grown hg2 hbase fun k hk => (hown.lt k hk).1)
    rw [pc_append]
    exact hown'

/-- a slice of pairs that a call made -/
def MadeP (w : World) (l : List (Int × Int)) (E : Ending) (w' : World) : Prop := MadeS w 50 2 l.length (pc l) E w'
theorem madeP_nil (w w' : World) (hb : Below w.heap.size w w') : MadeP w [] (.returned (.slice none 0 0)) w' := ⟨none, 0, rfl, World.ownsRow_nil _ _ _ _, hb⟩
theorem madeP_of {w w' : World} {l : List (Int × Int)} {v : Value} {n : Nat} (h : w'.ownsRow w.heap.size 50 2 v n (pc l)) (hb : Below w.heap.size w w') : MadeP w l (.returned v) w' := by
  obtain ⟨A, c, rfl⟩ := own_shape h
  have hn := own_pair_len h
  subst hn
  exact ⟨A, c, rfl, h, hb⟩

end Go.Proofs.Ytjklobhnidbinaa
