/-
  One number appended to a slice of the call's own: what the walk needs of it. The slice stays below 1048577 elements.
-/
import Derived.Test.YtjcaamnojinnmaaMarkInt
namespace Go.Proofs.Ytjcaamnojinnmaa
open Go.RowKit

theorem wpList_app_int {ops : Array Oper} {rest : List Oper} {o : Oper} {a : Act} {Q : Exit → Act → World → Prop} {w W : World} (hgd : o.guard = none) (s x : Operand)
    (ho : o.op = .call { callee := .builtin .append, args := #[s, x], argTypes := #[23, 23] })
    (base : Nat) (v : Value) (n : Nat) (l : List Int) (y : Int) (hs : a.eval s = v) (hown : w.ownsRow base 3 1 v n (l.map (Value.int .i64)))
    (hx : a.eval x = .slice (some ⟨w.heap.size, 0, none⟩) 1 1) (hn : n ≤ 1048576) (hbase : base ≤ w.heap.size) (hB : Below base W w)
    (h : ∀ v' w', w'.ownsRow base 3 1 v' (n + 1) ((l ++ [y]).map (Value.int .i64)) → w.grownBy w' v.ownBlock → Below base W w' → wpList Try.prog ops Q rest (a.put o.dst v') w') :
    wpList Try.prog ops Q (o :: rest) a (w.alloc (.cells #[.int .i64 y] 3)) := by
  obtain ⟨i0, hi, hz0, hz1, hz2⟩ := info_parts infoInt
  refine wpList_append_own _ hgd s x _ ho base 3 i0 (.int .i64 0) 1 8 Try.underlying23 hi hz0 hz1 hz2 rfl (by decide) v n _ hs (hown.alloc _) ⟨w.heap.size, 0, none⟩ 1 1 [.int .i64 y] hx rfl ?_ ?_ ?_ ?_ ?_ ?_
  · intro j u hu
    have hj : j = 0 := by
      have := (List.getElem?_eq_some_iff.1 hu).1
      simpa using this
    subst hj
    simp at hu
    subst hu
    simp [Addr.add]
  · simp [Value.oneCell']
  · unfold maxLen; omega
  · omega
  · simp; omega
  · intro v' w' hown' hg _
    have hg2 : w.grownBy w' v.ownBlock := grown_trans (World.grownBy_alloc w _ _) hg
    refine h v' w' ?_ hg2 (hB.grown hg2 hbase fun k hk => (hown.lt k hk).1)
    rw [List.map_append]
    exact hown'

end Go.Proofs.Ytjcaamnojinnmaa
