/-
  Merge of impl and of spec, for all arguments.
-/
import Derived.Test.YtjklobhnidbinaaMergeI
import Derived.Test.YtjklobhnidbinaaMergeS
namespace Go.Proofs.Ytjklobhnidbinaa
open Go.RowKit

theorem iMerge_all (s t : Int) (A : Option Addr) (n c : Nat) (xs : List (Int × Int)) (s' t' : Int) (A' : Option Addr) (n' c' : Nat) (ys : List (Int × Int)) (w : World) (h : Rd w w.heap.size 2 A n (pc xs)) (h' : Rd w w.heap.size 2 A' n' (pc ys)) (hn : n ≤ 1048576) (hn' : n' ≤ 1048576) :
    Calls Try.prog 18 #[.agg #[.int .i64 s, .int .i64 t, .slice A n c], .agg #[.int .i64 s', .int .i64 t', .slice A' n' c']] w (MadeCO w (mergeC s t xs s' t' ys)) := by
  by_cases hy : cylB s t xs = true ∧ cylB s' t' ys = true ∧ s = s' ∧ t = t'
  · obtain ⟨ha, hb, rfl, rfl⟩ := hy
    exact iMerge_yes s t A n c xs A' n' c' ys w h h' hn hn' ha hb
  · rw [mergeC_bad hy]
    exact iMerge_no s t A n c xs s' t' A' n' c' ys w h h' hn hn' hy

theorem sMerge_all (s t : Int) (A : Option Addr) (n c : Nat) (xs : List (Int × Int)) (s' t' : Int) (A' : Option Addr) (n' c' : Nat) (ys : List (Int × Int)) (w : World) (h : Rd w w.heap.size 2 A n (pc xs)) (h' : Rd w w.heap.size 2 A' n' (pc ys)) (hn : n ≤ 1048576) (hn' : n' ≤ 1048576) :
    Calls Try.prog 17 #[.agg #[.int .i64 s, .int .i64 t, .slice A n c], .agg #[.int .i64 s', .int .i64 t', .slice A' n' c']] w (MadeCO w (mergeC s t xs s' t' ys)) := by
  by_cases hy : cylB s t xs = true ∧ cylB s' t' ys = true ∧ s = s' ∧ t = t'
  · obtain ⟨ha, hb, rfl, rfl⟩ := hy
    exact sMerge_yes s t A n c xs A' n' c' ys w h h' hn hn' ha hb
  · rw [mergeC_bad hy]
    exact sMerge_no s t A n c xs s' t' A' n' c' ys w h h' hn hn' hy

end Go.Proofs.Ytjklobhnidbinaa
