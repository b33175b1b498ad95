/-
  The laws' own helpers on slices of Gear: markGearS writes k, k+1, .. into a row, heldGearS finds them there; and one element appended to a row of the call's own. A row of at most 1048576 elements.
-/
import Derived.Test.YtiecjmnaphfeaaaGearS
import Derived.Test.YtiecjmnaphfeaaaOwnAid
namespace Go.Proofs.Ytiecjmnaphfeaaa
open Go.RowKit

def marksP (k : Int) (n : Nat) : List (Int × Int) := (List.range n).map fun i : Nat => (k + 2 * (i : Int), k + 2 * (i : Int) + 1)
theorem marksP_length (k : Int) (n : Nat) : (marksP k n).length = n := by simp [marksP]
theorem marksP_get {k : Int} {n i : Nat} (h : i < n) : (marksP k n)[i]? = some (k + 2 * (i : Int), k + 2 * (i : Int) + 1) := by simp [marksP, h]
theorem own_pair_len {w : World} {base n : Nat} {v : Value} {xs : List (Int × Int)} {e : TypeId} (h : w.ownsRow base e 2 v n (pc xs)) : xs.length = n := by
  have := h.1
  rw [pc_length] at this
  omega

set_option maxHeartbeats 400000 in
theorem markGearS_any (A : Option Addr) (n c base : Nat) (k0 : Int) (xs : List (Int × Int)) (w : World) (h : w.ownsRow base 25 2 (.slice A n c) n (pc xs)) (hn : n ≤ 1048576) (hk : 0 ≤ k0 ∧ k0 ≤ 1000000000) :
    Calls Try.prog 30 #[.slice A n c, .int .i64 k0] w fun e w' => e = .returned (.int .i64 (k0 + 2 * n)) ∧ w'.ownsRow base 25 2 (.slice A n c) n (pc (marksP k0 n)) ∧ w.grownBy w' (Value.ownBlock (.slice A n c)) := by
  by_cases hn0 : (0 : Int) < n
  case neg =>
    obtain rfl : n = 0 := by omega
    have H := Lib.hid h
    clear h
    go_enter Try.func30, Try.ntmps30
    go_wp2
    go_loopw [1, 5] (fun s i wr => i = .int .i64 0 ∧ s = .int .i64 k0 ∧ wr = w) (fun _ i _ => 0)
    case atStart => exact ⟨rfl, rfl, rfl⟩
    case round =>
      obtain ⟨rfl, rfl, rfl⟩ := hrel
      go_wp2
      go_ret
      refine ⟨ret_int (by omega), ?_, grown_refl1 _ _⟩
      have := H.out
      rw [show pc xs = pc (marksP k0 0) by have := own_pair_len this; simp at this; subst this; rfl] at this
      exact this
  obtain ⟨g, cur, rfl, hbg, hB, hnc, hcm, hs, ht⟩ := own_get h (by omega)
  obtain ⟨hk0, hk1⟩ := hk
  have HB := Lib.hid hB
  have HS := Lib.hid hs
  have HT := Lib.hid ht
  have HC := Lib.hid hcm
  have hni : (n : Int) ≤ 1048576 := by omega
  clear hB hs ht h hcm
  go_enter Try.func30, Try.ntmps30
  go_wp2
  go_loopw [1, 5] (fun s i wr => ∃ (k : Nat) (cs : Array Value), k ≤ n ∧ i = .int .i64 k ∧ s = .int .i64 (k0 + 2 * k) ∧ Blk wr g 25 cs ∧ cs.size = c * 2 ∧ Hid (∀ j, j < k * 2 → cs[j]? = (pc (marksP k0 n))[j]?) ∧ w.grownBy wr (some g)) (fun _ i _ => n - (intOf i).toNat)
  case atStart => exact ⟨0, cur, Nat.zero_le _, rfl, by simp, HB.out, HS.out, fun j hj => by omega, grown_refl1 _ _⟩
  case round =>
    obtain ⟨k, cs, hk, rfl, rfl, hB, hs, hall, hgr⟩ := hrel
    have KB := Lib.hid hB
    have KS := Lib.hid hs
    clear hB hs
    by_cases hlt : (k : Int) < n
    · have c2 : ∃ u, wr.cell? ⟨g, k * 2, none⟩ = some u := ⟨cs[k * 2]'(by rw [KS.out]; omega), by rw [KB.out.cell (k * 2)]; simp⟩
      obtain ⟨u, c2⟩ := c2
      have f2 := KB.out.frozen (k * 2)
      have c3 : ∃ u, wr.cell? ⟨g, k * 2 + 1, none⟩ = some u := ⟨cs[k * 2 + 1]'(by rw [KS.out]; omega), by rw [KB.out.cell (k * 2 + 1)]; simp⟩
      obtain ⟨u3, c3⟩ := c3
      have f3 := KB.out.frozen (k * 2 + 1)
      go_wp2
      go_roundw
      case rel =>
        refine ⟨k + 1, _, by omega, by go_num, by go_num, (KB.out.set_ (k * 2) _).set_ (k * 2 + 1) _, by simp [KS.out], fun j hj => ?_, grown_trans (grown_trans hgr (grown_set1 _)) (grown_set1 _)⟩
        obtain ⟨p0, p1⟩ := pc_get (marksP k0 n) k _ (marksP_get (by omega))
        by_cases e1 : j = k * 2 + 1
        · subst e1
          rw [p1, Array.getElem?_setIfInBounds_self_of_lt (by simp [KS.out]; omega)]
        · rw [Array.getElem?_setIfInBounds_ne (by omega)]
          by_cases e0 : j = k * 2
          · subst e0
            rw [p0, Array.getElem?_setIfInBounds_self_of_lt (by rw [KS.out]; omega)]
          · rw [Array.getElem?_setIfInBounds_ne (by omega)]
            exact hall.out j (by omega)
      case measure => simp [intOf]; omega
    · obtain rfl : k = n := by omega
      go_wp2
      go_ret
      refine ⟨rfl, ⟨by rw [pc_length, marksP_length], Or.inr ⟨g, c, cs, rfl, hbg, KB.out, hnc, HC.out, KS.out, ?_⟩⟩, hgr⟩
      apply List.ext_getElem?
      intro j
      rw [List.getElem?_take]
      by_cases hj : j < k * 2
      · rw [if_pos hj, Array.getElem?_toList, hall.out j hj]
      · rw [if_neg hj, List.getElem?_eq_none (by rw [pc_length, marksP_length]; omega)]

set_option maxHeartbeats 400000 in
theorem heldGearS_any (A : Option Addr) (n c : Nat) (k0 : Int) (w : World) (h : Rd w w.heap.size 2 A n (pc (marksP k0 n))) (hn : n ≤ 1048576) (hk : 0 ≤ k0 ∧ k0 ≤ 1000000000) :
    Calls Try.prog 31 #[.slice A n c, .int .i64 k0] w fun e w' => e = .returned (.int .i64 (k0 + 2 * n)) ∧ Below w.heap.size w w' := by
  obtain ⟨hk0, hk1⟩ := hk
  have H := Lib.hid h
  have hni : (n : Int) ≤ 1048576 := by omega
  clear h
  go_enter Try.func31, Try.ntmps31
  go_wp2
  go_loopw [1, 5] (fun s i wr => ∃ (k : Nat), k ≤ n ∧ i = .int .i64 k ∧ s = .int .i64 (k0 + 2 * k) ∧ Below w.heap.size w wr) (fun _ i _ => n - (intOf i).toNat)
  case atStart => exact ⟨0, Nat.zero_le _, rfl, by simp, by (repeat (first | exact Below.refl _ _ | assumption | refine Below.alloc ?_ (by first | omega | (simp <;> omega)) _ | refine Below.setCell ?_ (by first | omega | (simp <;> omega)) _ | refine Below.drew ?_ | refine Below.trans ?_ (Below.mono (by assumption) (by first | omega | (simp <;> omega)))))⟩
  case round =>
    obtain ⟨k, hk, rfl, rfl, hbl⟩ := hrel
    by_cases hlt : (k : Int) < n
    · obtain ⟨b, o, rfl, hbB, hcell⟩ := H.out.pairAt (by omega)
      obtain ⟨g0, g1⟩ := hcell k _ (marksP_get (show k < n by omega))
      have c0 : wr.cell? ⟨b, o + k * 2, none⟩ = some (.int .i64 (k0 + 2 * k)) := (hbl.cell (p := ⟨b, o + k * 2, none⟩) hbB).trans g0
      have c1 : wr.cell? ⟨b, o + k * 2 + 1, none⟩ = some (.int .i64 (k0 + 2 * k + 1)) := (hbl.cell (p := ⟨b, o + k * 2 + 1, none⟩) hbB).trans g1
      clear hcell g0 g1
      go_wp2
      go_roundw
      case rel => exact ⟨k + 1, by omega, by go_num, by go_num, hbl⟩
      case measure => simp [intOf]; omega
    · obtain rfl : k = n := by omega
      go_wp2
      go_ret
      exact ⟨rfl, hbl⟩

theorem wpList_app_Gear {ops : Array Oper} {rest : List Oper} {o : Oper} {a : Act} {Q : Exit → Act → World → Prop} {w W : World} (hgd : o.guard = none) (s x : Operand)
    (ho : o.op = .call { callee := .builtin .append, args := #[s, x], argTypes := #[32, 32] })
    (base : Nat) (v : Value) (n : Nat) (l : List (Int × Int)) (y z : Int) (hs : a.eval s = v) (hown : w.ownsRow base 25 2 v n (pc l))
    (hx : a.eval x = .slice (some ⟨w.heap.size, 0, none⟩) 1 1) (hn : n ≤ 1048576) (hbase : base ≤ w.heap.size) (hB : Below base W w)
    (h : ∀ v' w', w'.ownsRow base 25 2 v' (n + 1) (pc (l ++ [(y, z)])) → w.grownBy w' v.ownBlock → Below base W w' → wpList Try.prog ops Q rest (a.put o.dst v') w') :
    wpList Try.prog ops Q (o :: rest) a (w.alloc (.cells #[.int .i64 y, .int .i64 z] 25)) := by
  obtain ⟨i0, hi, hz0, hz1, hz2⟩ := info_parts infoGear
  refine wpList_append_own _ hgd s x _ ho base 25 i0 (.agg #[.int .i64 0, .int .i64 0]) 2 16 Try.underlying32 hi hz0 hz1 hz2 rfl (by decide) v n _ hs (hown.alloc _) ⟨w.heap.size, 0, none⟩ 1 1 [.int .i64 y, .int .i64 z] hx rfl ?_ ?_ ?_ ?_ ?_ ?_
  · intro j u hu
    have hj : j = 0 ∨ j = 1 := by
      have := (List.getElem?_eq_some_iff.1 hu).1
      simp at this
      omega
    rcases hj with rfl | rfl
    · simp at hu
      subst hu
      simp [Addr.add]
    · simp at hu
      subst hu
      simp [Addr.add]
  · simp [Value.oneCell']
  · unfold maxLen; omega
  · omega
  · simp; omega
  · intro v' w' hown' hg _
    have hg2 : w.grownBy w' v.ownBlock := grown_trans (World.grownBy_alloc w _ _) hg
    refine h v' w' ?_ hg2 (hB.grown hg2 hbase fun k hk => (hown.lt k hk).1)
    rw [pc_append]
    exact hown'

/-- the like at a step of a region that draws its order -/
theorem step_app_Gear {ops : Array Oper} {o : Oper} {a : Act} {K : Act → World → Prop} {Q : Exit → Act → World → Prop} {E : Prop} {w W : World} (hgd : o.guard = none) (s x : Operand)
    (ho : o.op = .call { callee := .builtin .append, args := #[s, x], argTypes := #[32, 32] })
    (base : Nat) (v : Value) (n : Nat) (l : List (Int × Int)) (y z : Int) (hs : a.eval s = v) (hown : w.ownsRow base 25 2 v n (pc l))
    (hx : a.eval x = .slice (some ⟨w.heap.size, 0, none⟩) 1 1) (hn : n ≤ 1048576) (hbase : base ≤ w.heap.size) (hB : Below base W w)
    (h : ∀ v' w', w'.ownsRow base 25 2 v' (n + 1) (pc (l ++ [(y, z)])) → w.grownBy w' v.ownBlock → Below base W w' → K (a.put o.dst v') w') :
    if Region.wanted o (yielded ops a.tmps) = true then Oper.wp Try.prog o a ((w.alloc (.cells #[.int .i64 y, .int .i64 z] 25)).drew) K Q else E := by
  have hw : Region.wanted o (yielded ops a.tmps) = true := by simp [Region.wanted, hgd]
  rw [if_pos hw]
  obtain ⟨i0, hi, hz0, hz1, hz2⟩ := info_parts infoGear
  refine wp_append_own _ s x _ ho base 25 i0 (.agg #[.int .i64 0, .int .i64 0]) 2 16 Try.underlying32 hi hz0 hz1 hz2 rfl (by decide) v n _ hs (own_drewN (hown.alloc _) 1) ⟨w.heap.size, 0, none⟩ 1 1 [.int .i64 y, .int .i64 z] hx rfl ?_ ?_ ?_ ?_ ?_ ?_
  · intro j u hu
    have hj : j = 0 ∨ j = 1 := by
      have := (List.getElem?_eq_some_iff.1 hu).1
      simp at this
      omega
    rcases hj with rfl | rfl
    · simp at hu
      subst hu
      simp [Addr.add]
    · simp at hu
      subst hu
      simp [Addr.add]
  · simp [Value.oneCell']
  · unfold maxLen; omega
  · omega
  · simp; omega
  · intro v' w' hown' hg _
    have hg1 : w.grownBy (w.alloc (.cells #[.int .i64 y, .int .i64 z] 25)).drew v.ownBlock := ⟨rfl, rfl, rfl, by simp, fun k hk _ => Below.heap_alloc w _ k hk⟩
    have hg2 : w.grownBy w' v.ownBlock := grown_trans hg1 hg
    refine h v' w' ?_ hg2 (hB.grown hg2 hbase fun k hk => (hown.lt k hk).1)
    rw [pc_append]
    exact hown'

/-- a slice of pairs that a call made -/
def MadeP (w : World) (l : List (Int × Int)) (E : Ending) (w' : World) : Prop := MadeS w 25 2 l.length (pc l) E w'
theorem madeP_nil (w w' : World) (hb : Below w.heap.size w w') : MadeP w [] (.returned (.slice none 0 0)) w' := ⟨none, 0, rfl, World.ownsRow_nil _ _ _ _, hb⟩
theorem madeP_of {w w' : World} {l : List (Int × Int)} {v : Value} {n : Nat} (h : w'.ownsRow w.heap.size 25 2 v n (pc l)) (hb : Below w.heap.size w w') : MadeP w l (.returned v) w' := by
  obtain ⟨A, c, rfl⟩ := own_shape h
  have hn := own_pair_len h
  subst hn
  exact ⟨A, c, rfl, h, hb⟩

end Go.Proofs.Ytiecjmnaphfeaaa
