/-
  A slice of pins appended to a row of the call's own, whatever the slice (nil too): in order and at a step of a region that draws its order. The rows hold at most 1048576 pins.
-/
import Derived.Test.YtjklobhnidbinaaAppPin
import Derived.Deep.AppendSrc
namespace Go.Proofs.Ytjklobhnidbinaa
open Go.RowKit

theorem add_offP (g o j : Nat) : (⟨g, o, none⟩ : Addr).add j = ⟨g, o + j, none⟩ := by
  by_cases h : j = 0
  · subst h; rfl
  · simp [Addr.add, h]
theorem grown_reflP (w : World) (r : Option Nat) : w.grownBy w r := ⟨rfl, rfl, rfl, Nat.le_refl _, fun _ _ _ => rfl⟩

theorem run_app_any (w : World) (base g n cp B : Nat) (l l2 : List (Int × Int)) (A : Option Addr) (m c : Nat) (hown : w.ownsRow base 50 2 (.slice (some ⟨g, 0, none⟩) n cp) n (pc l)) (hr : Rd w B 2 A m (pc l2)) (hc : A = none → c = c) (hn : n + m ≤ 1048576) (hbase : base ≤ w.heap.size) (ty : TypeId) :
    ∃ g' cp' w', (Builtin.append_ #[26, 26] ty #[.slice (some ⟨g, 0, none⟩) n cp, .slice A m c]).run Try.prog w = .ok (.slice (some ⟨g', 0, none⟩) (n + m) cp') w' ∧ w'.ownsRow base 50 2 (.slice (some ⟨g', 0, none⟩) (n + m) cp') (n + m) (pc (l ++ l2)) ∧ w.grownBy w' (some g) := by
  obtain ⟨i0, hi, hz0, hz1, hz2⟩ := info_parts infoPin
  cases A with
  | none =>
    have hm : m = 0 := by
      rcases Nat.eq_zero_or_pos m with h | h
      · exact h
      · obtain ⟨_, _, e, _⟩ := hr.2 h
        cases e
    subst hm
    have hl2 : l2 = [] := List.eq_nil_of_length_eq_zero hr.pair
    subst hl2
    have hcap := own_capS hown
    have hrun := run_append_room_src (P := Try.prog) w 26 26 ty 50 i0 Try.underlying26 hi g 0 n cp (.slice none 0 c) 0 [] (Src.ofNil w Try.underlying26 c) (by omega) (fun j hj => by cases hj) (fun j hj => by cases hj)
    exact ⟨g, cp, w, hrun, by simpa using hown, grown_reflP _ _⟩
  | some ad =>
    have hnews : ∀ j u, (pc l2)[j]? = some u → w.cell? (ad.add j) = some u := fun j u hu => by
      have hj := (List.getElem?_eq_some_iff.1 hu).1
      rw [hr.1] at hj
      obtain ⟨b, o, e, _, hcell⟩ := hr.2 (by omega)
      injection e with e
      subst e
      rw [add_offP]
      exact hcell j u hu
    obtain ⟨v', w', h1, h2, h3, h4⟩ := run_append_own (P := Try.prog) w base 26 ty 50 i0 (.agg #[.int .i64 0, .int .i64 0]) 2 16 Try.underlying26 hi hz0 hz1 hz2 rfl (by decide) _ n _ hown ad m c (pc l2) hr.1 hnews (pc_one l2) (by unfold maxLen; omega) (by omega) hbase
    rcases h2.2 with ⟨e, _⟩ | ⟨g', cap, cur, e, _⟩
    · have := (h4.1 e).1
      cases this
    · subst e
      exact ⟨g', cap, w', h1, by rw [pc_append]; exact h2, h3⟩

theorem wp_app_any {o : Oper} {a : Act} {K : Act → World → Prop} {Q : Exit → Act → World → Prop} {w : World} (s x : Operand)
    (ho : o.op = .call { callee := .builtin .append, args := #[s, x], argTypes := #[26, 26] })
    (base g n cp B : Nat) (l l2 : List (Int × Int)) (A : Option Addr) (m c : Nat) (hs : a.eval s = .slice (some ⟨g, 0, none⟩) n cp) (hown : w.ownsRow base 50 2 (.slice (some ⟨g, 0, none⟩) n cp) n (pc l))
    (hx : a.eval x = .slice A m c) (hr : Rd w B 2 A m (pc l2)) (hn : n + m ≤ 1048576) (hbase : base ≤ w.heap.size)
    (h : ∀ g' cp' w', w'.ownsRow base 50 2 (.slice (some ⟨g', 0, none⟩) (n + m) cp') (n + m) (pc (l ++ l2)) → w.grownBy w' (some g) → K (a.put o.dst (.slice (some ⟨g', 0, none⟩) (n + m) cp')) w') : o.wp Try.prog a w K Q := by
  obtain ⟨g', cp', w', hr', h2, h3⟩ := run_app_any w base g n cp B l l2 A m c hown hr (fun _ => rfl) hn hbase o.type
  unfold Oper.wp execOp
  simp only [ho, resolve, invoke, builtin, Sem.run_bind, Sem.run_pure, Result.andThen_ok, List.map_toArray, List.map_cons, List.map_nil, hs, hx, hr']
  exact h g' cp' w' h2 h3
theorem wpList_app_any {ops : Array Oper} {rest : List Oper} {o : Oper} {a : Act} {Q : Exit → Act → World → Prop} {w : World} (hgd : o.guard = none) (s x : Operand)
    (ho : o.op = .call { callee := .builtin .append, args := #[s, x], argTypes := #[26, 26] })
    (base g n cp B : Nat) (l l2 : List (Int × Int)) (A : Option Addr) (m c : Nat) (hs : a.eval s = .slice (some ⟨g, 0, none⟩) n cp) (hown : w.ownsRow base 50 2 (.slice (some ⟨g, 0, none⟩) n cp) n (pc l))
    (hx : a.eval x = .slice A m c) (hr : Rd w B 2 A m (pc l2)) (hn : n + m ≤ 1048576) (hbase : base ≤ w.heap.size)
    (h : ∀ g' cp' w', w'.ownsRow base 50 2 (.slice (some ⟨g', 0, none⟩) (n + m) cp') (n + m) (pc (l ++ l2)) → w.grownBy w' (some g) → wpList Try.prog ops Q rest (a.put o.dst (.slice (some ⟨g', 0, none⟩) (n + m) cp')) w') :
    wpList Try.prog ops Q (o :: rest) a w :=
  wpList_plain hgd fun _ hK => wp_app_any s x ho base g n cp B l l2 A m c hs hown hx hr hn hbase fun g' cp' w' h2 h3 => hK _ _ (h g' cp' w' h2 h3)
/-- the like at a step of a region that draws its order -/
theorem step_app_any {ops : Array Oper} {o : Oper} {a : Act} {K : Act → World → Prop} {Q : Exit → Act → World → Prop} {E : Prop} {w : World} (hgd : o.guard = none) (s x : Operand)
    (ho : o.op = .call { callee := .builtin .append, args := #[s, x], argTypes := #[26, 26] })
    (base g n cp B : Nat) (l l2 : List (Int × Int)) (A : Option Addr) (m c : Nat) (hs : a.eval s = .slice (some ⟨g, 0, none⟩) n cp) (hown : w.ownsRow base 50 2 (.slice (some ⟨g, 0, none⟩) n cp) n (pc l))
    (hx : a.eval x = .slice A m c) (hr : Rd w B 2 A m (pc l2)) (hn : n + m ≤ 1048576) (hbase : base ≤ w.heap.size)
    (h : ∀ g' cp' w', w'.ownsRow base 50 2 (.slice (some ⟨g', 0, none⟩) (n + m) cp') (n + m) (pc (l ++ l2)) → w.grownBy w' (some g) → K (a.put o.dst (.slice (some ⟨g', 0, none⟩) (n + m) cp')) w') :
    if Region.wanted o (yielded ops a.tmps) = true then Oper.wp Try.prog o a w K Q else E := by
  have hw : Region.wanted o (yielded ops a.tmps) = true := by simp [Region.wanted, hgd]
  rw [if_pos hw]
  exact wp_app_any s x ho base g n cp B l l2 A m c hs hown hx hr hn hbase h

/-- a row of pins that a call made, at an address of its own -/
def OwnP (w : World) (l : List (Int × Int)) (E : Ending) (w' : World) : Prop :=
  ∃ g c, E = .returned (.slice (some ⟨g, 0, none⟩) l.length c) ∧ w'.ownsRow w.heap.size 50 2 (.slice (some ⟨g, 0, none⟩) l.length c) l.length (pc l) ∧ Below w.heap.size w w'

theorem iCopyPins (A : Option Addr) (n c : Nat) (xs : List (Int × Int)) (w : World) (h : Rd w w.heap.size 2 A n (pc xs)) (hn : n ≤ 1048576) :
    Calls Try.prog 40 #[.slice A n c] w (OwnP w xs) := by
  have hlen := h.pair
  have HL := Lib.hid hlen
  have H := Lib.hid (h.alloc (Nat.le_refl _) (.cells #[] 50))
  have OE := Lib.hid (own_empty w 50 2 w.heap.size (Nat.le_refl _))
  clear h hlen
  go_enter Try.func40, Try.ntmps40
  go_wp2_with (at_builtin; refine wpList_app_any rfl (.tmp 3) (.tmp 4) rfl w.heap.size _ 0 0 _ [] xs A n c rfl OE.out rfl H.out (by omega) (by simp) ?_; intro g' cp' w' hown' hg')
  go_ret
  refine ⟨g', cp', ?_, ?_, ((Below.refl _ _).alloc (Nat.le_refl _) _).grown hg' (by simp) (fun k hk => by injection hk with hk; omega)⟩
  · rw [HL.out]
    rfl
  · rw [HL.out]
    simpa using hown'

end Go.Proofs.Ytjklobhnidbinaa
