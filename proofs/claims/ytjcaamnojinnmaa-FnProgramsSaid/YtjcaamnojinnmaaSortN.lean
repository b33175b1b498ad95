/-
  The reference's SortNotes: a list of at most 40 notes in order, each once, as a slice of its own.
-/
import Derived.Test.YtjcaamnojinnmaaTuneSort
import Derived.Test.YtjcaamnojinnmaaAppNote
import Derived.Test.YtjcaamnojinnmaaCls
import Derived.Deep.DeepCutAuto
import Derived.Deep.RegionHeld3
namespace Go.Proofs.Ytjcaamnojinnmaa
open Go.RowKit

/-- what SortNotes holds of its list, in a world in which nothing of W has turned -/
def SI (W : World) (g m cp : Nat) (l : List (Int × Int)) (w : World) : Prop := w.ownsRow W.heap.size 67 2 (.slice (some ⟨g, 0, none⟩) m cp) m (pc l) ∧ Below W.heap.size W w
theorem SI.step {W : World} {g m cp : Nat} {l : List (Int × Int)} (w w' : World) (h : SI W g m cp l w) (hb : Below w.heap.size w w') : SI W g m cp l w' :=
  ⟨own_below h.1 hb, h.2.trans (hb.mono h.2.size)⟩
theorem SI.at {W w : World} {g m cp k : Nat} {l : List (Int × Int)} {p : Int × Int} (h : SI W g m cp l w) (hk : l[k]? = some p) : w.cell? ⟨g, k * 2, none⟩ = some (.int .i64 p.1) ∧ w.cell? ⟨g, k * 2 + 1, none⟩ = some (.int .i64 p.2) := by
  have hn := own_pair_len h.1
  have hlt := (List.getElem?_eq_some_iff.1 hk).1
  obtain ⟨b, o, e, _, hc⟩ := (Rd.of_own h.1).pairAt (by omega)
  injection e with e
  injection e with e1 e2
  subst e1 e2
  have := hc k p hk
  simpa using this
theorem take_note {l : List (Int × Int)} {k : Nat} {p : Int × Int} (h : l[k]? = some p) : l.take (k + 1) = l.take k ++ [p] := by
  obtain ⟨hk, rfl⟩ := List.getElem?_eq_some_iff.1 h
  rw [List.take_succ_eq_append_getElem hk]
theorem SI.bl {W w : World} {g m cp : Nat} {l : List (Int × Int)} (h : SI W g m cp l w) : W.heap.size ≤ g ∧ g < w.heap.size := h.1.lt g rfl
theorem less_cls {a b x y : Int} {q : Bool} {Inv : World → Prop} (hq : lessN (a, b) (x, y) = q) (hs : ∀ w w', Inv w → Below w.heap.size w w' → Inv w') (p : Cls Inv) :
    Calls Try.prog 60 #[.agg #[.int .i64 a, .int .i64 b], .agg #[.int .i64 x, .int .i64 y]] p.w fun e w'' => e = .returned (.bool q) ∧ ∃ q : Cls Inv, w'' = q.w :=
  Calls.cls ((sLess a b x y p.w).mono fun _ _ ⟨he, hb⟩ => ⟨by rw [he, hq], hs _ _ p.h hb⟩)

theorem SI.drew {W w : World} {g m cp : Nat} {l : List (Int × Int)} (h : SI W g m cp l w) : SI W g m cp l w.drew := ⟨own_drew1 h.1, h.2.drew⟩
theorem SI.alloc {W w : World} {g m cp : Nat} {l : List (Int × Int)} (h : SI W g m cp l w) (o : Obj) : SI W g m cp l (w.alloc o) := ⟨h.1.alloc o, h.2.alloc h.2.size o⟩
theorem SI.grown {W w w' : World} {g m cp e : Nat} {l : List (Int × Int)} (h : SI W g m cp l w) (hg : w.grownBy w' (some e)) (hne : g ≠ e) (he : W.heap.size ≤ e) : SI W g m cp l w' :=
  ⟨h.1.kept hg (Or.inr fun k => hne (by injection k)), h.2.grown hg h.2.size fun k hk => by injection hk with hk; omega⟩
theorem SI.drewN {W w : World} {g m cp : Nat} {l : List (Int × Int)} (h : SI W g m cp l w) (k : Nat) : SI W g m cp l (w.drewN k) := ⟨own_drewN h.1 k, h.2.trans (Go.Joins.below_draws _ _ _)⟩
/-- the three worlds in which the first of three appends may come up: the empty row, what SortNotes holds, the note's block -/
theorem app_at {W : World} {g m cp : Nat} {l : List (Int × Int)} (w2 : World) (h : SI W g m cp l w2) (q : Int × Int) :
    ((w2.alloc (.cells #[] 67)).drew.ownsRow w2.heap.size 67 2 (.slice (some ⟨w2.heap.size, 0, none⟩) 0 0) 0 (pc []) ∧ SI W g m cp l (w2.alloc (.cells #[] 67)).drew ∧ w2.heap.size ≤ (w2.alloc (.cells #[] 67)).drew.heap.size) ∧
    (((w2.alloc (.cells #[] 67)).alloc (.cells #[.int .i64 q.1, .int .i64 q.2] 67)).drew.ownsRow w2.heap.size 67 2 (.slice (some ⟨w2.heap.size, 0, none⟩) 0 0) 0 (pc []) ∧ SI W g m cp l ((w2.alloc (.cells #[] 67)).alloc (.cells #[.int .i64 q.1, .int .i64 q.2] 67)).drew ∧ w2.heap.size ≤ ((w2.alloc (.cells #[] 67)).alloc (.cells #[.int .i64 q.1, .int .i64 q.2] 67)).drew.heap.size ∧ Blk ((w2.alloc (.cells #[] 67)).alloc (.cells #[.int .i64 q.1, .int .i64 q.2] 67)).drew (w2.heap.size + 1) 67 #[.int .i64 q.1, .int .i64 q.2]) ∧
    (((w2.alloc (.cells #[.int .i64 q.1, .int .i64 q.2] 67)).alloc (.cells #[] 67)).drew.ownsRow w2.heap.size 67 2 (.slice (some ⟨w2.heap.size + 1, 0, none⟩) 0 0) 0 (pc []) ∧ SI W g m cp l ((w2.alloc (.cells #[.int .i64 q.1, .int .i64 q.2] 67)).alloc (.cells #[] 67)).drew ∧ w2.heap.size ≤ ((w2.alloc (.cells #[.int .i64 q.1, .int .i64 q.2] 67)).alloc (.cells #[] 67)).drew.heap.size ∧ Blk ((w2.alloc (.cells #[.int .i64 q.1, .int .i64 q.2] 67)).alloc (.cells #[] 67)).drew w2.heap.size 67 #[.int .i64 q.1, .int .i64 q.2]) := by
  refine ⟨⟨own_drew1 (own_empty w2 _ 2 _ (Nat.le_refl _)), (h.alloc _).drew, by simp⟩, ⟨own_drew1 ((own_empty w2 _ 2 _ (Nat.le_refl _)).alloc _), ((h.alloc _).alloc _).drew, by simp; omega, ?_⟩, ⟨?_, ((h.alloc _).alloc _).drew, by simp; omega, (Blk.new w2 _ _).alloc _⟩⟩
  · have := Blk.new (w2.alloc (.cells #[] 67)) 67 #[.int .i64 q.1, .int .i64 q.2]
    simp at this
    exact this
  · have := own_drew1 (own_empty (w2.alloc (.cells #[.int .i64 q.1, .int .i64 q.2] 67)) 67 2 w2.heap.size (by simp))
    simpa [pc] using this
theorem SI.grownV {W w w' : World} {g m cp base n : Nat} {v : Value} {l l' : List (Int × Int)} {e : TypeId} (h : SI W g m cp l w) (ho : w.ownsRow base e 2 v n (pc l')) (hg : w.grownBy w' v.ownBlock) (hb : g < base) (hB : W.heap.size ≤ base) : SI W g m cp l w' := by
  have hlt := ho.lt
  refine ⟨h.1.kept hg (Or.inr fun k => ?_), h.2.grown hg h.2.size fun k hk => by have := (hlt k hk).1; omega⟩
  have := (hlt g (by rw [← k]; rfl)).1
  omega
theorem pc_take : ∀ (l : List (Int × Int)) (j : Nat), pc (l.take j) = (pc l).take (j * 2)
  | [], j => by simp [pc]
  | p :: l, 0 => by simp [pc]
  | p :: l, j + 1 => by
    rw [List.take_succ_cons, show (j + 1) * 2 = j * 2 + 1 + 1 by omega]
    simp [pc, pc_take l j]
theorem pc_drop : ∀ (l : List (Int × Int)) (j : Nat), pc (l.drop j) = (pc l).drop (j * 2)
  | [], j => by simp [pc]
  | p :: l, 0 => by simp
  | p :: l, j + 1 => by
    rw [List.drop_succ_cons, show (j + 1) * 2 = j * 2 + 1 + 1 by omega]
    simp [pc, pc_drop l j]
theorem add_off (g o j : Nat) : (⟨g, o, none⟩ : Addr).add j = ⟨g, o + j, none⟩ := by
  by_cases h : j = 0
  · subst h; rfl
  · simp [Addr.add, h]
theorem SI.cellAt {W w : World} {g m cp : Nat} {l : List (Int × Int)} (h : SI W g m cp l w) {j : Nat} {u : Value} (hj : (pc l)[j]? = some u) : w.cell? ⟨g, j, none⟩ = some u := by
  have := h.1.cells (g := g) rfl j u hj
  rw [add_off, Nat.zero_add] at this
  exact this
theorem SI.newsT {W w : World} {g m cp : Nat} {l : List (Int × Int)} (h : SI W g m cp l w) (t : Nat) : ∀ j u, (pc (l.take t))[j]? = some u → w.cell? ((⟨g, 0, none⟩ : Addr).add j) = some u := fun j u hu => by
  rw [add_off, Nat.zero_add]
  rw [pc_take, List.getElem?_take] at hu
  split at hu
  · exact h.cellAt hu
  · cases hu
theorem SI.newsD {W w : World} {g m cp : Nat} {l : List (Int × Int)} (h : SI W g m cp l w) (t : Nat) : ∀ j u, (pc (l.drop t))[j]? = some u → w.cell? ((⟨g, t * 2, none⟩ : Addr).add j) = some u := fun j u hu => by
  rw [add_off]
  rw [pc_drop, List.getElem?_drop] at hu
  exact h.cellAt hu

theorem blk_grown1 {w w' : World} {g e : Nat} {t : TypeId} {cs : Array Value} (h : Blk w g t cs) (hg : w.grownBy w' (some e)) (hne : g ≠ e) : Blk w' g t cs := h.grown hg (fun k => hne (by injection k))
theorem news_end {l : List (Int × Int)} {j : Nat} (h : l.length = j) (w : World) (ad : Addr) : ∀ i u, (pc (l.drop j))[i]? = some u → w.cell? (ad.add i) = some u := fun i u hu => by
  rw [List.drop_of_length_le (by omega)] at hu
  simp [pc] at hu
theorem own_some {w : World} {base size n : Nat} {v : Value} {xs : List Value} {e : TypeId} (h : w.ownsRow base e size v n xs) (hn : 0 < n) : ∃ g cp, v = .slice (some ⟨g, 0, none⟩) n cp := by
  rcases h.2 with ⟨_, hz⟩ | ⟨g, cap, cur, h', _⟩
  · omega
  · exact ⟨g, cap, h'⟩
theorem news_blk {w : World} {g : Nat} {q : Int × Int} (h : Blk w g 67 #[.int .i64 q.1, .int .i64 q.2]) : ∀ j u, (pc [q])[j]? = some u → w.cell? ((⟨g, 0, none⟩ : Addr).add j) = some u := fun j u hu => by
  rw [add_off, Nat.zero_add, h.cell j]
  simpa [pc] using hu
theorem news_new (w : World) (g : Nat) (q : Int × Int) (hg : w.heap.size = g) : ∀ j u, (pc [q])[j]? = some u → (w.alloc (.cells #[.int .i64 q.1, .int .i64 q.2] 67)).cell? ((⟨g, 0, none⟩ : Addr).add j) = some u := by
  subst hg
  exact news_blk (Blk.new _ _ _)

/-- some notes appended to a row of the call's own, at a step of a region that draws its order -/
theorem step_app_row {ops : Array Oper} {o : Oper} {a : Act} {K : Act → World → Prop} {Q : Exit → Act → World → Prop} {E : Prop} {w : World} (hgd : o.guard = none) (s x : Operand)
    (ho : o.op = .call { callee := .builtin .append, args := #[s, x], argTypes := #[46, 46] })
    (base : Nat) (v : Value) (n : Nat) (l : List (Int × Int)) (hs : a.eval s = v) (hown : w.ownsRow base 67 2 v n (pc l))
    (ad : Addr) (m c : Nat) (l2 : List (Int × Int)) (hx : a.eval x = .slice (some ad) m c) (hl2 : l2.length = m) (hnews : ∀ j u, (pc l2)[j]? = some u → w.cell? (ad.add j) = some u) (hn : n + m ≤ 1048576) (hbase : base ≤ w.heap.size)
    (h : ∀ v' w', w'.ownsRow base 67 2 v' (n + m) (pc (l ++ l2)) → w.grownBy w' v.ownBlock → K (a.put o.dst v') w') :
    if Region.wanted o (yielded ops a.tmps) = true then Oper.wp Try.prog o a w K Q else E := by
  have hw : Region.wanted o (yielded ops a.tmps) = true := by simp [Region.wanted, hgd]
  rw [if_pos hw]
  obtain ⟨i0, hi, hz0, hz1, hz2⟩ := info_parts infoNote
  refine wp_append_own _ s x _ ho base 67 i0 (.agg #[.int .i64 0, .int .i64 0]) 2 16 Try.underlying46 hi hz0 hz1 hz2 rfl (by decide) v n _ hs hown ad m c (pc l2) hx (by rw [pc_length, hl2]) hnews (pc_one l2) ?_ ?_ hbase ?_
  · unfold maxLen; omega
  · omega
  · intro v' w' hown' hg _
    exact h v' w' (by rw [pc_append]; exact hown') hg

set_option maxHeartbeats 4000000 in
theorem sSortNotes (A : Option Addr) (n c : Nat) (xs : List (Int × Int)) (w : World) (h : Rd w w.heap.size 2 A n (pc xs)) (hn : n ≤ 40) :
    Calls Try.prog 63 #[.slice A n c] w (MadeP w (sortN xs)) := by
  have hlen := h.pair
  have H := Lib.hid h
  have HL := Lib.hid hlen
  clear h hlen
  have OE := Lib.hid (own_empty w 67 2 w.heap.size (Nat.le_refl _))
  have hn40 : (n : Int) ≤ 40 := by omega
  go_enter Try.func63, Try.ntmps63
  go_wp2
  go_loopw [3, 4] (fun v i wr => ∃ (k g m cp : Nat) (l : List (Int × Int)), k ≤ n ∧ i = .int .i64 k ∧ v = .slice (some ⟨g, 0, none⟩) m cp ∧ Hid (l = sortN (xs.take k)) ∧ SI w g m cp l wr) (fun _ i _ => n - (intOf i).toNat)
  case atStart => exact ⟨0, w.heap.size, 0, 0, [], Nat.zero_le _, rfl, rfl, rfl, OE.out, (Below.refl _ _).alloc (Nat.le_refl _) _⟩
  case round =>
    obtain ⟨k, g, m, cp, l, hk, rfl, rfl, hl, hI⟩ := hrel
    by_cases hlt : (k : Int) < n
    · obtain ⟨b, o, rfl, hbB, hcell⟩ := H.out.pairAt (by omega)
      obtain ⟨⟨x, y⟩, hx⟩ : ∃ p, xs[k]? = some p := ⟨_, List.getElem?_eq_getElem (by rw [HL.out]; omega)⟩
      obtain ⟨g0, g1⟩ := hcell k _ hx
      have G0 := Lib.hid g0
      have G1 := Lib.hid g1
      have hm := own_pair_len hI.1
      have hm40 : m ≤ 40 := by
        have := sort_len (xs.take k)
        rw [← hl.out] at this
        simp at this
        omega
      have hmi : (m : Int) ≤ 40 := by omega
      have hmc : (m : Int) ≤ cp := by have := own_capS hI.1; omega
      have HX := Lib.hid hx
      have HM := Lib.hid hm
      obtain ⟨hgb, _⟩ := hI.bl
      have hgb' : b < g := by omega
      have HI := Lib.hid hI
      clear hx hm hcell g0 g1 hI
      obtain ⟨wo, rfl⟩ : ∃ wo : World, wo = wr := ⟨_, rfl⟩
      go_wp2
      go_loopw [5] (fun i wr => ∃ j : Nat, j ≤ atN l (x, y) ∧ i = .int .i64 j ∧ SI w g m cp l wr) (fun i _ => m - (intOf i).toNat)
      case atStart => exact ⟨0, Nat.zero_le _, rfl, HI.out⟩
      case round =>
        obtain ⟨j, hj, rfl, hJ⟩ := hrel
        have hle := atN_le l (x, y)
        rw [HM.out] at hle
        by_cases hjm : (j : Int) < m
        · obtain ⟨⟨u, v⟩, hz⟩ : ∃ p, l[j]? = some p := ⟨_, List.getElem?_eq_getElem (by rw [HM.out]; omega)⟩
          have c0 : ∀ p : Cls (SI w g m cp l), p.w.cell? ⟨b, o + k * 2, none⟩ = some (.int .i64 x) := fun p => (p.h.2.cell (p := ⟨b, o + k * 2, none⟩) hbB).trans G0.out
          have c1 : ∀ p : Cls (SI w g m cp l), p.w.cell? ⟨b, o + k * 2 + 1, none⟩ = some (.int .i64 y) := fun p => (p.h.2.cell (p := ⟨b, o + k * 2 + 1, none⟩) hbB).trans G1.out
          have d0 : ∀ p : Cls (SI w g m cp l), p.w.cell? ⟨g, j * 2, none⟩ = some (.int .i64 u) := fun p => (p.h.at hz).1
          have d1 : ∀ p : Cls (SI w g m cp l), p.w.cell? ⟨g, j * 2 + 1, none⟩ = some (.int .i64 v) := fun p => (p.h.at hz).2
          have HJ := Lib.hid hJ
          have HZ := Lib.hid hz
          haveI : Nonempty (Cls (SI w g m cp l)) := ⟨⟨_, hJ⟩⟩
          clear hJ hz
          cases hq : lessN (u, v) (x, y)
          · have ha : atN l (x, y) = j := by
              rcases Nat.lt_or_ge j (atN l (x, y)) with h1 | h1
              · rw [atN_before h1 HZ.out] at hq
                cases hq
              · omega
            have HQ := Lib.hid hq
            have HAJ := Lib.hid ha
            clear hq ha
            go_wp2
            refine wp_region_cls (Inv := SI w g m cp l) (by kernel_rfl) (by kernel_rfl) ⟨HJ.out.1, HJ.out.2.drew⟩ ?_
            repeat (first | go_big_quiet_step ((go_at_call 60; with_reducible exact less_cls HQ.out SI.step _)))
            refine wpQuiet_nil ?_
            rintro _ ⟨p, rfl⟩
            have hjj : ((j : Int) == m) = false := by simp; omega
            have c0 := c0 p
            have c1 := c1 p
            have d0 := d0 p
            have d1 := d1 p
            have PH := Lib.hid p.h
            obtain ⟨wa, hwa⟩ : ∃ wa, wa = p.w := ⟨_, rfl⟩
            rw [← hwa] at c0 c1 d0 d1 PH ⊢
            clear hwa p HJ
            by_cases e1 : u = x ∧ v = y
            · obtain ⟨rfl, rfl⟩ := e1
              have hins : sortN (xs.take (k + 1)) = l := by
                rw [take_note HX.out, sort_snoc, ← hl.out, insN, if_pos (by rw [HAJ.out]; exact HZ.out)]
              have HIN := Lib.hid hins
              clear hins
              go_wp2
              go_quiet (fail)
              go_wp2
              go_roundw
              case rel => exact ⟨k + 1, g, m, cp, l, by omega, by go_num, rfl, HIN.out.symm, PH.out.drewN _⟩
              case measure => simp [intOf] <;> omega
            have hne : l[atN l (x, y)]? ≠ some (x, y) := by
              rw [HAJ.out, HZ.out]
              intro e
              injection e with e
              injection e with e2 e3
              exact e1 ⟨e2, e3⟩
            have hins : sortN (xs.take (k + 1)) = l.take j ++ [(x, y)] ++ l.drop j := by
              rw [take_note HX.out, sort_snoc, ← hl.out, insN, if_neg hne, HAJ.out]
            have HIN := Lib.hid hins
            have hux : (u == x) = false ∨ ((u == x) = true ∧ (v == y) = false) := by
              by_cases e2 : u = x
              · right; exact ⟨by simp [e2], by simp; intro e3; exact e1 ⟨e2, e3⟩⟩
              · left; simp [e2]
            clear hne hins e1
            rcases hux with hux | ⟨hux, hvy⟩
            all_goals
              go_wp2
              go_quiet (fail)
              obtain ⟨w2, hw2⟩ : ∃ w2, w2 = wa.drewN nq := ⟨_, rfl⟩
              have J2 := PH.out.drewN nq
              rw [← hw2] at J2 ⊢
              clear hw2
              have hgs := J2.bl
              obtain ⟨hg1, hg2⟩ := hgs
              have z2 := J2.2.size
              have c0 : w2.cell? ⟨b, o + k * 2, none⟩ = some (.int .i64 x) := (J2.2.cell (p := ⟨b, o + k * 2, none⟩) hbB).trans G0.out
              have c1 : w2.cell? ⟨b, o + k * 2 + 1, none⟩ = some (.int .i64 y) := (J2.2.cell (p := ⟨b, o + k * 2 + 1, none⟩) hbB).trans G1.out
              have hl1 : (l.take j).length = j := by rw [List.length_take, HM.out]; omega
              have hl2 : (l.drop j).length = m - j := by rw [List.length_drop, HM.out]
              have L1 := Lib.hid hl1
              have L2 := Lib.hid hl2
              have F1 := Lib.hid (app_at w2 J2 (x, y))
              clear hl1 hl2
              go_wp2
              have X1 : g ≠ w2.heap.size := by omega
              have X2 : g ≠ w2.heap.size + 1 := by omega
              have Z3 : w.heap.size ≤ w2.heap.size + 1 := by omega
              have X3 : w2.heap.size + 1 ≠ w2.heap.size := by omega
              have X4 : w2.heap.size ≠ w2.heap.size + 1 := by omega
              have A41 : 0 + j + 1 + (m - j) ≤ 1048576 := by omega
              have n0 := World.new_ne w2 _ c0
              have n1 := World.new_ne w2 _ c1
              have hjc2 : (j : Int) < cp := by omega
              have hjc3 : j < cp := by omega
              have hjc4 : ¬ cp = j := by omega
              have y1 : j ≤ m := by omega
              have y2 : m ≤ cp := by omega
              have y3 : j ≤ cp := by omega
              have y4 : (j : Int) ≤ m := by omega
              have y5 : (j : Int) ≤ cp := by omega
              have y6 : (0 : Int) ≤ j := by omega
              have y7 : (0 : Int) ≤ m := by omega
              all_goals
                go_region_held3 (fun w' => w'.cell? ⟨b, o + k * 2, none⟩ = some (.int .i64 x) ∧ w'.cell? ⟨b, o + k * 2 + 1, none⟩ = some (.int .i64 y)) (first | go_keep | exact ⟨k0, k1⟩) (first
                  | (refine step_app_row (by rfl) (.tmp 50) (.tmp 53) (by rfl) w2.heap.size _ 0 [] (by rfl) (by first | exact F1.out.1.1 | exact F1.out.2.1.1 | exact F1.out.2.2.1) _ _ _ (l.take j) (by rfl) L1.out (by first | exact F1.out.1.2.1.newsT j | exact F1.out.2.1.2.1.newsT j | exact F1.out.2.2.2.1.newsT j) (by omega) (by first | exact F1.out.1.2.2 | exact F1.out.2.1.2.2.1 | exact F1.out.2.2.2.2.1) ?_; intro v1 w3 own1 hga; (first | (have J3 := F1.out.1.2.1.grown hga X1 z2) | (have J3 := F1.out.2.1.2.1.grown hga X1 z2) | (have J3 := F1.out.2.2.2.1.grown hga X2 Z3)); have Y3 := Nat.le_trans (by first | exact F1.out.1.2.2 | exact F1.out.2.1.2.2.1 | exact F1.out.2.2.2.2.1) hga.size; have k0 := (J3.2.cell (p := ⟨b, o + k * 2, none⟩) hbB).trans G0.out; have k1 := (J3.2.cell (p := ⟨b, o + k * 2 + 1, none⟩) hbB).trans G1.out; (first | (have BN := blk_grown1 F1.out.2.1.2.2.2 hga X3) | (have BN := blk_grown1 F1.out.2.2.2.2.2 hga X4) | skip); have n0 := World.new_ne w3 _ k0; have n1 := World.new_ne w3 _ k1)
                  | (refine step_app_row (by rfl) (.tmp 54) (.tmp 59) (by rfl) w2.heap.size _ _ (l.take j) (by rfl) (by first | exact own1.alloc _ | exact own1) _ 1 _ [(x, y)] (by rfl) rfl (by first | exact news_new _ _ (x, y) rfl | exact news_blk BN) (by omega) (by first | exact Y3 | exact Nat.le_trans Y3 (World.grownBy_alloc w3 _ none).size) ?_; intro v2 w4 own2 hgb; (first | (have J4 := (J3.alloc _).grownV (own1.alloc _) hgb hg2 z2) | (have J4 := J3.grownV own1 hgb hg2 z2)); have Y4 : w2.heap.size ≤ w4.heap.size := Nat.le_trans Y3 (Nat.le_trans (by simp) hgb.size); have k0 := (J4.2.cell (p := ⟨b, o + k * 2, none⟩) hbB).trans G0.out; have k1 := (J4.2.cell (p := ⟨b, o + k * 2 + 1, none⟩) hbB).trans G1.out)
                  | (refine step_app_row (by rfl) (.tmp 60) (.tmp 63) (by rfl) w2.heap.size _ _ _ (by rfl) own2 ⟨g, j * 2, none⟩ (m - j) (cp - j) (l.drop j) (by rfl) L2.out (J4.newsD j) A41 Y4 ?_; intro v3 w5 own3 hgc; have J5 := J4.grownV own2 hgc hg2 z2; have k0 := (J5.2.cell (p := ⟨b, o + k * 2, none⟩) hbB).trans G0.out; have k1 := (J5.2.cell (p := ⟨b, o + k * 2 + 1, none⟩) hbB).trans G1.out))
              all_goals
                obtain ⟨g', cp', rfl⟩ := own_some own3 (by omega)
                have O3 := Lib.hid (own_base own3 z2)
                have J5b := Lib.hid J5.2
                clear own3 own2 own1 hga hgb hgc
                go_wp2
                go_roundw
                case rel => exact ⟨k + 1, g', _, cp', _, by omega, by go_num, rfl, HIN.out.symm, O3.out, J5b.out⟩
                case measure => simp [intOf] <;> omega
          · have hj2 : j + 1 ≤ atN l (x, y) := by
              rcases Nat.lt_or_ge j (atN l (x, y)) with h1 | h1
              · exact h1
              · have e : j = atN l (x, y) := by omega
                have := atN_stop (e ▸ HZ.out)
                rw [hq] at this
                cases this
            have HQ := Lib.hid hq
            clear hq
            go_wp2
            refine wp_region_cls (Inv := SI w g m cp l) (by kernel_rfl) (by kernel_rfl) ⟨HJ.out.1, HJ.out.2.drew⟩ ?_
            repeat (first | go_big_quiet_step ((go_at_call 60; with_reducible exact less_cls HQ.out SI.step _)))
            refine wpQuiet_nil ?_
            rintro _ ⟨p, rfl⟩
            go_wp2
            go_roundw
            case rel => exact ⟨j + 1, hj2, by go_num, p.h⟩
            case measure => simp [intOf] <;> omega
        · obtain rfl : j = m := by omega
          have ha : atN l (x, y) = j := by omega
          have hne : l[atN l (x, y)]? ≠ some (x, y) := by rw [ha, List.getElem?_eq_none (by rw [HM.out]; omega)]; simp
          have hins : sortN (xs.take (k + 1)) = l.take j ++ [(x, y)] ++ l.drop j := by
            rw [take_note HX.out, sort_snoc, ← hl.out, insN, if_neg hne, ha]
          have HIN := Lib.hid hins
          have HJ := Lib.hid hJ
          have hjj : ((j : Int) == j) = true := by simp
          clear hne hins hJ ha
          go_wp2
          go_quiet (fail)
          obtain ⟨wa, hwa⟩ : ∃ wa, wa = wr.drewN nq := ⟨_, rfl⟩
          have JA := HJ.out.drewN nq
          rw [← hwa] at JA ⊢
          clear hwa HJ
          go_wp2
          go_quiet (fail)
          obtain ⟨w2, hw2⟩ : ∃ w2, w2 = wa.drewN nq := ⟨_, rfl⟩
          have J2 := JA.drewN nq
          rw [← hw2] at J2 ⊢
          clear hw2 JA
          have hgs := J2.bl
          obtain ⟨hg1, hg2⟩ := hgs
          have z2 := J2.2.size
          have c0 : w2.cell? ⟨b, o + k * 2, none⟩ = some (.int .i64 x) := (J2.2.cell (p := ⟨b, o + k * 2, none⟩) hbB).trans G0.out
          have c1 : w2.cell? ⟨b, o + k * 2 + 1, none⟩ = some (.int .i64 y) := (J2.2.cell (p := ⟨b, o + k * 2 + 1, none⟩) hbB).trans G1.out
          have hl1 : (l.take j).length = j := by rw [List.length_take, HM.out]; omega
          have hl2 : (l.drop j).length = 0 := by rw [List.length_drop, HM.out]; omega
          have L1 := Lib.hid hl1
          have L2 := Lib.hid hl2
          have F1 := Lib.hid (app_at w2 J2 (x, y))
          clear hl1 hl2
          go_wp2
          have X1 : g ≠ w2.heap.size := by omega
          have X2 : g ≠ w2.heap.size + 1 := by omega
          have Z3 : w.heap.size ≤ w2.heap.size + 1 := by omega
          have X3 : w2.heap.size + 1 ≠ w2.heap.size := by omega
          have X4 : w2.heap.size ≠ w2.heap.size + 1 := by omega
          have A41 : 0 + j + 1 + 0 ≤ 1048576 := by omega
          have n0 := World.new_ne w2 _ c0
          have n1 := World.new_ne w2 _ c1
          rcases Decidable.em (j = cp) with hjc | hjc
          · subst hjc
            all_goals
              go_region_held3 (fun w' => w'.cell? ⟨b, o + k * 2, none⟩ = some (.int .i64 x) ∧ w'.cell? ⟨b, o + k * 2 + 1, none⟩ = some (.int .i64 y)) (first | go_keep | exact ⟨k0, k1⟩) (first
                | (refine step_app_row (by rfl) (.tmp 50) (.tmp 53) (by rfl) w2.heap.size _ 0 [] (by rfl) (by first | exact F1.out.1.1 | exact F1.out.2.1.1 | exact F1.out.2.2.1) _ _ _ (l.take j) (by rfl) L1.out (by first | exact F1.out.1.2.1.newsT j | exact F1.out.2.1.2.1.newsT j | exact F1.out.2.2.2.1.newsT j) (by omega) (by first | exact F1.out.1.2.2 | exact F1.out.2.1.2.2.1 | exact F1.out.2.2.2.2.1) ?_; intro v1 w3 own1 hga; (first | (have J3 := F1.out.1.2.1.grown hga X1 z2) | (have J3 := F1.out.2.1.2.1.grown hga X1 z2) | (have J3 := F1.out.2.2.2.1.grown hga X2 Z3)); have Y3 := Nat.le_trans (by first | exact F1.out.1.2.2 | exact F1.out.2.1.2.2.1 | exact F1.out.2.2.2.2.1) hga.size; have k0 := (J3.2.cell (p := ⟨b, o + k * 2, none⟩) hbB).trans G0.out; have k1 := (J3.2.cell (p := ⟨b, o + k * 2 + 1, none⟩) hbB).trans G1.out; (first | (have BN := blk_grown1 F1.out.2.1.2.2.2 hga X3) | (have BN := blk_grown1 F1.out.2.2.2.2.2 hga X4) | skip); have n0 := World.new_ne w3 _ k0; have n1 := World.new_ne w3 _ k1)
                | (refine step_app_row (by rfl) (.tmp 54) (.tmp 59) (by rfl) w2.heap.size _ _ (l.take j) (by rfl) (by first | exact own1.alloc _ | exact own1) _ 1 _ [(x, y)] (by rfl) rfl (by first | exact news_new _ _ (x, y) rfl | exact news_blk BN) (by omega) (by first | exact Y3 | exact Nat.le_trans Y3 (World.grownBy_alloc w3 _ none).size) ?_; intro v2 w4 own2 hgb; (first | (have J4 := (J3.alloc _).grownV (own1.alloc _) hgb hg2 z2) | (have J4 := J3.grownV own1 hgb hg2 z2)); have Y4 : w2.heap.size ≤ w4.heap.size := Nat.le_trans Y3 (Nat.le_trans (by simp) hgb.size); have k0 := (J4.2.cell (p := ⟨b, o + k * 2, none⟩) hbB).trans G0.out; have k1 := (J4.2.cell (p := ⟨b, o + k * 2 + 1, none⟩) hbB).trans G1.out)
                | (refine step_app_row (by rfl) (.tmp 60) (.tmp 63) (by rfl) w2.heap.size _ _ _ (by rfl) own2 _ _ _ (l.drop j) (by rfl) L2.out (news_end HM.out _ _) A41 Y4 ?_; intro v3 w5 own3 hgc; have J5 := J4.grownV own2 hgc hg2 z2; have k0 := (J5.2.cell (p := ⟨b, o + k * 2, none⟩) hbB).trans G0.out; have k1 := (J5.2.cell (p := ⟨b, o + k * 2 + 1, none⟩) hbB).trans G1.out))
            all_goals
              obtain ⟨g', cp', rfl⟩ := own_some own3 (by omega)
              have O3 := Lib.hid (own_base own3 z2)
              have J5b := Lib.hid J5.2
              clear own3 own2 own1 hga hgb hgc
              go_wp2
              go_roundw
              case rel => exact ⟨k + 1, g', _, cp', _, by omega, by go_num, rfl, HIN.out.symm, O3.out, J5b.out⟩
              case measure => simp [intOf] <;> omega
          have hjc2 : (j : Int) < cp := by omega
          have hjc3 : j < cp := by omega
          have hjc4 : ¬ cp = j := by omega
          clear hjc
          all_goals
            go_region_held3 (fun w' => w'.cell? ⟨b, o + k * 2, none⟩ = some (.int .i64 x) ∧ w'.cell? ⟨b, o + k * 2 + 1, none⟩ = some (.int .i64 y)) (first | go_keep | exact ⟨k0, k1⟩) (first
              | (refine step_app_row (by rfl) (.tmp 50) (.tmp 53) (by rfl) w2.heap.size _ 0 [] (by rfl) (by first | exact F1.out.1.1 | exact F1.out.2.1.1 | exact F1.out.2.2.1) _ _ _ (l.take j) (by rfl) L1.out (by first | exact F1.out.1.2.1.newsT j | exact F1.out.2.1.2.1.newsT j | exact F1.out.2.2.2.1.newsT j) (by omega) (by first | exact F1.out.1.2.2 | exact F1.out.2.1.2.2.1 | exact F1.out.2.2.2.2.1) ?_; intro v1 w3 own1 hga; (first | (have J3 := F1.out.1.2.1.grown hga X1 z2) | (have J3 := F1.out.2.1.2.1.grown hga X1 z2) | (have J3 := F1.out.2.2.2.1.grown hga X2 Z3)); have Y3 := Nat.le_trans (by first | exact F1.out.1.2.2 | exact F1.out.2.1.2.2.1 | exact F1.out.2.2.2.2.1) hga.size; have k0 := (J3.2.cell (p := ⟨b, o + k * 2, none⟩) hbB).trans G0.out; have k1 := (J3.2.cell (p := ⟨b, o + k * 2 + 1, none⟩) hbB).trans G1.out; (first | (have BN := blk_grown1 F1.out.2.1.2.2.2 hga X3) | (have BN := blk_grown1 F1.out.2.2.2.2.2 hga X4) | skip); have n0 := World.new_ne w3 _ k0; have n1 := World.new_ne w3 _ k1)
              | (refine step_app_row (by rfl) (.tmp 54) (.tmp 59) (by rfl) w2.heap.size _ _ (l.take j) (by rfl) (by first | exact own1.alloc _ | exact own1) _ 1 _ [(x, y)] (by rfl) rfl (by first | exact news_new _ _ (x, y) rfl | exact news_blk BN) (by omega) (by first | exact Y3 | exact Nat.le_trans Y3 (World.grownBy_alloc w3 _ none).size) ?_; intro v2 w4 own2 hgb; (first | (have J4 := (J3.alloc _).grownV (own1.alloc _) hgb hg2 z2) | (have J4 := J3.grownV own1 hgb hg2 z2)); have Y4 : w2.heap.size ≤ w4.heap.size := Nat.le_trans Y3 (Nat.le_trans (by simp) hgb.size); have k0 := (J4.2.cell (p := ⟨b, o + k * 2, none⟩) hbB).trans G0.out; have k1 := (J4.2.cell (p := ⟨b, o + k * 2 + 1, none⟩) hbB).trans G1.out)
              | (refine step_app_row (by rfl) (.tmp 60) (.tmp 63) (by rfl) w2.heap.size _ _ _ (by rfl) own2 ⟨g, j * 2, none⟩ 0 (cp - j) (l.drop j) (by rfl) L2.out (J4.newsD j) A41 Y4 ?_; intro v3 w5 own3 hgc; have J5 := J4.grownV own2 hgc hg2 z2; have k0 := (J5.2.cell (p := ⟨b, o + k * 2, none⟩) hbB).trans G0.out; have k1 := (J5.2.cell (p := ⟨b, o + k * 2 + 1, none⟩) hbB).trans G1.out))
          all_goals
            obtain ⟨g', cp', rfl⟩ := own_some own3 (by omega)
            have O3 := Lib.hid (own_base own3 z2)
            have J5b := Lib.hid J5.2
            clear own3 own2 own1 hga hgb hgc
            go_wp2
            go_roundw
            case rel => exact ⟨k + 1, g', _, cp', _, by omega, by go_num, rfl, HIN.out.symm, O3.out, J5b.out⟩
            case measure => simp [intOf] <;> omega
    · obtain rfl : k = n := by omega
      have he : l = sortN xs := by rw [hl.out, List.take_of_length_le (by rw [HL.out]; omega)]
      have HE := Lib.hid he
      clear he
      go_wp2
      go_ret
      rw [← HE.out]
      exact madeP_of hI.1 hI.2

end Go.Proofs.Ytjcaamnojinnmaa
