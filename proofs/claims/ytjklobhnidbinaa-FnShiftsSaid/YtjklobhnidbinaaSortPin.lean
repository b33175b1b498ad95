/-
  sortedPins of impl: the pins of a list in order, as a row of its own (slices.SortFunc by the library's contract).
-/
import Derived.Test.YtjklobhnidbinaaRowPin
import Derived.Test.YtjklobhnidbinaaCylOk
import Derived.Test.YtjklobhnidbinaaSortLay
namespace Go.Proofs.Ytjklobhnidbinaa
open Go.Shelf Go.RowKit Go.Lib Go.Sort

/-- a pin's two cells -/
def encP (x : Int × Int) : List Value := [.int .i64 x.1, .int .i64 x.2]
theorem cmp_lt (x y : Int × Int) : ltOf cmpQ x y = lessQ x y := by
  unfold ltOf cmpQ
  cases h : lessQ x y
  · simp only [Bool.false_eq_true, if_false]
    split <;> simp
  · simp
theorem swoP : SWO (ltOf cmpQ) where
  irrefl x := by rw [cmp_lt]; exact lessQ_irr x
  trans x y z h1 h2 := by rw [cmp_lt] at *; exact lessQ_trans h1 h2
  ntrans x y z h1 h2 := by
    rw [cmp_lt] at *
    rw [Bool.eq_false_iff]
    intro h
    rcases lessQ_total h1 with h3 | h3
    · rcases lessQ_total h2 with h4 | h4
      · have := lessQ_trans h (lessQ_trans h4 h3)
        rw [lessQ_irr] at this
        cases this
      · subst h4
        rw [h2] at *
        have := lessQ_trans h h3
        rw [lessQ_irr] at this
        cases this
    · subst h3
      rw [h2] at h
      cases h
theorem cmpLaysP (blk off size : Nat) (w : World) : CmpLays Try.prog 45 #[] encP 2 cmpQ blk off size w :=
  fun _ _ _ _ x y => (iCmpQ x.1 x.2 y.1 y.2 _).mono fun _ _ ⟨he, hw⟩ => ⟨he, 0, #[.cells #[.int .i64 x.1, .int .i64 x.2] 50, .cells #[.int .i64 y.1, .int .i64 y.2] 50], by rw [hw]; unfold pinBoxes; rw [alloc_eq_grow, alloc_eq_grow, grow_grow]; rfl⟩
theorem pc_flat (l : List (Int × Int)) {j : Nat} (h : j < l.length * 2) : (pc l)[j]? = some ((encP l.toArray[j / 2]!)[j % 2]!) := by
  have hk : j / 2 < l.length := by omega
  obtain ⟨g0, g1⟩ := pc_get l (j / 2) _ (List.getElem?_eq_getElem hk)
  have e : l.toArray[j / 2]! = l[j / 2] := by simp [hk]
  rw [e]
  rcases Nat.mod_two_eq_zero_or_one j with h0 | h0
  · rw [h0]
    rw [show j / 2 * 2 = j by omega] at g0
    rw [g0]
    rfl
  · rw [h0]
    rw [show j / 2 * 2 + 1 = j by omega] at g1
    rw [g1]
    rfl
theorem holdsP {w : World} {base n c g : Nat} {l : List (Int × Int)} (h : w.ownsRow base 50 2 (.slice (some ⟨g, 0, none⟩) n c) n (pc l)) : HoldsK encP 2 w g 0 l.toArray := by
  have hn := own_pair_len h
  have hc := h.cells (g := g) rfl
  rcases h.2 with ⟨e, _⟩ | ⟨g', cap, cur, e, _, hh, _⟩
  · cases e
  injection e with e1 e2 e3
  injection e1 with e1
  injection e1 with e1
  subst e1
  intro j hj
  have hj' : j < l.length * 2 := by simpa using hj
  rw [get_flatK _ _ _ _ (by simpa using hj')]
  refine ⟨?_, by simp [World.frozen?, hh]⟩
  have := hc j _ (pc_flat l hj')
  rw [add_offP] at this
  simpa using this
theorem sorted_own {w : World} {base n c g m : Nat} {l : List (Int × Int)} {d : Array (Int × Int)} {os : Array Obj} (h : w.ownsRow base 50 2 (.slice (some ⟨g, 0, none⟩) n c) n (pc l)) (hd : d.size = n) :
    (sortWorldK encP 2 w g 0 m d os).ownsRow base 50 2 (.slice (some ⟨g, 0, none⟩) n c) n (pc d.toList) ∧ w.grownBy (sortWorldK encP 2 w g 0 m d os) (some g) := by
  have hn := own_pair_len h
  have hgl := (h.lt g rfl).2
  rcases h.2 with ⟨e, _⟩ | ⟨g', cap, cur, e, hb, hh, hnc, hcm, hs, ht⟩
  · cases e
  injection e with e1 e2 e3
  injection e1 with e1
  injection e1 with e1
  subst e1 e3
  have hheap : ∀ i, i < w.heap.size → (sortWorldK encP 2 w g 0 m d os).heap[i]? = if g = i then (w.heap[i]?).map (onCells (putCells id 0 (flatK encP 2 d))) else w.heap[i]? := fun i hi => by
    unfold sortWorldK putRowK putRow mapBlock grow
    simp only [heap_ahead]
    rw [Array.getElem?_append_left (by simpa using hi), Array.getElem?_modify]
  refine ⟨⟨by rw [pc_length]; simp [hd], Or.inr ⟨g, c, putCells id 0 (flatK encP 2 d) cur, rfl, hb, ?_, hnc, hcm, ?_, ?_⟩⟩, ⟨rfl, rfl, rfl, ?_, fun i hi hne => ?_⟩⟩
  · rw [hheap g hgl, if_pos rfl, hh]
    rfl
  · simp [putCells, hs]
  · apply List.ext_getElem?
    intro j
    rw [List.getElem?_take]
    by_cases hj : j < n * 2
    · rw [if_pos hj]
      have hp := pc_flat d.toList (j := j) (by simpa [hd] using hj)
      rw [hp]
      have hjc : j < cur.size := by rw [hs]; omega
      have hjd : j < d.size * 2 := by rw [hd]; exact hj
      simp only [putCells, Array.getElem?_toList, Array.getElem?_mapIdx, Array.getElem?_eq_getElem hjc, Option.map_some, size_flatK]
      rw [if_pos ⟨Nat.zero_le _, by omega⟩, Nat.sub_zero, get_flatK _ _ _ _ hjd]
      simp
    · rw [if_neg hj, List.getElem?_eq_none (by rw [pc_length]; simp [hd]; omega)]
  · unfold sortWorldK putRowK putRow mapBlock grow
    simp
  · rw [hheap i hi, if_neg (fun e => hne (by rw [e]))]
/-- the pins of a list in order -/
def SortP (xs : List (Int × Int)) (w : World) (E : Ending) (w' : World) : Prop := ∃ l : List (Int × Int), l.Perm xs ∧ (l.Pairwise fun p q => lessQ q p = false) ∧ OwnP w l E w'

set_option maxHeartbeats 1000000 in
theorem iSortedPins (A : Option Addr) (n c : Nat) (xs : List (Int × Int)) (w : World) (h : Rd w w.heap.size 2 A n (pc xs)) (hn : n ≤ 1048576) :
    Calls Try.prog 39 #[.slice A n c] w (SortP xs w) := by
  have hlen := h.pair
  have HL := Lib.hid hlen
  have H := Lib.hid h
  have eg : ∀ args w, (callFunc 45 args).run Try.prog w = .ok (.enter 45 args) w := enters_of Try.func45 (by kernel_rfl) rfl
  have SF := Lib.hid (fun (g cp : Nat) (w : World) (base : Nat) (ho : w.ownsRow base 50 2 (.slice (some ⟨g, 0, none⟩) xs.length cp) xs.length (pc xs)) => AnyQ.slices_SortFunc sortPin 2 Try.isAgg50 Try.sizeOf50 encP (fun _ => rfl) (fun x v hv => by simp [encP] at hv; rcases hv with rfl | rfl <;> rfl) cmpQ swoP 45 #[] g 0 cp xs.toArray w eg (cmpLaysP g 0 _ w) (holdsP ho) (ho.lt g rfl).2 (by simp; omega))
  clear h hlen eg
  go_enter Try.func39, Try.ntmps39
  go_wp2_with fail
  refine (iCopyPins A n c xs w H.out hn).mono ?_
  rintro e w1 ⟨g, cp, rfl, ho, hb1⟩
  have HO := Lib.hid ho
  have SG := SF.out g cp w1 _ ho
  rw [show xs.toArray.size = xs.length by simp] at SG
  clear ho
  have SH := Lib.hid SG
  clear SG
  go_wp2_with fail
  refine (SH.out).mono ?_
  rintro e w2 ⟨rfl, d, m, os, hp, hs, hw⟩
  obtain ⟨hp1, _, hp2⟩ := hp
  have hd : d.size = xs.length := by simpa using hp1
  obtain ⟨o2, g2⟩ := sorted_own (m := m) (os := os) HO.out hd
  rw [← hw] at o2 g2
  have hperm : d.toList.Perm xs := by
    have e1 : d.extract 0 xs.length = d := by rw [← hd]; exact Array.extract_size
    have e2 : xs.toArray.extract 0 xs.length = xs.toArray := by
      rw [show xs.length = xs.toArray.size by simp]; exact Array.extract_size
    rw [e1, e2] at hp2
    exact hp2
  have hsort : d.toList.Pairwise fun p q => lessQ q p = false := by
    rw [List.pairwise_iff_getElem]
    intro i j hi hj hij
    have := hs i j (Nat.zero_le _) hij (by simpa [hd] using hj)
    rw [cmp_lt] at this
    have hi' : i < d.size := by simpa using hi
    have hj' : j < d.size := by simpa using hj
    rw [getElem!_pos d i hi', getElem!_pos d j hj'] at this
    simpa using this
  have hlen2 : xs.length = d.toList.length := by simp [hd]
  have B2 := Lib.hid (hb1.grown g2 hb1.size (fun k hk => by injection hk with hk; subst hk; exact (HO.out.lt g rfl).1))
  have O2 := Lib.hid o2
  have HP := Lib.hid hperm
  have HS := Lib.hid hsort
  have HL2 := Lib.hid hlen2
  clear hw hp1 hp2 hs hd o2 g2 hperm hsort hlen2 hb1
  go_wp2
  go_ret
  refine ⟨d.toList, HP.out, HS.out, g, cp, ?_, ?_, B2.out⟩
  · rw [← HL2.out]
    rfl
  · rw [← HL2.out]
    exact O2.out

end Go.Proofs.Ytjklobhnidbinaa
