/-
  CombForAll of impl and of spec: a comb for all chosen tunes, and whether there is one.
-/
import Derived.Test.YtjcaamnojinnmaaComb
namespace Go.Proofs.Ytjcaamnojinnmaa
open Go.RowKit

/-- one number appended; the row stays in its block or goes into a new one -/
theorem wpList_app_int2 {ops : Array Oper} {rest : List Oper} {o : Oper} {a : Act} {Q : Exit → Act → World → Prop} {w W : World} (hgd : o.guard = none) (s x : Operand)
    (ho : o.op = .call { callee := .builtin .append, args := #[s, x], argTypes := #[23, 23] })
    (base : Nat) (v : Value) (n : Nat) (l : List Int) (y : Int) (hs : a.eval s = v) (hown : w.ownsRow base 3 1 v n (l.map (Value.int .i64)))
    (hx : a.eval x = .slice (some ⟨w.heap.size, 0, none⟩) 1 1) (hn : n ≤ 1048576) (hbase : base ≤ w.heap.size) (hB : Below base W w)
    (h : ∀ g c w', w'.ownsRow base 3 1 (.slice (some ⟨g, 0, none⟩) (n + 1) c) (n + 1) ((l ++ [y]).map (Value.int .i64)) → w.grownBy w' v.ownBlock → Below base W w' → (v.ownBlock = some g ∨ w.heap.size < g) → wpList Try.prog ops Q rest (a.put o.dst (.slice (some ⟨g, 0, none⟩) (n + 1) c)) w') :
    wpList Try.prog ops Q (o :: rest) a (w.alloc (.cells #[.int .i64 y] 3)) := by
  obtain ⟨i0, hi, hz0, hz1, hz2⟩ := info_parts infoInt
  refine wpList_append_lies _ hgd s x _ ho base 3 i0 (.int .i64 0) 1 8 Try.underlying23 hi hz0 hz1 hz2 rfl (by decide) v n _ hs (hown.alloc _) ⟨w.heap.size, 0, none⟩ 1 1 [.int .i64 y] hx rfl ?_ ?_ (by decide) ?_ ?_ ?_ _ rfl ?_
  · intro j u hu
    have hj : j = 0 := by
      have := (List.getElem?_eq_some_iff.1 hu).1
      simpa using this
    subst hj
    simp at hu
    subst hu
    simp [Addr.add]
  · simp [Value.oneCell']
  · unfold maxLen; omega
  · omega
  · simp; omega
  · intro g c w' hown' hg hor _
    have hg2 : w.grownBy w' v.ownBlock := grown_trans (World.grownBy_alloc w _ _) hg
    refine h g c w' ?_ hg2 (hB.grown hg2 hbase fun k hk => (hown.lt k hk).1) ?_
    · rw [List.map_append]
      exact hown'
    · rcases hor with h1 | h1
      · exact Or.inl h1
      · right
        rw [h1]
        simp

def combOkB (ts : List (List (Int × Int))) (ch : List Int) (r : Int) : Bool := inB (teethV ts ch r) 1 24
def combV (ts : List (List (Int × Int))) (ch : List Int) (r : Int) : List Int := if combOkB ts ch r = true then combL (allN ts r (selC ch)) 61 else []
theorem comb_is {ts : List (List (Int × Int))} {ch : List Int} {r : Int} (h : combOkB ts ch r = true) : tunesB ts = true ∧ riseB ch ((ts.length : Int) - 1) = true ∧ inB r 1 100 = true ∧ 1 ≤ sm (allN ts r (selC ch)) 61 ∧ sm (allN ts r (selC ch)) 61 ≤ 24 := by
  unfold combOkB at h
  have hb := inB_iff.1 h
  obtain ⟨h1, h2, h3⟩ : tunesB ts = true ∧ riseB ch ((ts.length : Int) - 1) = true ∧ inB r 1 100 = true := by
    unfold teethV at hb
    split at hb
    · assumption
    · omega
  rw [show teethV ts ch r = (sm (allN ts r (selC ch)) 61 : Nat) by unfold teethV; rw [if_pos ⟨h1, h2, h3⟩]; rfl] at hb
  exact ⟨h1, h2, h3, by omega, by omega⟩
theorem combV_len (ts : List (List (Int × Int))) (ch : List Int) (r : Int) : (combV ts ch r).length ≤ 24 := by
  unfold combV
  split
  · rename_i h
    rw [combL_len]
    exact (comb_is h).2.2.2.2
  · simp

set_option maxHeartbeats 1000000 in
theorem iCombForAll (A : Option Addr) (n c : Nat) (hs : List (Option Addr × Nat)) (ts : List (List (Int × Int))) (A' : Option Addr) (n' c' : Nat) (ch : List Int) (r : Int) (w : World) (h : RdSS w w.heap.size A n hs ts)
    (h' : Rd w w.heap.size 1 A' n' (ch.map (Value.int .i64))) (hn : n ≤ 1048576) (hn' : n' ≤ 1048576) :
    Calls Try.prog 16 #[.slice A n c, .slice A' n' c', .int .i64 r] w (MadeTI w (combV ts ch r) (combOkB ts ch r)) := by
  have H := Lib.hid h
  have H' := Lib.hid h'
  have HT := Lib.hid (fun w h h' => iTeethForAll A n c hs ts A' n' c' ch r w h h' hn hn')
  have HI := Lib.hid (fun w => within_any (teethV ts ch r) 1 24 w)
  have hni : (n : Int) ≤ 1048576 := by omega
  clear h h'
  unfold combV
  cases hq : combOkB ts ch r
  · rw [if_neg (by simp)]
    unfold combOkB at hq
    rw [hq] at HI
    generalize teethV ts ch r = T at *
    clear hq
    go_enter Try.func16, Try.ntmps16
    go_wp2_with (first | (go_at_call 12; refine (HT.out _ H.out H'.out).mono ?_; rintro e w1 ⟨rfl, hb1⟩) | (go_at_call 37; refine (HI.out _).mono ?_; rintro e w' ⟨rfl, rfl⟩))
    go_ret2
    exact ⟨none, 0, rfl, World.ownsRow_nil _ _ _ _, hb1⟩
  rw [if_pos rfl]
  obtain ⟨h1, h2, h3, h4, h5⟩ := comb_is hq
  unfold combOkB at hq
  rw [hq] at HI
  obtain ⟨hall, hn8⟩ := tunes_all h1
  rw [H.out.2.1] at h2
  have hr := inB_iff.1 h3
  have HN := Lib.hid (fun w h h' => iNeededAll A n c hs ts A' n' c' ch r w h h' hn' hall h2 hr)
  have HC := Lib.hid (fun A c w h => iCombOf A c (allN ts r (selC ch)) w h ⟨h4, h5⟩)
  have hcl := combL_len (allN ts r (selC ch)) 61
  generalize combL (allN ts r (selC ch)) 61 = L at *
  generalize teethV ts ch r = T at *
  clear hq h1 h2 h3 h4 h5 hall hn8 hcl
  go_enter Try.func16, Try.ntmps16
  go_wp2_with (first | (go_at_call 12; refine (HT.out _ H.out H'.out).mono ?_; rintro e w1 ⟨rfl, hb1⟩) | (go_at_call 37; refine (HI.out _).mono ?_; rintro e w' ⟨rfl, rfl⟩) | fail)
  refine (HN.out _ (H.out.step hb1) ((H'.out.below hb1).more hb1.size)).mono ?_
  rintro e w2 ⟨A2, c2, rfl, ho2, hb2⟩
  have b2 := hb1.trans (hb2.mono hb1.size)
  go_wp2_with fail
  refine (HC.out _ _ _ (Rd.of_own ho2)).mono ?_
  rintro e w3 ⟨A3, c3, rfl, ho3, hb3⟩
  have HO := Lib.hid ho3
  clear ho2 ho3
  go_wp2_with fail
  go_ret2
  exact ⟨A3, c3, rfl, own_base HO.out b2.size, b2.trans (hb3.mono b2.size)⟩

set_option maxHeartbeats 1000000 in
theorem sCombForAll (A : Option Addr) (n c : Nat) (hs : List (Option Addr × Nat)) (ts : List (List (Int × Int))) (A' : Option Addr) (n' c' : Nat) (ch : List Int) (r : Int) (w : World) (h : RdSS w w.heap.size A n hs ts)
    (h' : Rd w w.heap.size 1 A' n' (ch.map (Value.int .i64))) (hn : n ≤ 1048576) (hn' : n' ≤ 1048576) :
    Calls Try.prog 15 #[.slice A n c, .slice A' n' c', .int .i64 r] w (MadeTI w (combV ts ch r) (combOkB ts ch r)) := by
  have H1 := Lib.hid (h.step ((Below.refl _ _).alloc (Nat.le_refl _) (.cells #[] 3)))
  have H1' := Lib.hid ((h'.alloc (Nat.le_refl _) (.cells #[] 3)).more (B' := (w.alloc (.cells #[] 3)).heap.size) (by simp))
  have hlen := h.2.1
  have HT := Lib.hid (fun w h h' => sTeethForAll A n c hs ts A' n' c' ch r w h h' hn hn')
  have HI := Lib.hid (fun w => l01In_any (teethV ts ch r) 1 24 w)
  have OE := Lib.hid (own_empty w 3 1 w.heap.size (Nat.le_refl _))
  have BE := Lib.hid ((Below.refl w.heap.size w).alloc (Nat.le_refl _) (.cells #[] 3))
  have hni : (n : Int) ≤ 1048576 := by omega
  clear h h'
  unfold combV
  cases hq : combOkB ts ch r
  · rw [if_neg (by simp)]
    unfold combOkB at hq
    rw [hq] at HI
    generalize teethV ts ch r = T at *
    clear hq hlen
    go_enter Try.func15, Try.ntmps15
    go_wp2_with (first | (go_at_call 9; refine (HT.out _ H1.out H1'.out).mono ?_; rintro e w1 ⟨rfl, hb1⟩) | (go_at_call 40; refine (HI.out _).mono ?_; rintro e w' ⟨rfl, rfl⟩))
    go_ret2
    exact madeTI_of (l := []) (own_below OE.out hb1) (BE.out.trans (hb1.mono (by simp)))
  rw [if_pos rfl]
  obtain ⟨h1, h2, h3, h4, h5⟩ := comb_is hq
  unfold combOkB at hq
  rw [hq] at HI
  obtain ⟨hall, hn8⟩ := tunes_all h1
  rw [hlen] at h2 hn8
  have hn8i : (n : Int) ≤ 8 := by omega
  have hr := inB_iff.1 h3
  have hin := fun x hx => rise_in (x := x) h2 hx
  have hlt : setL ch < 256 := by
    have := setL_lt (ch := ch) (n := 8) fun x hx => by have := hin x hx; omega
    omega
  have HS := Lib.hid (fun w (h : Rd w w.heap.size 1 A' n' (ch.map (Value.int .i64))) => sSet9 A' n' c' ch ((n : Int) - 1) w h hn' (by omega))
  rw [show setV ch ((n : Int) - 1) = (setL ch : Nat) by unfold setV; rw [if_pos h2]] at HS
  have HN := Lib.hid (fun w h => sNeeds9 A n c hs ts (setL ch) r w h hlt hall hn8 hr)
  rw [show bitS (setL ch) = selC ch from funext fun k => setL_bit (fun x hx => (hin x hx).1) k] at HN
  have HB := Lib.hid (fun k (hk : k < 61) => (by have h1 := sm_more (allN ts r (selC ch)) (k := k + 1) (m := 61) (by omega); rw [sm_s] at h1; omega : sm (allN ts r (selC ch)) k + allN ts r (selC ch) k ≤ 24))
  generalize allN ts r (selC ch) = f at *
  generalize setL ch = S at *
  generalize teethV ts ch r = T at *
  clear hq h1 h2 h3 h4 h5 hall hn8 hlen hin hlt hr
  go_enter Try.func15, Try.ntmps15
  go_wp2_with (first | (go_at_call 9; refine (HT.out _ H1.out H1'.out).mono ?_; rintro e w1 ⟨rfl, hb1⟩) | (go_at_call 40; refine (HI.out _).mono ?_; rintro e w' ⟨rfl, rfl⟩) | (go_at_call 31; refine (HS.out _ ((H1'.out.below hb1).more hb1.size)).mono ?_; rintro e w2 ⟨rfl, q, rfl⟩) | fail)
  have b2 := hb1.trans (Go.Joins.below_draws (w.alloc (.cells #[] 3)).heap.size w1 q)
  refine (HN.out _ (H1.out.step b2)).mono ?_
  rintro e w3 ⟨A2, c2, rfl, ho3, hb3⟩
  obtain ⟨g2, cur, rfl, hg2, hB2, hcur⟩ := own61 ho3
  have z2 := b2.size
  have z3 := hB2.lt
  have b3 := b2.trans (hb3.mono b2.size)
  have b3' : Below w.heap.size w w3 := BE.out.trans (b3.mono (by simp))
  have O3 := Lib.hid (own_below OE.out b3)
  have HC := Lib.hid hcur
  have HB2 := Lib.hid hB2
  have HB3 := Lib.hid b3'
  have hg2' : w1.heap.size ≤ g2 := hg2
  have hne : w.heap.size ≠ g2 := by simp at z2; omega
  clear ho3 hB2 hcur b3 b2 hb3 b3'
  go_wp2_with fail
  go_loopw [8, 10] (fun v i wr => ∃ k g cc : Nat, k ≤ 61 ∧ i = .int .i64 k ∧ v = .slice (some ⟨g, 0, none⟩) (sm f k) cc ∧ g ≠ g2 ∧ wr.ownsRow w.heap.size 3 1 (.slice (some ⟨g, 0, none⟩) (sm f k) cc) (sm f k) ((combL f k).map (Value.int .i64)) ∧ Blk wr g2 3 cur ∧ Below w.heap.size w wr) (fun _ i _ => 61 - (intOf i).toNat)
  case atStart => exact ⟨0, w.heap.size, 0, Nat.zero_le _, rfl, rfl, hne, O3.out, HB2.out, HB3.out⟩
  case round =>
    obtain ⟨k, g, cc, hk, rfl, rfl, hgg, hown, hB, hbl⟩ := hrel
    by_cases hlt : (k : Int) ≤ 60
    · have hb := HB.out k (by omega)
      have hs1 : sm f (k + 1) = sm f k + f k := rfl
      have hs2 : combL f (k + 1) = combL f k ++ List.replicate (f k) (k : Int) := rfl
      have hcc := HC.out k (by omega)
      have HS1 := Lib.hid hs1
      have HS2 := Lib.hid hs2
      obtain ⟨F, hF⟩ : ∃ F, F = f k := ⟨_, rfl⟩
      rw [← hF] at HS1 HS2 hb hcc
      have HO := Lib.hid hown
      have HL := Lib.hid hbl
      have HCC := Lib.hid hcc
      have HBB := Lib.hid hB
      have hk61 : (k : Int) < 61 := by omega
      clear hs1 hs2 hown hbl hF hcc hB
      go_wp2_with fail
      go_loopw [8, 11] (fun v i wr => ∃ j g cc : Nat, j ≤ F ∧ i = .int .i64 j ∧ v = .slice (some ⟨g, 0, none⟩) (sm f k + j) cc ∧ g ≠ g2 ∧ wr.ownsRow w.heap.size 3 1 (.slice (some ⟨g, 0, none⟩) (sm f k + j) cc) (sm f k + j) ((combL f k ++ List.replicate j (k : Int)).map (Value.int .i64)) ∧ Blk wr g2 3 cur ∧ Below w.heap.size w wr) (fun _ i _ => F - (intOf i).toNat)
      case atStart => exact ⟨0, g, cc, Nat.zero_le _, rfl, rfl, hgg, by simpa using HO.out, HBB.out, HL.out⟩
      case round =>
        obtain ⟨j, g, cc, hj, rfl, rfl, hgg, hown, hB, hbl⟩ := hrel
        have d0 : wr.cell? ⟨g2, k, none⟩ = some (.int .i64 (F : Int)) := (hB.cell k).trans HCC.out
        have hgl := hB.lt
        by_cases hjl : (j : Int) < F
        · have HO2 := Lib.hid hown
          have HBB2 := Lib.hid hB
          have hcm := comb_more f k j
          have HCM := Lib.hid hcm
          have zb := hbl.size
          clear hown hcm hB
          go_wp2_with (at_builtin; refine wpList_app_int2 (w := wr) (W := w) rfl (.tmp 40) (.tmp 42) rfl w.heap.size _ _ _ (k : Int) rfl HO2.out (by simp [go_sem]) (by omega) zb hbl ?_; intro g' c' w' hown' hg' hbl' hor)
          have HO' := Lib.hid hown'
          have hgn : g' ≠ g2 := by
            rcases hor with h | h
            · intro e
              subst e
              exact hgg (by injection h)
            · omega
          have HB' := Lib.hid (HBB2.out.grown hg' (fun e => hgg (by injection e with e; exact e.symm)))
          clear hown' hg' hor
          go_roundw
          case rel => exact ⟨j + 1, g', c', by omega, by go_num, rfl, hgn, by rw [HCM.out]; exact HO'.out, HB'.out, hbl'⟩
          case measure => simp [intOf] <;> omega
        · obtain rfl : j = F := by omega
          have HO2 := Lib.hid hown
          have HBB2 := Lib.hid hB
          clear hown hB
          go_wp2_with fail
          go_roundw
          case rel => exact ⟨k + 1, g, cc, by omega, by go_num, by rw [HS1.out], hgg, by rw [HS1.out, HS2.out]; exact HO2.out, HBB2.out, hbl⟩
          case measure => simp [intOf] <;> omega
    · obtain rfl : k = 61 := by omega
      have HO := Lib.hid hown
      clear hown
      generalize sm f 61 = S at *
      go_wp2_with fail
      go_ret2
      exact madeTI_of HO.out hbl

end Go.Proofs.Ytjcaamnojinnmaa
