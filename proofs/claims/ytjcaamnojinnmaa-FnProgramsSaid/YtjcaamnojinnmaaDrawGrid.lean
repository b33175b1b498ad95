/-
  The drawn tunes: whatever the bytes (at most 1048576), at most four valid tunes, as a slice of slices.
-/
import Derived.Test.YtjcaamnojinnmaaTuneDraw
import Derived.Test.YtjcaamnojinnmaaGridS
namespace Go.Proofs.Ytjcaamnojinnmaa
open Go.RowKit

/-- drawn tunes -/
def Tunes4 (ts : List (List (Int × Int))) : Prop := ts.length ≤ 4 ∧ ∀ t ∈ ts, Tune12 t
def rowsV (hs : List (Option Addr × Nat)) (ts : List (List (Int × Int))) : List Value := List.zipWith rowV hs ts
theorem rowsV_get {hs : List (Option Addr × Nat)} {ts : List (List (Int × Int))} {k : Nat} {h : Option Addr × Nat} {t : List (Int × Int)} (h1 : hs[k]? = some h) (h2 : ts[k]? = some t) : (rowsV hs ts)[k]? = some (rowV h t) := by
  unfold rowsV
  rw [List.getElem?_zipWith, h1, h2]
theorem rowsV_snoc {hs : List (Option Addr × Nat)} {ts : List (List (Int × Int))} (hl : hs.length = ts.length) (h : Option Addr × Nat) (t : List (Int × Int)) : rowsV (hs ++ [h]) (ts ++ [t]) = rowsV hs ts ++ [rowV h t] := by
  unfold rowsV
  rw [List.zipWith_append hl]
  rfl
theorem rowsV_one : ∀ (hs : List (Option Addr × Nat)) (ts : List (List (Int × Int))), ∀ v ∈ rowsV hs ts, v.oneCell' = true
  | [], ts, v, h => by simp [rowsV] at h
  | h :: hs, [], v, hv => by simp [rowsV] at hv
  | h :: hs, t :: ts, v, hv => by
    rcases List.mem_cons.1 hv with rfl | hv
    · rfl
    · exact rowsV_one hs ts v hv
/-- a slice of slices that grows: the outer row of the call's own in block g, the rows in other blocks -/
def GL (B : Nat) (w : World) (g c : Nat) (hs : List (Option Addr × Nat)) (ts : List (List (Int × Int))) : Prop :=
  hs.length = ts.length ∧ w.ownsRow B 46 1 (.slice (some ⟨g, 0, none⟩) ts.length c) ts.length (rowsV hs ts) ∧
    ∀ (k : Nat) (h : Option Addr × Nat) (t : List (Int × Int)), hs[k]? = some h → ts[k]? = some t → w.ownsRow B 67 2 (rowV h t) t.length (pc t) ∧ (rowV h t).ownBlock ≠ some g ∧ t.length ≤ 1048576
theorem GL.grown {B : Nat} {w w' : World} {g c g0 : Nat} {hs : List (Option Addr × Nat)} {ts : List (List (Int × Int))} (h : GL B w g c hs ts) (hg : w.grownBy w' (some g0)) (hb : g0 < B) : GL B w' g c hs ts :=
  ⟨h.1, own_grown h.2.1 hg hb, fun k x t q1 q2 => by
    obtain ⟨r1, r2, r3⟩ := h.2.2 k x t q1 q2
    exact ⟨own_grown r1 hg hb, r2, r3⟩⟩
theorem GL.alloc {B : Nat} {w : World} {g c : Nat} {hs : List (Option Addr × Nat)} {ts : List (List (Int × Int))} (h : GL B w g c hs ts) (o : Obj) : GL B (w.alloc o) g c hs ts :=
  ⟨h.1, h.2.1.alloc o, fun k x t q1 q2 => by
    obtain ⟨r1, r2, r3⟩ := h.2.2 k x t q1 q2
    exact ⟨r1.alloc o, r2, r3⟩⟩
theorem GL.rd {B : Nat} {w : World} {g c : Nat} {hs : List (Option Addr × Nat)} {ts : List (List (Int × Int))} (h : GL B w g c hs ts) : RdSS w w.heap.size (some ⟨g, 0, none⟩) ts.length hs ts := by
  refine ⟨h.1, rfl, fun hn => ?_, fun k x t q1 q2 => ?_⟩
  · obtain ⟨b, o, e, hb, hc⟩ := (Rd.of_own h.2.1).cell hn
    exact ⟨b, o, e, hb, fun k x t q1 q2 => hc k _ (rowsV_get q1 q2)⟩
  · obtain ⟨r1, _, r3⟩ := h.2.2 k x t q1 q2
    exact ⟨Rd.of_own r1, own_capS r1, r3⟩
/-- one row appended -/
theorem wpList_app_row {ops : Array Oper} {rest : List Oper} {o : Oper} {a : Act} {Q : Exit → Act → World → Prop} {w W : World} (hgd : o.guard = none) (s x : Operand)
    (ho : o.op = .call { callee := .builtin .append, args := #[s, x], argTypes := #[26, 26] })
    (B g c : Nat) (hs : List (Option Addr × Nat)) (ts : List (List (Int × Int))) (A : Option Addr) (cc : Nat) (t : List (Int × Int)) (he : a.eval s = .slice (some ⟨g, 0, none⟩) ts.length c) (hG : GL B w g c hs ts)
    (hx : a.eval x = .slice (some ⟨w.heap.size, 0, none⟩) 1 1) (hr : w.ownsRow B 67 2 (.slice A t.length cc) t.length (pc t)) (hne : Value.ownBlock (.slice A t.length cc) ≠ some g) (hl : t.length ≤ 1048576) (hn : ts.length ≤ 1048576) (hbase : B ≤ w.heap.size) (hB : Below B W w)
    (h : ∀ g' c' w', GL B w' g' c' (hs ++ [(A, cc)]) (ts ++ [t]) → w.grownBy w' (some g) → Below B W w' → wpList Try.prog ops Q rest (a.put o.dst (.slice (some ⟨g', 0, none⟩) (ts.length + 1) c')) w') :
    wpList Try.prog ops Q (o :: rest) a (w.alloc (.cells #[.slice A t.length cc] 46)) := by
  obtain ⟨i0, hi, hz0, hz1, hz2⟩ := info_parts infoRow
  refine wpList_append_lies _ hgd s x _ ho B 46 i0 (.slice none 0 0) 1 24 Try.underlying26 hi hz0 hz1 hz2 rfl (by decide) _ ts.length _ he (hG.2.1.alloc _) ⟨w.heap.size, 0, none⟩ 1 1 [.slice A t.length cc] hx rfl ?_ ?_ (by decide) ?_ ?_ ?_ _ rfl ?_
  · intro j u hu
    have hj : j = 0 := by
      have := (List.getElem?_eq_some_iff.1 hu).1
      simpa using this
    subst hj
    simp at hu
    subst hu
    simp [Addr.add]
  · simp [Value.oneCell']
  · unfold maxLen; omega
  · omega
  · simp; omega
  · intro g' c' w' hown' hg hor _
    have hg2 : w.grownBy w' (some g) := grown_trans (World.grownBy_alloc w _ _) hg
    have hgB : B ≤ g := (hG.2.1.lt g rfl).1
    refine h g' c' w' ⟨by simp [hG.1], ?_, fun k y t' q1 q2 => ?_⟩ hg2 (hB.grown hg2 hbase fun k hk => by injection hk with hk; omega)
    · have e : (ts ++ [t]).length = ts.length + 1 := by simp
      rw [rowsV_snoc hG.1, e]
      exact hown'
    · have key : ∀ {v : Value} {n : Nat} {xs : List Value}, w.ownsRow B 67 2 v n xs → v.ownBlock ≠ some g → w'.ownsRow B 67 2 v n xs ∧ v.ownBlock ≠ some g' := fun {v _ _} ho' hne' => by
        refine ⟨ho'.kept hg2 (by cases e : v.ownBlock with
          | none => exact Or.inl rfl
          | some b => right; intro e2; exact hne' (by rw [e, e2])), fun e => ?_⟩
        rcases hor with h1 | h1
        · exact hne' (by rw [e]; exact h1.symm)
        · have h2 := (ho'.lt g' e).2
          simp at h1
          omega
      rcases get_snoc q1 with ⟨i1, i2⟩ | ⟨i1, i2⟩
      · rcases get_snoc q2 with ⟨j1, j2⟩ | ⟨j1, j2⟩
        · obtain ⟨r1, r2, r3⟩ := hG.2.2 k y t' i2 j2
          exact ⟨(key r1 r2).1, (key r1 r2).2, r3⟩
        · have := hG.1
          omega
      · rcases get_snoc q2 with ⟨j1, j2⟩ | ⟨j1, j2⟩
        · have := hG.1
          omega
        · subst i2 j2
          exact ⟨(key hr hne).1, (key hr hne).2, hl⟩

/-- what the drawing leaves -/
def GridD (w : World) (e : Ending) (w' : World) : Prop := ∃ (A : Option Addr) (c : Nat) (hs : List (Option Addr × Nat)) (ts : List (List (Int × Int))), e = .returned (.slice A ts.length c) ∧ Tunes4 ts ∧ RdSS w' w'.heap.size A ts.length hs ts ∧ Below w.heap.size w w'

set_option maxHeartbeats 1000000 in
theorem DrawTunes_any (A : Option Addr) (n c : Nat) (bs : List Int) (w : World) (h : Rd w w.heap.size 1 A n (bs.map (Value.int .u8))) (hn : n ≤ 1048576) (hbs : ∀ x ∈ bs, 0 ≤ x ∧ x ≤ 255) :
    Calls Try.prog 25 #[.slice A n c] w (GridD w) := by
  have LL : ∀ (B g : Nat) (w : World), Cur w B g A n c bs → B ≤ w.heap.size → Calls Try.prog 48 #[.pointer (some ⟨g, 0, none⟩)] w fun e w' => ∃ (gg cc : Nat) (hs : List (Option Addr × Nat)) (ts : List (List (Int × Int))), e = .returned (.slice (some ⟨gg, 0, none⟩) ts.length cc) ∧ Tunes4 ts ∧ GL w.heap.size w' gg cc hs ts ∧ w.grownBy w' (some g) := by
    clear h hbs
    intro B g w hcur hBs
    have hlt := hcur.lt
    obtain ⟨hBg, hgw⟩ := hlt
    have H := Lib.hid (hcur.alloc hBs (.cells #[] 46))
    have OE := Lib.hid (own_empty w 46 1 w.heap.size (Nat.le_refl _))
    have GW := Lib.hid (grown_alloc (grown_refl w (some g)) (.cells #[] 46))
    clear hcur
    go_enter Try.func48, Try.ntmps48
    go_wp2_with fail
    refine (l01Below_any _ _ _ _ _ _ _ _ H.out (by omega)).mono ?_
    rintro e w1 ⟨m, rfl, ⟨m0, m1, _⟩, hc1, hg1⟩
    have m1 := m1 (by omega)
    obtain ⟨m, rfl⟩ := Int.eq_ofNat_of_zero_le m0
    have O1 := Lib.hid (own_grown OE.out hg1 hgw)
    have G1 := Lib.hid (grown_two GW.out hg1)
    have HC1 := Lib.hid hc1
    clear hc1 hg1
    go_wp2
    go_loopw [3, 5] (fun v i wr => ∃ (k gg cc : Nat) (hs : List (Option Addr × Nat)) (ts : List (List (Int × Int))), k ≤ m ∧ i = .int .i64 k ∧ v = .slice (some ⟨gg, 0, none⟩) k cc ∧ Hid (ts.length = k ∧ ∀ t ∈ ts, Tune12 t) ∧ Cur wr B g A n c bs ∧ GL w.heap.size wr gg cc hs ts ∧ w.grownBy wr (some g)) (fun _ i _ => m - (intOf i).toNat)
    case atStart => exact ⟨0, w.heap.size, 0, [], [], Nat.zero_le _, rfl, rfl, ⟨rfl, by simp⟩, HC1.out, ⟨rfl, O1.out, fun k x t h => by simp at h⟩, G1.out⟩
    case round =>
      obtain ⟨k, gg, cc, hs, ts, hk, rfl, rfl, hl, hcu, hG, hgr⟩ := hrel
      by_cases hlt : (k : Int) < m
      · have HG := Lib.hid hG
        have HCU := Lib.hid hcu
        have zr := hgr.size
        have HGR := Lib.hid hgr
        clear hG hcu hgr
        go_wp2_with fail
        refine (l02Tune_any _ _ _ _ _ _ _ HCU.out (by omega)).mono ?_
        rintro e w2 ⟨t, A2, c2, rfl, hd, ho2, hc2, hg2⟩
        have G2 := HG.out.grown hg2 hgw
        have GR2 := grown_two HGR.out hg2
        have z2 := GR2.size
        have O2 := own_base ho2 zr
        have hl40 := tune_len hd.1
        have hne : Value.ownBlock (.slice A2 t.length c2) ≠ some gg := fun e => by
          have h1 := (ho2.lt gg e).1
          have h2 := (HG.out.2.1.lt gg rfl).2
          omega
        have hgc : gg ≠ g := fun e => by
          have := (HG.out.2.1.lt gg rfl).1
          omega
        have hln := hl.out.1
        have HG2 := Lib.hid G2
        have HO2 := Lib.hid O2
        have HGR2 := Lib.hid GR2
        have HC2 := Lib.hid hc2
        have HD := Lib.hid hd
        have HNE := Lib.hid hne
        have HLN := Lib.hid hln
        clear G2 O2 GR2 hc2 hd hne ho2 hg2 hln
        go_wp2_with (at_builtin; refine wpList_app_row (w := w2) (W := w2) rfl (.tmp 17) (.tmp 19) rfl w.heap.size gg cc hs ts A2 c2 t (by rw [HLN.out]; rfl) HG2.out (by simp [go_sem]) HO2.out HNE.out (by omega) (by rw [HLN.out]; omega) z2 (Below.refl _ _) ?_; intro g' c' w' hG' hg' hbl')
        rw [HLN.out]
        have HG' := Lib.hid hG'
        have BL := Lib.hid hbl'
        clear hG' hg' hbl'
        go_roundw
        case rel =>
          refine ⟨k + 1, g', c', _, _, by omega, by go_num, rfl, ⟨by simp [hl.out.1], ?_⟩, HC2.out.below BL.out hgw hBs, HG'.out, grown_below HGR2.out BL.out (Nat.le_refl _)⟩
          intro t' ht'
          rcases List.mem_append.1 ht' with h | h
          · exact hl.out.2 t' h
          · rw [List.mem_singleton.1 h]; exact HD.out
        case measure => simp [intOf] <;> omega
      · obtain rfl : k = m := by omega
        have HG := Lib.hid hG
        clear hG
        go_wp2
        go_ret
        obtain ⟨hl1, hl2⟩ := hl.out
        subst hl1
        exact ⟨gg, cc, hs, ts, rfl, ⟨by omega, hl2⟩, HG.out, hgr⟩
  have H := Lib.hid h
  have HBS := Lib.hid hbs
  have HLL := Lib.hid LL
  clear h hbs LL
  go_enter Try.func25, Try.ntmps25
  go_wp2_with fail
  refine (l01New_any _ _ _ _ _ H.out hn HBS.out).mono ?_
  rintro e w1 ⟨g, rfl, hc1, hb1⟩
  have z1 := hc1.lt
  have s1 := hb1.size
  go_wp2_with fail
  refine (HLL.out _ _ _ hc1 s1).mono ?_
  rintro e w2 ⟨gg, cc, hs, ts, rfl, hd, hG, hg⟩
  have HG := Lib.hid hG
  clear hG
  go_wp2
  go_ret
  exact ⟨_, cc, hs, ts, rfl, hd, HG.out.rd, hb1.trans (grown_is_below hg z1.1 s1)⟩

end Go.Proofs.Ytjcaamnojinnmaa
