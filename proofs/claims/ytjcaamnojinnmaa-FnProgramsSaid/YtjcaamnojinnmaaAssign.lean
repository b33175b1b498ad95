/-
  The reference's AssignTeeth, of a valid comb with as many teeth of each pitch as the valid tune needs: it ends well.
-/
import Derived.Test.YtjcaamnojinnmaaAssignMath
import Derived.Test.YtjcaamnojinnmaaCombAll
namespace Go.Proofs.Ytjcaamnojinnmaa
open Go.RowKit

theorem comb_at {cs : List Int} (h : combB cs = true) {k : Nat} (hk : k < cs.length) : stepK cs k = true := by
  unfold combB combTo at h
  simp only [Bool.and_eq_true] at h
  exact List.all_eq_true.1 h.1 k (List.mem_range.2 hk)

set_option maxHeartbeats 400000 in
theorem sCombOk (A : Option Addr) (n c : Nat) (cs : List Int) (w : World) (B : Nat) (h : Rd w B 1 A n (cs.map (Value.int .i64))) (hc : combB cs = true) :
    Calls Try.prog 50 #[.slice A n c] w fun e w' => e = .returned (.bool true) ∧ ∃ q, w' = w.drewN q := by
  have hlen : cs.length = n := by simpa using h.1
  have hb : inB (n : Int) 1 24 = true := by
    unfold combB at hc
    simp only [Bool.and_eq_true] at hc
    rw [← hlen]
    exact hc.2
  have H := Lib.hid h
  have HL := Lib.hid hlen
  have HC0 := Lib.hid hc
  have HI := Lib.hid (fun w => l01In_any (n : Int) 1 24 w)
  rw [hb] at HI
  have hn24 : (n : Int) ≤ 24 := (inB_iff.1 hb).2
  clear h hlen hc hb
  go_enter Try.func50, Try.ntmps50
  go_wp2
  go_loopw [3] (fun i wr => ∃ k q : Nat, k ≤ n ∧ i = .int .i64 k ∧ wr = w.drewN q) (fun i _ => n - (intOf i).toNat)
  case atStart => exact ⟨0, 0, Nat.zero_le _, rfl, rfl⟩
  case round =>
    obtain ⟨k, q, hk, rfl, hwa⟩ := hrel
    have HWA := Lib.hid hwa
    have HCW := Lib.hid (fun p => (by rw [hwa]; rfl : wr.cell? p = w.cell? p))
    clear hwa
    by_cases hlt : (k : Int) < n
    · obtain ⟨b, o, rfl, hbB, hcell⟩ := H.out.cell (by omega)
      obtain ⟨x, hx⟩ : ∃ x, cs[k]? = some x := ⟨_, List.getElem?_eq_getElem (by rw [HL.out]; omega)⟩
      have c0 : wr.cell? ⟨b, o + k, none⟩ = some (.int .i64 x) := (HCW.out _).trans (hcell k _ (by simp [hx]))
      have hst := comb_at HC0.out (k := k) (by rw [HL.out]; omega)
      unfold stepK at hst
      rw [getD_of hx] at hst
      simp only [Bool.and_eq_true] at hst
      obtain ⟨hs1, hs2⟩ := hst
      have HC := Lib.hid hcell
      have HS2 := Lib.hid hs2
      clear hx hcell hs2
      by_cases hk0 : (0 : Int) < k
      case neg =>
        have hg : decide (0 < k) = false := by simp; omega
        have hgn : ¬ 0 < k := by omega
        go_wp2
        go_quiet ((go_at_call 40; exact qIn hs1))
        go_wp2
        go_roundw
        case rel => exact ⟨k + 1, _, by omega, by go_num, by rw [HWA.out]; exact World.drewN_drewN ..⟩
        case measure => simp [intOf] <;> omega
      obtain ⟨j, hj⟩ : ∃ j, k = j + 1 := ⟨k - 1, by omega⟩
      obtain ⟨y, hy⟩ : ∃ y, cs[j]? = some y := ⟨_, List.getElem?_eq_getElem (by rw [HL.out]; omega)⟩
      have d0 : wr.cell? ⟨b, o + j, none⟩ = some (.int .i64 y) := (HCW.out _).trans (HC.out j _ (by simp [hy]))
      have hyx : y ≤ x := by
        have := HS2.out
        rw [show k - 1 = j by omega, getD_of hy] at this
        simp at this
        omega
      have hwj : IntKind.i64.wrap ((k : Int) - 1) = (j : Int) := by rw [IntWalk.i64_in _ (by omega)]; omega
      have hsj : (k : Int) - 1 = (j : Int) := by omega
      have hj0 : (0 : Int) ≤ j := by omega
      have hjn : (j : Int) < n := by omega
      have hg : decide (0 < k) = true := by simp; omega
      have hgn : 0 < k := by omega
      have hd : decide (x < y) = false := by simp; omega
      clear hj hy
      go_wp2
      go_quiet ((go_at_call 40; exact qIn hs1))
      go_wp2
      go_roundw
      case rel => exact ⟨k + 1, _, by omega, by go_num, by rw [HWA.out]; exact World.drewN_drewN ..⟩
      case measure => simp [intOf] <;> omega
    · obtain rfl : k = n := by omega
      go_wp2_with (go_at_call 40; refine (HI.out _).mono ?_; rintro e w' ⟨rfl, rfl⟩)
      go_ret
      exact ⟨rfl, q, HWA.out⟩

/-- it ended well -/
def CanT (w : World) (e : Ending) (w' : World) : Prop := ∃ v, e = .returned (.tuple #[v, .bool true]) ∧ Below w.heap.size w w'

set_option maxHeartbeats 2000000 in
theorem sAssign (A : Option Addr) (M c : Nat) (cs : List Int) (A' : Option Addr) (n c' : Nat) (xs : List (Int × Int)) (r : Int) (w : World) (h : Rd w w.heap.size 1 A M (cs.map (Value.int .i64))) (h' : Rd w w.heap.size 2 A' n (pc xs))
    (hc : combB cs = true) (ht : tuneB xs = true) (hr : 1 ≤ r ∧ r ≤ 100) (hcnt : ∀ k, k < xs.length → cntS xs r k ≤ cntL cs (nt xs k).2) :
    Calls Try.prog 28 #[.slice A M c, .slice A' n c', .int .i64 r] w (CanT w) := by
  have hlen : cs.length = M := by simpa using h.1
  have hlen' := h'.pair
  have hM24 : M ≤ 24 := by
    unfold combB at hc
    simp only [Bool.and_eq_true] at hc
    have := (inB_iff.1 hc.2).2
    omega
  have hn40 : n ≤ 40 := by rw [← hlen']; exact tune_len ht
  have hin : inB r 1 100 = true := inB_true hr
  obtain ⟨hr0, hr1⟩ := hr
  have H := Lib.hid h
  have H' := Lib.hid h'
  have HL := Lib.hid hlen
  have HL' := Lib.hid hlen'
  have HT := Lib.hid ht
  have HCN := Lib.hid (fun k J (hp : Played xs cs k J) (hk : k < xs.length) => free_tooth hp ht hk hr0 hr1 (hcnt k hk))
  have CK := Lib.hid (fun w B h => sCombOk A M c cs w B h hc)
  have TH := Lib.hid (fun w h => ((sTuneOk A' n c' xs w h (by omega)).mono fun e w' (h : _ ∧ _) => (⟨by rw [h.1, ht], h.2⟩ : e = .returned (.bool true) ∧ Below w.heap.size w w')))
  have IH := Lib.hid (fun w => ((l01In_any r 1 100 w).mono fun e w' (h : _ ∧ _) => (⟨by rw [h.1, hin], h.2⟩ : e = .returned (.bool true) ∧ w = w')))
  have OE := Lib.hid (own_empty w 3 1 w.heap.size (Nat.le_refl _))
  have BE := Lib.hid ((Below.refl w.heap.size w).alloc (Nat.le_refl _) (.cells #[] 3))
  have hmk := run_make_row' (P := Try.prog) 23 3 (.int .i64 0) 8 Try.underlying23 infoInt rfl .i64 .i64 M (by omega) (by omega)
  have hMi : (M : Int) ≤ 24 := by omega
  have hni : (n : Int) ≤ 40 := by omega
  clear h h' hlen hlen' hc ht hin hcnt
  go_enter Try.func28, Try.ntmps28
  go_wp2_with (first
    | (go_at_call 50; refine (CK.out _ _ (H.out.below BE.out)).mono ?_; rintro e w1 ⟨rfl, q, rfl⟩)
    | (go_at_call 51; refine (TH.out _ ((H'.out.below (BE.out.trans (Go.Joins.below_draws _ _ q))).more (BE.out.trans (Go.Joins.below_draws _ _ q)).size)).mono ?_; rintro e w2 ⟨rfl, hb2⟩)
    | (go_at_call 40; refine (IH.out _).mono ?_; rintro e w' ⟨rfl, rfl⟩))
  have b2 : Below w.heap.size w w2 := (BE.out.trans (Go.Joins.below_draws _ _ q)).trans (hb2.mono (BE.out.trans (Go.Joins.below_draws _ _ q)).size)
  have O2 := Lib.hid ((own_below (own_drewN OE.out q) hb2).alloc (.cells (madeCells #[.int .i64 0] M) 3))
  have B2 := Lib.hid (b2.alloc b2.size (.cells (madeCells #[.int .i64 0] M) 3))
  have K2 := Lib.hid (Blk.new w2 3 (madeCells #[.int .i64 0] M))
  have z2 := b2.size
  have y2 : w.heap.size < w2.heap.size := by
    have := hb2.size
    have e : ((w.alloc (.cells #[] 3)).drewN q).heap.size = w.heap.size + 1 := by simp
    omega
  clear hb2 b2 hmk
  go_loopw [10] (fun i wr => ∃ k : Nat, k ≤ M ∧ i = .int .i64 k ∧ Blk wr w2.heap.size 3 (arrL (fun x => if x < k then -1000 else 0) M) ∧ wr.ownsRow w.heap.size 3 1 (.slice (some ⟨w.heap.size, 0, none⟩) 0 0) 0 [] ∧ Below w.heap.size w wr) (fun i _ => M - (intOf i).toNat)
  case atStart => exact ⟨0, Nat.zero_le _, rfl, by rw [← arrL_congr (L := fun _ => 0) fun i _ => by simp, ← arrL_zero]; exact K2.out, O2.out, B2.out⟩
  case round =>
    obtain ⟨k, hk, rfl, hB, hO, hbl⟩ := hrel
    by_cases hlt : (k : Int) < M
    · have d0 : ∃ u, wr.cell? ⟨w2.heap.size, k, none⟩ = some u := ⟨_, (hB.cell k).trans (arrL_get _ (by omega))⟩
      obtain ⟨u, d0⟩ := d0
      have f0 := hB.frozen k
      have hs := hB.set_ k (.int .i64 (-1000))
      rw [arrL_set _ _ (by omega), arrL_congr (L' := fun x => if x < k + 1 then -1000 else 0) fun i _ => by
        by_cases e : i = k
        · subst e; simp
        · by_cases e2 : i < k
          · rw [if_neg e, if_pos e2, if_pos (by omega)]
          · rw [if_neg e, if_neg e2, if_neg (by omega)]] at hs
      have HS := Lib.hid hs
      have HO := Lib.hid (hO.kept (grown_set1 (g := w2.heap.size) (i := k) (.int .i64 (-1000))) (Or.inr fun e => by injection e with e; have e : w.heap.size = w2.heap.size := e; omega))
      have HL2 := Lib.hid (hbl.setCell (p := ⟨w2.heap.size, k, none⟩) z2 (.int .i64 (-1000)))
      clear hs hB hO hbl
      go_wp2_with fail
      go_roundw
      case rel => exact ⟨k + 1, by omega, by go_num, HS.out, HO.out, HL2.out⟩
      case measure => simp [intOf] <;> omega
    · obtain rfl : k = M := by omega
      have KB : Blk wr w2.heap.size 3 (arrL (lastT xs fun _ => none) k) := by
        rw [arrL_congr (L' := fun x => if x < k then -1000 else 0) fun i hi => by rw [if_pos hi]; rfl]
        exact hB
      have HB := Lib.hid KB
      have HO := Lib.hid hO
      have HBL := Lib.hid hbl
      clear hB hO hbl KB
      go_wp2_with fail
      go_loopw [8, 11] (fun v i wr => ∃ (t g cc : Nat) (l : List Int) (J : Nat → Option Nat), t ≤ n ∧ i = .int .i64 t ∧ v = .slice (some ⟨g, 0, none⟩) t cc ∧ g ≠ w2.heap.size ∧ wr.ownsRow w.heap.size 3 1 (.slice (some ⟨g, 0, none⟩) t cc) t (l.map (Value.int .i64)) ∧
          Blk wr w2.heap.size 3 (arrL (lastT xs J) k) ∧ Hid (Played xs cs t J) ∧ Below w.heap.size w wr) (fun _ i _ => n - (intOf i).toNat)
      case atStart => exact ⟨0, w.heap.size, 0, [], fun _ => none, Nat.zero_le _, rfl, rfl, by omega, HO.out, HB.out, Lib.hid (played_start _ _), HBL.out⟩
      case round =>
        obtain ⟨t, g, cc, l, J, ht, rfl, rfl, hg, hO, hB, hP, hbl⟩ := hrel
        obtain ⟨wo, rfl⟩ : ∃ wo : World, wo = wr := ⟨_, rfl⟩
        by_cases hlt2 : (t : Int) < n
        · obtain ⟨b', o', rfl, hbB', hcell'⟩ := H'.out.pairAt (by omega)
          obtain ⟨⟨x, y⟩, hx⟩ : ∃ p, xs[t]? = some p := ⟨_, List.getElem?_eq_getElem (by rw [HL'.out]; omega)⟩
          have hb := tune_at HT.out (show t < xs.length by rw [HL'.out]; omega)
          rw [nt_of hx] at hb
          obtain ⟨x0, x1, y0, y1⟩ := hb
          simp only at x0 x1 y0 y1
          obtain ⟨g0, g1⟩ := hcell' t _ hx
          have G0 := Lib.hid g0
          have G1 := Lib.hid g1
          have hfree := HCN.out t J hP.out (by rw [HL'.out]; omega)
          have hnt := nt_of hx
          have hfb : ∀ i, freeB xs cs r t J i = decide (cs.getD i (-1) = y ∧ r ≤ x - lastT xs J i) := fun i => by unfold freeB; rw [hnt]
          have HFB := Lib.hid hfb
          have HFR := Lib.hid hfree
          have HNT := Lib.hid hnt
          have HLT := Lib.hid (fun i (hi : i < k) => (by
            unfold lastT
            cases e : J i with
            | none => simp
            | some j =>
              have := tune_at HT.out (show j < xs.length by rw [HL'.out]; have := (hP.out.1 i j e).1; omega)
              simp only
              omega : -1000 ≤ lastT xs J i ∧ lastT xs J i ≤ 1000))
          have HO := Lib.hid hO
          have HB := Lib.hid hB
          have HBL := Lib.hid hbl
          clear hcell' hx g0 g1 hfree hnt hfb hO hB hbl
          go_wp2_with fail
          go_loopw [12, 13] (fun v i wr => ∃ (j : Nat) (z : Int), j ≤ k ∧ i = .int .i64 j ∧ v = .int .i64 z ∧ z ≤ 24 ∧ -1 ≤ z ∧ Hid ((z < 0 → ∀ i', i' < j → freeB xs cs r t J i' = false) ∧ (0 ≤ z → z < (k : Int) ∧ freeB xs cs r t J z.toNat = true)) ∧ (∃ q, wr = wo.drewN q)) (fun _ i _ => k - (intOf i).toNat)
          case atStart => exact ⟨0, -1, Nat.zero_le _, rfl, rfl, by omega, by omega, Lib.hid ⟨fun _ i' h => by omega, fun h => by omega⟩, 0, rfl⟩
          case round =>
            obtain ⟨j, z, hj, rfl, rfl, hz24, hz1, hz, q2, hwa⟩ := hrel
            have HWA := Lib.hid hwa
            have HCW := Lib.hid (fun p => (by rw [hwa]; rfl : wr.cell? p = wo.cell? p))
            clear hwa
            by_cases hz0 : z < 0
            · by_cases hjk : (j : Int) < k
              · obtain ⟨b, o, rfl, hbB, hcell⟩ := H.out.cell (by omega)
                obtain ⟨p, hp⟩ : ∃ p, cs[j]? = some p := ⟨_, List.getElem?_eq_getElem (by rw [HL.out]; omega)⟩
                have c0 : wr.cell? ⟨b, o + j, none⟩ = some (.int .i64 p) := (HCW.out _).trans ((HBL.out.cell (p := ⟨b, o + j, none⟩) hbB).trans (hcell j _ (by simp [hp])))
                have c1 : wr.cell? ⟨b', o' + t * 2, none⟩ = some (.int .i64 x) := (HCW.out _).trans ((HBL.out.cell (p := ⟨b', o' + t * 2, none⟩) hbB').trans G0.out)
                have c2 : wr.cell? ⟨b', o' + t * 2 + 1, none⟩ = some (.int .i64 y) := (HCW.out _).trans ((HBL.out.cell (p := ⟨b', o' + t * 2 + 1, none⟩) hbB').trans G1.out)
                have c3 : wr.cell? ⟨w2.heap.size, j, none⟩ = some (.int .i64 (lastT xs J j)) := (HCW.out _).trans ((HB.out.cell j).trans (arrL_get _ (by omega)))
                have hlb := HLT.out j (by omega)
                have hf := HFB.out j
                rw [getD_of hp] at hf
                generalize lastT xs J j = Lj at *
                obtain ⟨l0, l1⟩ := hlb
                have hwr : IntKind.i64.wrap (x - Lj) = x - Lj := IntWalk.i64_in _ (by omega)
                have HZ := Lib.hid (hz.out.1 hz0)
                have hno : freeB xs cs r t J j = false → ∀ i', i' < j + 1 → freeB xs cs r t J i' = false := fun h i' hi' => by
                  by_cases e : i' = j
                  · subst e; exact h
                  · exact HZ.out i' (by omega)
                have HNO := Lib.hid hno
                clear hcell hp hno hz
                by_cases hpy : p = y
                · subst hpy
                  by_cases hrl : r ≤ x - Lj
                  · have hft : freeB xs cs r t J j = true := hf.trans (by simp [hrl])
                    have HF := Lib.hid hft
                    clear hf hft
                    go_wp2_with fail
                    go_quiet (fail)
                    go_wp2_with fail
                    go_roundw
                    case rel => exact ⟨j + 1, (j : Int), by omega, by go_num, rfl, by omega, by omega, Lib.hid ⟨fun h => by omega, fun _ => ⟨by omega, by simpa using HF.out⟩⟩, _, by rw [HWA.out]; exact World.drewN_drewN ..⟩
                    case measure => simp [intOf] <;> omega
                  · have hff : freeB xs cs r t J j = false := hf.trans (by simp [hrl])
                    have HF := Lib.hid (HNO.out hff)
                    have hrd : decide (r ≤ x - Lj) = false := by simp; omega
                    clear hf hff
                    go_wp2_with fail
                    go_quiet (fail)
                    go_wp2_with fail
                    go_roundw
                    case rel => exact ⟨j + 1, z, by omega, by go_num, rfl, by omega, by omega, Lib.hid ⟨fun _ => HF.out, fun h => by omega⟩, _, by rw [HWA.out]; exact World.drewN_drewN ..⟩
                    case measure => simp [intOf] <;> omega
                · have hff : freeB xs cs r t J j = false := hf.trans (by simp [hpy])
                  have HF := Lib.hid (HNO.out hff)
                  have hpb : (p == y) = false := by simp [hpy]
                  clear hf hff hpy
                  go_wp2_with fail
                  go_quiet (fail)
                  go_wp2_with fail
                  go_roundw
                  case rel => exact ⟨j + 1, z, by omega, by go_num, rfl, by omega, by omega, Lib.hid ⟨fun _ => HF.out, fun h => by omega⟩, _, by rw [HWA.out]; exact World.drewN_drewN ..⟩
                  case measure => simp [intOf] <;> omega
              · exfalso
                obtain ⟨i', hi', hfi⟩ := HFR.out
                rw [hz.out.1 hz0 i' (by rw [HL.out] at hi'; omega)] at hfi
                cases hfi
            · obtain ⟨Z, rfl⟩ := Int.eq_ofNat_of_zero_le (show 0 ≤ z by omega)
              obtain ⟨hZk, hZf⟩ := hz.out.2 (by omega)
              rw [Int.toNat_natCast] at hZf
              have hZp : cs.getD Z (-1) = (nt xs t).2 := by
                unfold freeB at hZf
                exact (of_decide_eq_true hZf).1
              have hPS := played_step hP.out hZp
              have hls := last_step xs J Z t
              have hwo : Blk wr w2.heap.size 3 (arrL (lastT xs J) k) := by rw [HWA.out]; exact HB.out
              have hoo : wr.ownsRow w.heap.size 3 1 (.slice (some ⟨g, 0, none⟩) t cc) t (l.map (Value.int .i64)) := by rw [HWA.out]; exact own_drewN HO.out q2
              have hll : Below w.heap.size w wr := by rw [HWA.out]; exact HBL.out.trans (Go.Joins.below_draws _ _ _)
              have c1 : wr.cell? ⟨b', o' + t * 2, none⟩ = some (.int .i64 x) := (hll.cell (p := ⟨b', o' + t * 2, none⟩) hbB').trans G0.out
              have d0 : wr.cell? ⟨w2.heap.size, Z, none⟩ = some (.int .i64 (lastT xs J Z)) := (hwo.cell Z).trans (arrL_get _ (by omega))
              have f0 := hwo.frozen Z
              have hs := hwo.set_ Z (.int .i64 x)
              rw [arrL_set _ _ (by omega), show x = (nt xs t).1 by rw [HNT.out], hls] at hs
              have hso := hoo.kept (grown_set1 (g := w2.heap.size) (i := Z) (.int .i64 (nt xs t).1)) (Or.inr fun e => by injection e with e; exact hg e)
              have hsl := hll.setCell (p := ⟨w2.heap.size, Z, none⟩) z2 (.int .i64 (nt xs t).1)
              rw [show (nt xs t).1 = x by rw [HNT.out]] at hs hso hsl
              have HS := Lib.hid hs
              have HSO := Lib.hid hso
              have HSL := Lib.hid hsl
              have HPS := Lib.hid hPS
              have zs := hsl.size
              have zw := hwo.lt
              have hZ0 : ¬ ((Z : Int) < 0) := by omega
              generalize lastT xs J Z = LZ at *
              clear hZf hZp hPS hls hwo hoo hll hs hso hsl hz HFB HFR HNT HLT
              by_cases hjk : (j : Int) < k
              all_goals
                go_wp2_with (at_builtin; refine wpList_app_int2 (w := wr.setCell ⟨w2.heap.size, Z, none⟩ (.int .i64 x)) (W := w) rfl (.tmp 93) (.tmp 95) rfl w.heap.size _ _ _ (Z : Int) rfl HSO.out (by simp [go_sem]) (by omega) zs HSL.out ?_; intro g' c3 w' hown' hg' hbl' hor)
                have HO' := Lib.hid hown'
                have hgn : g' ≠ w2.heap.size := by
                  rcases hor with h | h
                  · intro e
                    subst e
                    exact hg (by injection h)
                  · have : (wr.setCell ⟨w2.heap.size, Z, none⟩ (.int .i64 x)).heap.size = wr.heap.size := by simp [World.setCell]
                    omega
                have HB' := Lib.hid (HS.out.grown hg' (fun e => hg (by injection e with e; exact e.symm)))
                clear hown' hg' hor
                go_roundw
                case rel => exact ⟨t + 1, g', c3, l ++ [(Z : Int)], _, by omega, by go_num, rfl, hgn, HO'.out, HB'.out, HPS, hbl'⟩
                case measure => simp [intOf] <;> omega
        · obtain rfl : t = n := by omega
          go_wp2
          go_ret2
          exact ⟨_, rfl, hbl⟩

end Go.Proofs.Ytjcaamnojinnmaa
