/-
  The law FnPrograms, walked: no larger choice of tunes has as few teeth. True for all bytes.
-/
import Derived.Test.YtjcaamnojinnmaaProgLaw
import Derived.Test.YtjcaamnojinnmaaAt
import Derived.Deep.DeepCutAuto
import Derived.Deep.CutBlock
namespace Go.Proofs.Ytjcaamnojinnmaa
open Go.RowKit

set_option maxHeartbeats 400000 in
theorem has_any (A : Option Addr) (n c : Nat) (xs : List Int) (y : Int) (w : World) (B : Nat) (h : Rd w B 1 A n (xs.map (Value.int .i64))) (hn : n ≤ 1048576) :
    Calls Try.prog 27 #[.slice A n c, .int .i64 y] w fun e w' => e = .returned (.bool (decide (y ∈ xs))) ∧ w = w' := by
  have hlen : xs.length = n := by simpa using h.1
  have H := Lib.hid h
  have HL := Lib.hid hlen
  clear h hlen
  have hni : (n : Int) ≤ 1048576 := by omega
  obtain ⟨v, hv⟩ : ∃ v, v = decide (y ∈ xs) := ⟨_, rfl⟩
  rw [← hv]
  have HV := Lib.hid hv
  clear hv
  go_enter Try.func27, Try.ntmps27
  go_wp2
  go_loop [5] (fun i => ∃ k : Nat, k ≤ n ∧ i = .int .i64 k ∧ Hid (y ∉ xs.take k)) (fun i => n - (intOf i).toNat)
  case atStart => exact ⟨0, Nat.zero_le _, rfl, Lib.hid (by simp)⟩
  case round =>
    obtain ⟨k, hk, rfl, hno⟩ := hrel
    by_cases hlt : (k : Int) < n
    · obtain ⟨b, o, rfl, hbB, hcell⟩ := H.out.cell (by omega)
      obtain ⟨z, hz⟩ : ∃ z, xs[k]? = some z := ⟨_, List.getElem?_eq_getElem (by rw [HL.out]; omega)⟩
      have c1 : w.cell? ⟨b, o + k, none⟩ = some (.int .i64 z) := hcell k _ (by simp [hz])
      have HZ := Lib.hid hz
      clear hcell hz
      by_cases e : z = y
      · have hin : decide (y ∈ xs) = true := decide_eq_true (e ▸ List.mem_of_getElem? HZ.out)
        have HI := Lib.hid (HV.out.trans hin)
        subst e
        clear hin
        go_wp2
        go_ret
        exact ⟨by rw [HI.out]; rfl, rfl⟩
      · have hb : (z == y) = false := by simp [e]
        have hno2 : y ∉ xs.take (k + 1) := by
          rw [take_ch HZ.out, List.mem_append, List.mem_singleton]
          rintro (h1 | h1)
          · exact hno.out h1
          · exact e h1.symm
        have HN := Lib.hid hno2
        clear hno2 e
        go_wp2
        go_round
        case rel => exact ⟨k + 1, by omega, by go_num, HN⟩
        case measure => simp [intOf]; omega
    · obtain rfl : k = n := by omega
      have hin : decide (y ∈ xs) = false := by
        have := hno.out
        rw [List.take_of_length_le (by rw [HL.out]; omega)] at this
        exact decide_eq_false this
      have HI := Lib.hid (HV.out.trans hin)
      clear hin
      go_wp2
      go_ret
      exact ⟨by rw [HI.out]; rfl, rfl⟩
theorem ownv_below {w w' : World} {base size n : Nat} {v : Value} {xs : List Value} {e : TypeId} (h : w.ownsRow base e size v n xs) (hb : Below w.heap.size w w') : w'.ownsRow base e size v n xs := by
  obtain ⟨A, c, rfl⟩ := own_shape h
  exact own_below h hb

set_option maxHeartbeats 8000000 in
set_option maxRecDepth 100000 in
theorem fnPrograms_walk (W : World) (A : Option Addr) (n c : Nat) (bs : List Int) (r : Rd W W.heap.size 1 A n (bs.map (Value.int .u8))) (_l : bs.length = n) (_nc : n ≤ c) (_nm : n ≤ 9223372036854775807)
    (wb : ∀ x ∈ bs, (Lit.int .u8 x).wf = true) :
    Calls Try.prog 7 #[.slice A n c] W fun e w' => e = .returned (.bool true) ∧ Below W.heap.size W w' := by
  have hbs : ∀ x ∈ bs, 0 ≤ x ∧ x ≤ 255 := fun x hx => bounds_u8 (wb x hx)
  have R := Lib.hid r
  have HBS := Lib.hid hbs
  clear r hbs wb
  by_cases hn : n ≤ 1048576
  case neg =>
    have hb : decide (1048576 < n) = true := by simp; omega
    go_enter Try.func7, Try.ntmps7
    go_wp2_with (go_at_call 24; refine (big_any _ _ _ _).mono ?_; rintro e w' ⟨rfl, rfl⟩; rw [hb])
    go_ret
    exact ⟨rfl, Below.refl _ _⟩
  have hb : decide (1048576 < n) = false := by simp; omega
  have HB := Lib.hid hb
  clear hb
  have A0 := atZ_bd HBS.out 0
  have A1 := atZ_bd HBS.out 1
  have A2 := atZ_bd HBS.out 2
  have Q0 := Lib.hid (fun w (hb : Below W.heap.size W w) => at_is A n c bs 0 w W.heap.size (R.out.below hb) HBS.out hn (by omega) (by omega))
  have Q1 := Lib.hid (fun w (hb : Below W.heap.size W w) => at_is A n c bs 1 w W.heap.size (R.out.below hb) HBS.out hn (by omega) (by omega))
  have Q2 := Lib.hid (fun w (hb : Below W.heap.size W w) => at_is A n c bs 2 w W.heap.size (R.out.below hb) HBS.out hn (by omega) (by omega))
  generalize atZ bs 0 = x0 at *
  generalize atZ bs 1 = x1 at *
  generalize atZ bs 2 = x2 at *
  obtain ⟨A00, A01⟩ := A0
  obtain ⟨A10, A11⟩ := A1
  obtain ⟨A20, A21⟩ := A2
  go_enter Try.func7, Try.ntmps7
  go_wp2_with fail
  refine (big_any _ _ _ _).mono ?_
  rintro e w' ⟨rfl, rfl⟩
  rw [HB.out]
  go_wp2_with fail
  refine (DrawTunes_any _ _ _ _ _ R.out hn HBS.out).mono ?_
  rintro e w1 ⟨A1, c1, hs, ts, rfl, hd, hG, hb1⟩
  obtain ⟨N, hN⟩ : ∃ N, N = ts.length := ⟨_, rfl⟩
  have htu := tunes4_ok hd
  have hN4 : N ≤ 4 := by rw [hN]; exact hd.1
  have ht8 := fun r => teeth_8 (ts := ts) (r := r) hd.1
  rw [← hN] at hG ⊢
  have HG := Lib.hid hG
  have HT8 := Lib.hid ht8
  have HTU := Lib.hid htu
  have HNN := Lib.hid hN
  clear hd htu hN hG ht8
  go_wp2_with fail
  refine (Q0.out _ hb1).mono ?_
  rintro e w' ⟨rfl, rfl⟩
  go_wp2_with fail
  refine (Q1.out _ hb1).mono ?_
  rintro e w' ⟨rfl, rfl⟩
  obtain ⟨r, hr, r0, r1⟩ : ∃ r, r = 1 + x0 % 4 ∧ 1 ≤ r ∧ r ≤ 4 := ⟨_, rfl, by omega, by omega⟩
  rw [← hr]
  clear hr
  go_wp2_with fail
  obtain ⟨teeth, hte, te0, te1⟩ : ∃ t, t = x1 % 25 ∧ 0 ≤ t ∧ t ≤ 24 := ⟨_, rfl, by omega, by omega⟩
  rw [← hte]
  clear hte
  have hir : inB r 1 100 = true := inB_true (by omega)
  have hit : inB teeth 0 100 = true := inB_true (by omega)
  have hmo : mostOkB ts r teeth = true := by unfold mostOkB; rw [HTU.out, hir, hit]; rfl
  have hmv := most_is hmo
  obtain ⟨bb1, bb2, bb3⟩ := most_best (ts := ts) (r := r) te0
  have hex := fun k (hk : k < ts.length) => extra_is (ts := ts) (r := r) (teeth := teeth) HTU.out hir te0 hk
  have htm := teeth_set HTU.out hir (bitS (mostS ts r teeth))
  have hta := teeth_set HTU.out hir allT
  have hto := fun S : Nat => teeth_set HTU.out hir (bitS S)
  have hmono : tv ts r (bitS (mostS ts r teeth)) ≤ tv ts r allT := tv_mono fun _ _ _ => rfl
  have homono : ∀ S, tv ts r (bitS S) ≤ tv ts r allT := fun S => tv_mono fun _ _ _ => rfl
  have hwl := tv_le (tunes_all HTU.out).1 r allT
  obtain ⟨hc1, hc2⟩ := comb_whole HTU.out hir
  have hcl := combV_len ts (memL allT ts.length) r
  have hml : (memL (bitS (mostS ts r teeth)) ts.length).length = cn (bitS (mostS ts r teeth)) ts.length := memL_len _ _
  have hml8 := cn_len (bitS (mostS ts r teeth)) ts.length
  rw [← HNN.out] at *
  generalize hS0 : mostS ts r teeth = S0 at *
  obtain ⟨ml, hmle⟩ : ∃ ml, ml = memL (bitS S0) N := ⟨_, rfl⟩
  rw [← hmle] at hmv hex htm hml hml8
  obtain ⟨al, hale⟩ : ∃ al, al = memL allT N := ⟨_, rfl⟩
  have hall : al.length = N := by rw [hale, memL_len]; exact cn_const fun _ _ => rfl
  rw [← hale] at hta hc1 hc2 hcl
  have MT := Lib.hid (fun w h => iMostTunes A1 N c1 hs ts r teeth w h (by omega))
  rw [hmv, hmo] at MT
  unfold MadeTI at MT
  obtain ⟨ML, hMLe⟩ : ∃ ML, ML = ml.length := ⟨_, rfl⟩
  rw [← hMLe] at MT hml hml8
  have TM := Lib.hid (fun A2 c2 w h h' => iTeethForAll A1 N c1 hs ts A2 ML c2 ml r w h h' (by omega) (by omega))
  rw [htm] at TM
  have TA := Lib.hid (fun A2 c2 w h h' => iTeethForAll A1 N c1 hs ts A2 N c2 al r w h h' (by omega) (by omega))
  rw [hta] at TA
  have XE := Lib.hid (fun A2 c2 (k : Int) w h h' => iExtraTeeth A1 N c1 hs ts A2 ML c2 ml k r w h h' (by omega) (by omega))
  have CF := Lib.hid (fun A2 c2 w h h' => iCombForAll A1 N c1 hs ts A2 N c2 al r w h h' (by omega) (by omega))
  unfold MadeTI at CF
  have T8 := Lib.hid (fun A2 c2 w h h' => iTeethForAll A1 N c1 hs ts A2 1 c2 [8] r w h h' (by omega) (by omega))
  rw [HT8.out] at T8
  have TO := Lib.hid (fun S A2 c2 w h h' => (by
    have := iTeethForAll A1 N c1 hs ts A2 (memL (bitS S) N).length c2 (memL (bitS S) N) r w h h' (by omega) (Nat.le_trans (cn_len (bitS S) N) (by omega))
    rw [hto S] at this
    exact this : Calls Try.prog 12 #[.slice A1 N c1, .slice A2 (memL (bitS S) N).length c2, .int .i64 r] w fun e w' => e = .returned (.int .i64 (tv ts r (bitS S) : Nat)) ∧ Below w.heap.size w w'))
  generalize hn0 : tv ts r (bitS S0) = n0 at *
  generalize hwh : tv ts r allT = wh at *
  have HEX := Lib.hid hex
  have HAS := Lib.hid (fun A2 c2 (y : Int) w B h => has_any A2 ML c2 ml y w B h (by omega))
  have HB3 := Lib.hid bb3
  have HOM := Lib.hid homono
  have HC2 := Lib.hid hc2
  have HALE := Lib.hid hale
  have HALL := Lib.hid hall
  have HML := Lib.hid hml
  have hN4i : (N : Int) ≤ 4 := by omega
  have hMLi : (ML : Int) ≤ N := by omega
  have hn0i : (n0 : Int) ≤ wh := by omega
  have hwli : (wh : Int) ≤ 2440 := by omega
  clear hex bb3 homono hc2 hale hall hml hmle hMLe hmv hmo htm hta hto hS0 hn0 hwh hir hit
  refine (MT.out _ HG.out).mono ?_
  rintro e w2 ⟨A2, c2, rfl, ho2, hb2⟩
  have HG2 := Lib.hid (HG.out.step hb2)
  have b2 := hb1.trans (hb2.mono hb1.size)
  have M2 := Lib.hid (Rd.of_own ho2)
  clear ho2 hb2 hb1
  go_wp2_with fail
  refine (TM.out _ _ _ HG2.out M2.out).mono ?_
  rintro e w3 ⟨rfl, hb3⟩
  have HG3 := Lib.hid (HG2.out.step hb3)
  have b3 := b2.trans (hb3.mono b2.size)
  have M3 := Lib.hid ((M2.out.below hb3).more hb3.size)
  clear hb3 b2 HG2 M2
  have OE := Lib.hid (own_empty w3 3 1 w3.heap.size (Nat.le_refl _))
  have BE := Lib.hid ((Below.refl w3.heap.size w3).alloc (Nat.le_refl _) (.cells #[] 3))
  go_wp2_with fail
  go_loopw [9, 10] (fun v i wr => ∃ k : Nat, k ≤ N ∧ i = .int .i64 k ∧ wr.ownsRow w3.heap.size 3 1 v k ((memL allT k).map (Value.int .i64)) ∧ Below w3.heap.size w3 wr) (fun _ i _ => N - (intOf i).toNat)
  case atStart => exact ⟨0, Nat.zero_le _, rfl, OE.out, BE.out⟩
  case round =>
    obtain ⟨k, hk, rfl, hown, hbl⟩ := hrel
    by_cases hlt : (k : Int) < N
    · have HO := Lib.hid hown
      have zb := hbl.size
      have HST := Lib.hid (all_step1 k)
      clear hown
      go_wp2_with (at_builtin; refine wpList_app_int (w := wr) (W := w3) rfl (.tmp 62) (.tmp 64) rfl w3.heap.size _ _ _ (k : Int) rfl HO.out (by simp [go_sem]) (by omega) zb hbl ?_; intro v' w4 hown' hg' hbl')
      have HO' := Lib.hid hown'
      have zb' := hbl'.size
      have HG4 := Lib.hid (HG3.out.step hbl')
      have M4 := Lib.hid ((M3.out.below hbl').more zb')
      obtain ⟨E, hE, e0, e1, e2, e3⟩ := HEX.out k (by omega)
      have XK := Lib.hid (XE.out A2 c2 (k : Int))
      have HK := Lib.hid (HAS.out A2 c2 (k : Int))
      rw [hE] at XK
      clear hown' hg' hE
      go_wp2_with fail
      refine (XK.out _ HG4.out M4.out).mono ?_
      rintro e w5 ⟨rfl, hb5⟩
      have M5 := Lib.hid ((M4.out.below hb5).more hb5.size)
      have O5 := Lib.hid (ownv_below HO'.out hb5)
      have B5 := Lib.hid (hbl'.trans (hb5.mono zb'))
      clear hb5 hbl'
      cases hin : decide ((k : Int) ∈ ml)
      · have e3 := e3 hin
        rw [hin] at HK
        have d3 : decide ((n0 : Int) + E ≤ teeth) = false := by simp; omega
        clear e2 hin
        go_wp2_with (go_at_call 27; refine (HK.out _ _ M5.out).mono ?_; rintro e w' ⟨rfl, rfl⟩)
        go_roundw
        case rel => exact ⟨k + 1, by omega, by go_num, by rw [HST.out]; exact O5.out, B5.out⟩
        case measure => simp [intOf] <;> omega
      · have e2 := e2 hin
        rw [hin] at HK
        subst e2
        clear e3 hin
        go_wp2_with (go_at_call 27; refine (HK.out _ _ M5.out).mono ?_; rintro e w' ⟨rfl, rfl⟩)
        go_roundw
        case rel => exact ⟨k + 1, by omega, by go_num, by rw [HST.out]; exact O5.out, B5.out⟩
        case measure => simp [intOf] <;> omega
    · obtain rfl : k = N := by omega
      rw [← HALE.out] at hown
      obtain ⟨A6, c6, rfl⟩ := own_shape hown
      have HGr := Lib.hid (HG3.out.step hbl)
      have L6 := Lib.hid (Rd.of_own hown)
      have b6 := b3.trans (hbl.mono b3.size)
      clear hown HEX XE HAS
      go_wp2_with fail
      refine (TA.out _ _ _ HGr.out L6.out).mono ?_
      rintro e w7 ⟨rfl, hb7⟩
      have HG7 := Lib.hid (HGr.out.step hb7)
      have L7 := Lib.hid ((L6.out.below hb7).more hb7.size)
      have b7 := b6.trans (hb7.mono b6.size)
      clear hb7 b6 HGr L6 hbl
      go_wp2_with fail
      refine (CF.out _ _ _ HG7.out L7.out).mono ?_
      rintro e w8 ⟨A8, c8, rfl, ho8, hb8⟩
      have HG8 := Lib.hid (HG7.out.step hb8)
      have C8 := Lib.hid (Rd.of_own ho8)
      have b8 := b7.trans (hb8.mono b7.size)
      clear ho8 hb8 b7 HG7 L7 b3 HG3 M3 OE BE
      obtain ⟨ok, hok⟩ : ∃ ok, ok = combOkB ts al r := ⟨_, rfl⟩
      obtain ⟨cv, hcv⟩ : ∃ cv, cv = combV ts al r := ⟨_, rfl⟩
      have hlen := HC2.out
      rw [← hcv, ← hok] at hlen
      rw [← hok] at hc1
      rw [← hcv] at C8
      rw [← hok, ← hcv]
      obtain ⟨CL, hCL⟩ : ∃ CL, CL = cv.length := ⟨_, rfl⟩
      rw [← hCL] at hlen C8 ⊢
      have HLEN := Lib.hid hlen
      have HC1 := Lib.hid hc1
      clear hok hcv hlen hCL HC2 CF hc1
      have dn : decide (wh < n0) = false := by simp; omega
      go_upto_region 20 with fail
      go_cut [127] (fun s wx => s = .bool false ∧ w8 = wx)
      case first =>
        cases ok
        · have hc1 := HC1.out
          have hno : wh < 1 ∨ 24 < wh := by
            rcases Nat.lt_or_ge wh 1 with h | h
            · exact Or.inl h
            · rcases Nat.lt_or_ge 24 wh with h2 | h2
              · exact Or.inr h2
              · rw [inB_true (by omega)] at hc1
                cases hc1
          clear hc1 HC1 HLEN
          rcases hno with hno | hno
          · have d1 : decide ((1 : Int) ≤ wh) = false := by simp; omega
            go_wp2_with fail
            go_meet
            exact ⟨rfl, rfl⟩
          · have d1 : decide ((wh : Int) ≤ 24) = false := by simp; omega
            have d0 : (1 : Int) ≤ wh := by omega
            go_wp2_with fail
            go_meet
            exact ⟨rfl, rfl⟩
        · have hb := inB_iff.1 HC1.out.symm
          have e := (HLEN.out rfl).1
          obtain ⟨d0, d1⟩ := hb
          subst e
          clear HC1 HLEN
          go_wp2_with fail
          go_meet
          exact ⟨rfl, rfl⟩
      case rest =>
        obtain ⟨rfl, rfl⟩ := hcut
        clear HC1
        go_upto_block 2 with fail
        go_cut [15] from 128 to 148 (fun _ wx => ∃ wy, wy = wx ∧ RdSS wy wy.heap.size A1 k hs ts ∧ Below W.heap.size W wy)
        case first =>
          cases ok
          · by_cases hk0 : (0 : Int) < k
            all_goals
              go_wp2_with fail
              go_loopw [15] (fun i wr => i = .int .i64 0 ∧ wr = w8) (fun _ _ => 0)
              case atStart => exact ⟨rfl, rfl⟩
              case round =>
                obtain ⟨rfl, rfl⟩ := hrel
                go_wp2_with fail
                go_meet
                exact ⟨_, rfl, HG8.out, b8⟩
          · go_wp2_with fail
            go_loopw [15] (fun i wr => ∃ j : Nat, j ≤ k ∧ i = .int .i64 j ∧ RdSS wr wr.heap.size A1 k hs ts ∧ Rd wr wr.heap.size 1 A8 CL (cv.map (Value.int .i64)) ∧ Below W.heap.size W wr) (fun i _ => k - (intOf i).toNat)
            case atStart => exact ⟨0, Nat.zero_le _, rfl, HG8.out, C8.out, b8⟩
            case round =>
              obtain ⟨j, hj, rfl, hGr, hCr, hbl⟩ := hrel
              by_cases hjk : (j : Int) < k
              · obtain ⟨b, o, a, cc, t, hA1, hbB, _, htt, hc, hrr, _, hl⟩ := hGr.at (k := j) (by omega)
                have htu : tuneB t = true := List.all_eq_true.1 (tunes_all HTU.out).1 t (List.mem_of_getElem? htt)
                have AS := Lib.hid (fun w h h' => sAssign A8 CL c8 cv a t.length cc t r w h h' (HLEN.out (by first | rfl | trivial)).2.1 htu (by omega) fun q hq => (HLEN.out (by first | rfl | trivial)).2.2 j t htt q hq)
                obtain ⟨l, hll⟩ : ∃ l, l = t.length := ⟨_, rfl⟩
                rw [← hll] at hc hrr AS
                subst hA1
                have HR := Lib.hid hrr
                have HC := Lib.hid hCr
                have HGR := Lib.hid hGr
                have zb := hbl.size
                clear htt hrr htu hll hGr hCr hl
                go_wp2_with fail
                refine (AS.out _ HC.out HR.out).mono ?_
                rintro e w9 ⟨v, rfl, hb9⟩
                have G9 := Lib.hid (HGR.out.step hb9)
                have C9 := Lib.hid ((HC.out.below hb9).more hb9.size)
                have B9 := hbl.trans (hb9.mono zb)
                clear hb9
                go_wp2_with fail
                go_roundw
                case rel => exact ⟨j + 1, by omega, by go_num, G9.out, C9.out, B9⟩
                case measure => simp [intOf] <;> omega
              · have HGR := Lib.hid hGr
                clear hGr hCr
                go_wp2_with fail
                go_meet
                exact ⟨_, rfl, HGR.out, hbl⟩
        case rest =>
          obtain ⟨wy, rfl, hGr, hbl⟩ := hcut
          have HG := Lib.hid hGr
          have P1 : 0 < 2 ^ k := Nat.pow_pos (by omega)
          have P2 : 2 ^ k ≤ 2 ^ 4 := Nat.pow_le_pow_right (by omega) (by omega)
          obtain ⟨PN, hPN⟩ : ∃ PN, PN = 2 ^ k := ⟨_, rfl⟩
          have PW := Lib.hid (pow8 (n := k) (by omega))
          rw [← hPN] at P1 P2 PW
          have m0 := Int.emod_nonneg x2 (show (PN : Int) ≠ 0 by omega)
          have m1 := Int.emod_lt_of_pos x2 (show (0 : Int) < PN by omega)
          obtain ⟨S1, hS1⟩ := Int.eq_ofNat_of_zero_le m0
          have hS1P : S1 < PN := by omega
          have hbest := HB3.out S1 (by rw [← hPN]; exact hS1P)
          have hom := HOM.out S1
          have HPN := Lib.hid hPN
          have hPNi : (PN : Int) ≤ 16 := by omega
          have hPN0 : (0 : Int) < PN := by omega
          have hS256 : S1 < 256 := by omega
          have HS1 := Lib.hid hS1
          clear hGr hPN m0 m1 HB3 HOM hS1
          go_wp2_with fail
          have hpw2 : IntKind.i64.wrap (2 ^ k) = (PN : Int) := by rw [IntWalk.i64_left]; exact PW.out
          have hpz : ((PN : Int) == 0) = false := by simp; omega
          go_quiet ((go_at_call 26; exact quiet_t (Q2.out _ (hbl.trans (Go.Joins.below_draws _ _ _)))))
          clear hpw2 hpz
          rw [HS1.out]
          obtain ⟨wd, hwd⟩ : ∃ wd, wd = wy.drewN nq := ⟨_, rfl⟩
          have HGd : Hid (RdSS wd wd.heap.size A1 k hs ts) := by rw [hwd]; exact Lib.hid (HG.out.step (Go.Joins.below_draws _ _ _))
          have bd : Below W.heap.size W wd := by rw [hwd]; exact hbl.trans (Go.Joins.below_draws _ _ _)
          rw [← hwd]
          clear hwd HG hbl HS1 PW
          have OE2 := Lib.hid (own_empty wd 3 1 wd.heap.size (Nat.le_refl _))
          have BE2 := Lib.hid ((Below.refl wd.heap.size wd).alloc (Nat.le_refl _) (.cells #[] 3))
          have TO1 := Lib.hid (TO.out S1)
          have hl1 := memL_len (bitS S1) k
          generalize tv ts r (bitS S1) = V1 at *
          have HBE := Lib.hid hbest
          have HL0 := Lib.hid hl1
          clear hbest hl1
          go_wp2_with fail
          go_loopw [19, 20] (fun v i wr => ∃ j m : Nat, j ≤ k ∧ i = .int .i64 j ∧ m ≤ j ∧ wr.ownsRow wd.heap.size 3 1 v m ((memL (bitS S1) j).map (Value.int .i64)) ∧ Below wd.heap.size wd wr) (fun _ i _ => k - (intOf i).toNat)
          case atStart => exact ⟨0, 0, Nat.zero_le _, rfl, Nat.zero_le _, OE2.out, BE2.out⟩
          case round =>
            obtain ⟨j, m, hj, rfl, hmj, hown, hbl⟩ := hrel
            by_cases hjk : (j : Int) < k
            · have hbt := bit_1 hS256 j
              have hst := memL_step (bitS S1) j
              have HO := Lib.hid hown
              have zb := hbl.size
              clear hown
              cases hb : bitS S1 j
              · rw [hb] at hbt
                rw [hb, if_neg (by simp), List.append_nil] at hst
                have HST := Lib.hid hst
                clear hst hb
                go_wp2_with fail
                go_roundw
                case rel => exact ⟨j + 1, m, by omega, by go_num, by omega, by rw [HST.out]; exact HO.out, hbl⟩
                case measure => simp [intOf] <;> omega
              · rw [hb] at hbt
                rw [hb, if_pos rfl] at hst
                have HST := Lib.hid hst
                clear hst hb
                go_wp2_with (at_builtin; refine wpList_app_int (w := wr) (W := wd) rfl (.tmp 167) (.tmp 169) rfl wd.heap.size _ _ _ (j : Int) rfl HO.out (by simp [go_sem]) (by omega) zb hbl ?_; intro v' w' hown' hg' hbl')
                have HO' := Lib.hid hown'
                clear hown' hg'
                go_roundw
                case rel => exact ⟨j + 1, m + 1, by omega, by go_num, by omega, by rw [HST.out]; exact HO'.out, hbl'⟩
                case measure => simp [intOf] <;> omega
            · obtain rfl : j = k := by omega
              obtain ⟨A9, c9, rfl⟩ := own_shape hown
              have hm := hown.1
              rw [List.length_map, Nat.mul_one] at hm
              have hl1 := HL0.out
              rw [hm] at TO1 hl1
              have R9 := Lib.hid (Rd.of_own hown)
              have HG9 := Lib.hid (HGd.out.step hbl)
              have b9 := bd.trans (hbl.mono bd.size)
              have HL1 := Lib.hid hl1
              clear hown hm hl1
              go_wp2_with fail
              refine (TO1.out _ _ _ HG9.out R9.out).mono ?_
              rintro e w10 ⟨rfl, hb10⟩
              have HG10 := Lib.hid (HG9.out.step hb10)
              have b10 := b9.trans (hb10.mono b9.size)
              have T8L := Lib.hid (T8.out (some ⟨w10.heap.size, 0, none⟩) 1 (w10.alloc (.cells #[.int .i64 8] 3)) (HG10.out.step ((Below.refl _ _).alloc (Nat.le_refl _) _)) (Rd.of_own (own_of_blk (Blk.new w10 3 #[.int .i64 8]) (by simp) (by unfold maxLen; omega) (Nat.zero_le _) rfl)))
              have b11 := b10.alloc b10.size (.cells #[.int .i64 8] 3)
              clear hb10 HG9 R9 b9 hbl bd
              have hV1 : (V1 : Int) ≤ wh := by omega
              by_cases d1 : teeth < (V1 : Int)
              · clear HBE
                go_wp2_with fail
                refine T8L.out.mono ?_
                rintro e w12 ⟨rfl, hb12⟩
                go_wp2_with fail
                go_ret
                exact ⟨by simp, b11.trans (hb12.mono b11.size)⟩
              have hb := HBE.out (by omega)
              have hML := HML.out
              have hl1 := HL1.out
              by_cases d2 : m < ML
              · have d2i : (m : Int) < ML := by omega
                clear HBE hb hML hl1
                go_wp2_with fail
                refine T8L.out.mono ?_
                rintro e w12 ⟨rfl, hb12⟩
                go_wp2_with fail
                go_ret
                exact ⟨by simp, b11.trans (hb12.mono b11.size)⟩
              · have d3 : m = ML := by omega
                have d4 : (n0 : Int) ≤ V1 := by omega
                have d5 : n0 ≤ V1 := by omega
                subst d3
                clear HBE hb hML hl1
                go_wp2_with fail
                refine T8L.out.mono ?_
                rintro e w12 ⟨rfl, hb12⟩
                go_wp2_with fail
                go_ret
                exact ⟨by simp, b11.trans (hb12.mono b11.size)⟩

end Go.Proofs.Ytjcaamnojinnmaa
