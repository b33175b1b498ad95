/-
  The law FnSprings: what is wound up can be unwound, and the force never grows as it is used. Its walk: true for all bytes.
-/
import Derived.Test.YtcnnkdpfigckoaaDrawSpring
import Derived.Deep.DeepCutAuto
import Derived.Test.YtcnnkdpfigckoaaCls
namespace Go.Proofs.Ytcnnkdpfigckoaa
open Go.RowKit

/-- a call with one answer, at every world -/
def Gives (f : FuncId) (args : Array Value) (v : Value) : Prop := ∀ w : World, Calls Try.prog f args w fun e w' => e = .returned v ∧ Below w.heap.size w w'

def SprInv (W : World) (g1 g2 : Nat) (t a m f : Int) (w' : World) : Prop := Blk w' g1 25 #[.int .i64 t, .int .i64 m, .int .i64 f] ∧ Blk w' g2 25 #[.int .i64 (t + a), .int .i64 m, .int .i64 f] ∧ Below W.heap.size W w'
theorem SprInv.step {W : World} {g1 g2 : Nat} {t a m f : Int} (w w' : World) (h : SprInv W g1 g2 t a m f w) (hb : Below w.heap.size w w') : SprInv W g1 g2 t a m f w' :=
  ⟨h.1.below hb h.1.lt, h.2.1.below hb h.2.1.lt, h.2.2.trans (hb.mono h.2.2.size)⟩
theorem gives_cls {f : FuncId} {args : Array Value} {v : Value} {Inv : World → Prop} (hg : Gives f args v) (hs : ∀ w w', Inv w → Below w.heap.size w w' → Inv w') (p : Cls Inv) :
    Calls Try.prog f args p.w fun e w'' => e = .returned v ∧ ∃ q : Cls Inv, w'' = q.w := Calls.cls ((hg p.w).mono fun _ _ ⟨he, hb⟩ => ⟨he, hs _ _ p.h hb⟩)

set_option maxHeartbeats 8000000 in
set_option maxRecDepth 100000 in
theorem fnSprings_walk (W : World) (A : Option Addr) (n c : Nat) (bs : List Int) (r : Rd W W.heap.size 1 A n (bs.map (Value.int .u8))) (_l : bs.length = n) (_nc : n ≤ c) (_nm : n ≤ 9223372036854775807)
    (wb : ∀ x ∈ bs, (Lit.int .u8 x).wf = true) :
    Calls Try.prog 9 #[.slice A n c] W fun e w' => e = .returned (.bool true) ∧ Below W.heap.size W w' := by
  have hbs : ∀ x ∈ bs, 0 ≤ x ∧ x ≤ 255 := fun x hx => bounds_u8 (wb x hx)
  have R := Lib.hid r
  have HBS := Lib.hid hbs
  clear r hbs wb
  by_cases hn : n ≤ 1048576
  case neg =>
    have hb : decide (1048576 < n) = true := by simp; omega
    go_enter Try.func9, Try.ntmps9
    go_wp2_with (go_at_call 30; refine (big_any _ _ _ _).mono ?_; rintro e w' ⟨rfl, rfl⟩; rw [hb])
    go_ret
    exact ⟨rfl, Below.refl _ _⟩
  have hb : decide (1048576 < n) = false := by simp; omega
  have HB := Lib.hid hb
  clear hb
  go_enter Try.func9, Try.ntmps9
  go_wp2_with fail
  refine (big_any _ _ _ _).mono ?_
  rintro e w' ⟨rfl, rfl⟩
  rw [HB.out]
  go_wp2_with fail
  refine (DrawSpring_any _ _ _ _ _ R.out hn HBS.out).mono ?_
  rintro e w1 ⟨t, m, f, rfl, ⟨m0, m1, t0, t1, f0, f1⟩, hb1⟩
  go_wp2_with fail
  have hsz1 := hb1.size
  refine (at_any _ _ _ bs _ _ _ ((R.out.below hb1).alloc hsz1 _) HBS.out hn (by omega) (by omega)).mono ?_
  rintro e w' ⟨x, rfl, x0, x1, rfl⟩
  have s1 := Blk.new w1 25 #[.int .i64 t, .int .i64 m, .int .i64 f]
  -- the numbers
  have hs : sprB t m f = true := sprB_iff.2 (by omega)
  obtain ⟨N, hN⟩ : ∃ N, N = x % 30 := ⟨_, rfl⟩
  have n0 : 0 ≤ N := by omega
  have n1 : N ≤ 29 := by omega
  obtain ⟨a, ha⟩ : ∃ a, a = min N (m - t) := ⟨_, rfl⟩
  have a0 : 0 ≤ a := by omega
  have a1 : a ≤ N := by omega
  have a2 : t + a ≤ m := by omega
  have a3 : a = N ∨ t + a = m := by omega
  have CW : Gives 22 #[.agg #[.int .i64 t, .int .i64 m, .int .i64 f], .int .i64 N] (.tuple #[.agg #[.int .i64 (t + a), .int .i64 m, .int .i64 f], .int .i64 a]) := fun w => by
    have := iWind t m f N w
    rw [show WindT t m f N = (t + a, a) by unfold WindT; rw [if_pos ⟨hs, by omega, by omega⟩, ← ha]] at this
    exact this
  have hs2 : sprB (t + a) m f = true := sprB_iff.2 (by omega)
  have CU : Gives 25 #[.agg #[.int .i64 (t + a), .int .i64 m, .int .i64 f], .int .i64 a] (.tuple #[.agg #[.int .i64 t, .int .i64 m, .int .i64 f], .int .i64 a]) := fun w => by
    have := iUnwind (t + a) m f a w
    rw [show UnwindT (t + a) m f a = (t, a) by unfold UnwindT; rw [if_pos ⟨hs2, by omega, by omega⟩, show min a (t + a) = a by omega, show t + a - a = t by omega]] at this
    exact this
  obtain ⟨F, hF⟩ : ∃ F, F = frc t m f := ⟨_, rfl⟩
  obtain ⟨F2, hF2⟩ : ∃ F2, F2 = frc (t + a) m f := ⟨_, rfl⟩
  have F0 := frc_bd hs
  have F3 := frc_mono (t := t) (u := t + a) (m := m) (f := f) (by omega) (by omega) (by omega)
  rw [← hF] at F0 F3
  rw [← hF2] at F3
  have CF : Gives 20 #[.agg #[.int .i64 t, .int .i64 m, .int .i64 f]] (.int .i64 F) := fun w => by
    have := iForceNow t m f w
    rw [show ForceZ t m f = F by unfold ForceZ; rw [if_pos hs, hF]] at this
    exact this
  have CF2 : Gives 20 #[.agg #[.int .i64 (t + a), .int .i64 m, .int .i64 f]] (.int .i64 F2) := fun w => by
    have := iForceNow (t + a) m f w
    rw [show ForceZ (t + a) m f = F2 by unfold ForceZ; rw [if_pos hs2, hF2]] at this
    exact this
  have CO : Gives 18 #[.agg #[.int .i64 (t + a), .int .i64 m, .int .i64 f]] (.bool true) := fun w => by
    have := iSpringOk (t + a) m f w
    rw [hs2] at this
    exact this
  have HCW := Lib.hid CW
  have HCU := Lib.hid CU
  have HCF := Lib.hid CF
  have HCF2 := Lib.hid CF2
  have HCO := Lib.hid CO
  have HFF := Lib.hid hF
  have HS := Lib.hid hs
  clear CW CU CF CF2 CO hF hF2 hs hs2 ha
  have HNN := Lib.hid hN
  clear hN
  go_wp2_with fail
  rw [← HNN.out]
  refine (HCW.out _).mono ?_
  rintro e w2 ⟨rfl, hb2⟩
  have s2 := s1.below hb2 s1.lt
  obtain ⟨k0, k1, k2⟩ := s2.c3
  have l2 := s2.lt
  go_wp2_with fail
  refine (HCU.out _).mono ?_
  rintro e w3 ⟨rfl, hb3⟩
  have s3 := (s2.alloc _).below hb3 (by simp; omega)
  have v3 := (Blk.new w2 25 #[.int .i64 (t + a), .int .i64 m, .int .i64 f]).below hb3 (by simp)
  obtain ⟨k0, k1, k2⟩ := s3.c3
  obtain ⟨j0, j1, j2⟩ := v3.c3
  have l3 := s3.lt
  have m3 := v3.lt
  have b3 : Below W.heap.size W w3 := by
    have z2 := hb2.size
    have z3 := hb3.size
    simp at z2 z3
    have q1 : Below W.heap.size W w2 := (hb1.alloc hsz1 _).trans (hb2.mono (by simp; omega))
    exact (q1.alloc (by omega) _).trans (hb3.mono (by simp; omega))
  clear hb2
  go_wp2_with fail
  refine (HCF.out _).mono ?_
  rintro e w4 ⟨rfl, hb4⟩
  have s4 := (s3.alloc _).below hb4 (by simp; omega)
  have v4 := (v3.alloc _).below hb4 (by simp; omega)
  have u4 := (Blk.new w3 25 #[.int .i64 t, .int .i64 m, .int .i64 f]).below hb4 (by simp)
  have b4 : Below W.heap.size W w4 := by
    have z3 := b3.size
    exact (b3.alloc z3 _).trans (hb4.mono (by simp; omega))
  obtain ⟨k0, k1, k2⟩ := s4.c3
  obtain ⟨j0, j1, j2⟩ := v4.c3
  obtain ⟨i0, i1, i2⟩ := u4.c3
  have l4 := s4.lt
  clear s1 s2 s3 v3 hb3 hb4
  go_wp2_with fail
  refine (at_any _ _ _ bs _ _ _ (R.out.below b4) HBS.out hn (by omega) (by omega)).mono ?_
  rintro e w' ⟨y, rfl, y0, y1, rfl⟩
  have hs := HS.out
  obtain ⟨D, hD⟩ : ∃ D, D = y * 2 := ⟨_, rfl⟩
  have d0 : 0 ≤ D := by omega
  have d1 : D ≤ 510 := by omega
  obtain ⟨T, hT⟩ : ∃ T, T = twn m f D t.toNat := ⟨_, rfl⟩
  have T0 := twn_bd m f D t.toNat
  have Tst := twn_stop m f D t.toNat
  have Tfi := twn_first m f D t.toNat
  have Tz := twn_zero (m := m) (f := f) (by omega) (by omega) (by omega) (by omega) t.toNat (by omega)
  rw [show ((t.toNat : Nat) : Int) = t by omega] at T0 Tst Tfi Tz
  rw [← hT] at T0 Tst Tfi
  rw [← HFF.out] at Tfi
  have CT : Gives 27 #[.agg #[.int .i64 t, .int .i64 m, .int .i64 f], .int .i64 D] (.int .i64 T) := fun w => by
    have := iTurnsWith t m f D w
    rw [show TurnsWithZ t m f D = T by unfold TurnsWithZ; rw [if_pos ⟨hs, by omega, by omega⟩, hT]] at this
    exact this
  have CT0 : Gives 27 #[.agg #[.int .i64 t, .int .i64 m, .int .i64 f], .int .i64 0] (.int .i64 t) := fun w => by
    have := iTurnsWith t m f 0 w
    rw [show TurnsWithZ t m f 0 = t by unfold TurnsWithZ; rw [if_pos ⟨hs, by omega, by omega⟩, Tz]] at this
    exact this
  have CX : Gives 24 #[.agg #[.int .i64 t, .int .i64 m, .int .i64 f], .int .i64 T] (.tuple #[.agg #[.int .i64 (t - T), .int .i64 m, .int .i64 f], .int .i64 T]) := fun w => by
    have := sUnwind t m f T w
    rw [show UnwindT t m f T = (t - T, T) by unfold UnwindT; rw [if_pos ⟨hs, by omega, by omega⟩, show min T t = T by omega]] at this
    exact this
  obtain ⟨F4, hF4⟩ : ∃ F4, F4 = frc (t - T) m f := ⟨_, rfl⟩
  rw [← hF4] at Tst
  have CF4 : Gives 20 #[.agg #[.int .i64 (t - T), .int .i64 m, .int .i64 f]] (.int .i64 F4) := fun w => by
    have := iForceNow (t - T) m f w
    rw [show ForceZ (t - T) m f = F4 by unfold ForceZ; rw [if_pos (sprB_iff.2 (by omega)), hF4]] at this
    exact this
  have CWK : Gives 29 #[.agg #[.int .i64 t, .int .i64 m, .int .i64 f]] (.int .i64 (wrk m f t.toNat)) := fun w => by
    have := iWorkIn t m f w
    rw [show WorkZ t m f = wrk m f t.toNat by unfold WorkZ; rw [if_pos hs]] at this
    exact this
  have HCT := Lib.hid CT
  have HCT0 := Lib.hid CT0
  have HCX := Lib.hid CX
  have HCF4 := Lib.hid CF4
  have HCWK := Lib.hid CWK
  have HTS := Lib.hid Tst
  have HTF := Lib.hid Tfi
  clear CT CT0 CX CF4 CWK Tst Tfi Tz hT hF4 hs
  have HDD := Lib.hid hD
  clear hD
  go_wp2_with fail
  rw [← HDD.out]
  refine (HCT.out _).mono ?_
  rintro e w5 ⟨rfl, hb5⟩
  have s5 := s4.below hb5 s4.lt
  have v5 := v4.below hb5 v4.lt
  have u5 := u4.below hb5 u4.lt
  have b5 : Below W.heap.size W w5 := b4.trans (hb5.mono b4.size)
  obtain ⟨k0, k1, k2⟩ := s5.c3
  obtain ⟨j0, j1, j2⟩ := v5.c3
  obtain ⟨i0, i1, i2⟩ := u5.c3
  clear s4 v4 u4 hb5
  go_wp2_with fail
  refine (HCF2.out _).mono ?_
  rintro e w6 ⟨rfl, hb6⟩
  have s6 := s5.below hb6 s5.lt
  have v6 := v5.below hb6 v5.lt
  have b6 : Below W.heap.size W w6 := b5.trans (hb6.mono b5.size)
  obtain ⟨k0, k1, k2⟩ := s6.c3
  obtain ⟨j0, j1, j2⟩ := v6.c3
  clear s5 v5 u5 hb6
  go_wp2_with fail
  refine (HCO.out _).mono ?_
  rintro e w7 ⟨rfl, hb7⟩
  have s7 := s6.below hb7 s6.lt
  have v7 := v6.below hb7 v6.lt
  have b7 : Below W.heap.size W w7 := b6.trans (hb7.mono b6.size)
  obtain ⟨k0, k1, k2⟩ := s7.c3
  obtain ⟨j0, j1, j2⟩ := v7.c3
  clear s6 v6 hb7
  go_wp2_with fail
  refine (HCX.out _).mono ?_
  rintro e w8 ⟨rfl, hb8⟩
  have s8 := s7.below hb8 s7.lt
  have v8 := v7.below hb8 v7.lt
  have b8 : Below W.heap.size W w8 := b7.trans (hb8.mono b7.size)
  obtain ⟨k0, k1, k2⟩ := s8.c3
  obtain ⟨j0, j1, j2⟩ := v8.c3
  have l8 := s8.lt
  have m8 := v8.lt
  clear s7 v7 hb8
  have tst := HTS.out
  have tfi := HTF.out
  have X8 := Lib.hid (Blk.new w8 25 #[.int .i64 (t - T), .int .i64 m, .int .i64 f])
  have S8 := Lib.hid s8
  have V8 := Lib.hid v8
  have B8 := Lib.hid b8
  go_upto_region 13 with fail
  go_cut [124] (fun q wx => q = .bool false ∧ Blk wx w1.heap.size 25 #[.int .i64 t, .int .i64 m, .int .i64 f] ∧ Blk wx w2.heap.size 25 #[.int .i64 (t + a), .int .i64 m, .int .i64 f] ∧ Below W.heap.size W wx)
  case first =>
    by_cases hTt : T < t
    case pos =>
      have t4 := tst hTt
      have t4b : decide (D ≤ F4) = false := by simp; omega
      clear tst
      go_wp2_with fail
      refine (HCF4.out _).mono ?_
      rintro e w9 ⟨rfl, hb9⟩
      have s9 := (S8.out.alloc _).below hb9 (by simp; omega)
      have v9 := (V8.out.alloc _).below hb9 (by simp; omega)
      have b9 : Below W.heap.size W w9 := (B8.out.alloc B8.out.size _).trans (hb9.mono (by have := B8.out.size; simp; omega))
      by_cases hp : 0 < T
      case pos =>
        have t5 := tfi hp
        have t5b : decide (F < D) = false := by simp; omega
        clear tfi
        go_wp2_with fail
        go_meet
        exact ⟨rfl, s9, v9, b9⟩
      case neg =>
        clear tfi
        go_wp2_with fail
        go_meet
        exact ⟨rfl, s9, v9, b9⟩
    case neg =>
      clear tst
      by_cases hp : 0 < T
      case pos =>
        have t5 := tfi hp
        have t5b : decide (F < D) = false := by simp; omega
        clear tfi
        go_wp2_with fail
        go_meet
        exact ⟨rfl, S8.out.alloc _, V8.out.alloc _, B8.out.alloc B8.out.size _⟩
      case neg =>
        clear tfi
        go_wp2_with fail
        go_meet
        exact ⟨rfl, S8.out.alloc _, V8.out.alloc _, B8.out.alloc B8.out.size _⟩
  case rest =>
    obtain ⟨rfl, s9, v9, b9⟩ := hcut
    clear s8 v8 b8 l8 m8 k0 k1 k2 j0 j1 j2 i0 i1 i2 tst tfi S8 V8 B8 X8
    obtain ⟨w9, rfl⟩ : ∃ w9 : World, w9 = wc := ⟨_, rfl⟩
    obtain ⟨k0, k1, k2⟩ := s9.c3
    have l9 := s9.lt
    have m9 := v9.lt
    go_wp2_with fail
    go_loopg [14] t.toNat (fun k wk wr => k ≤ t.toNat ∧ Blk wr w9.heap.size 25 #[.int .i64 k, .int .i64 m, .int .i64 f] ∧ Blk wr w1.heap.size 25 #[.int .i64 t, .int .i64 m, .int .i64 f] ∧ Blk wr w2.heap.size 25 #[.int .i64 (t + a), .int .i64 m, .int .i64 f] ∧ Below W.heap.size W wr ∧ wk = .int .i64 (wrk m f t.toNat - wrk m f k))
    case atStart =>
      refine ⟨Nat.le_refl _, ?_, s9.alloc _, v9.alloc _, b9.alloc b9.size _, by simp⟩
      rw [show ((t.toNat : Nat) : Int) = t by omega]
      exact Blk.new _ _ _
    case round =>
      obtain ⟨hk, hy, hsr, hvr, hbr, rfl⟩ := hrel
      have c0 := hy.cell 0
      have c1 := hy.cell 1
      have c2 := hy.cell 2
      simp at c0 c1 c2
      have b2 := wrk_bd (m := m) (f := f) (by omega) (by omega) (by omega) (by omega) gk (by omega)
      have b1 := wrk_bd (m := m) (f := f) (by omega) (by omega) (by omega) (by omega) t.toNat (by omega)
      rcases Nat.eq_zero_or_pos gk with h0 | h0
      · subst h0
        obtain ⟨k0, k1, k2⟩ := hsr.c3
        obtain ⟨j0, j1, j2⟩ := hvr.c3
        clear hy b1 b2
        have hz0 : wrk m f 0 = 0 := rfl
        rw [hz0, Int.sub_zero]
        clear hz0
        go_wp2_with fail
        have bd := hbr.drew
        have sd : Blk wr.drew w1.heap.size 25 #[.int .i64 t, .int .i64 m, .int .i64 f] := hsr
        have vd : Blk wr.drew w2.heap.size 25 #[.int .i64 (t + a), .int .i64 m, .int .i64 f] := hvr
        clear s9 v9 hsr hvr hbr b9 c0 c1 c2 l9 m9
        by_cases haN : a = N
        case pos =>
          have hd : (a == N) = true := by simp [haN]
          have HAN := Lib.hid haN
          clear haN
          refine wp_region_cls (Inv := SprInv W w1.heap.size w2.heap.size t a m f) (by kernel_rfl) (by kernel_rfl) ⟨sd, vd, bd⟩ ?_
          haveI : Nonempty (Cls (SprInv W w1.heap.size w2.heap.size t a m f)) := ⟨⟨_, sd, vd, bd⟩⟩
          have k0 := fun p : Cls (SprInv W w1.heap.size w2.heap.size t a m f) => p.h.1.c3.1
          have k1 := fun p : Cls (SprInv W w1.heap.size w2.heap.size t a m f) => p.h.1.c3.2.1
          have k2 := fun p : Cls (SprInv W w1.heap.size w2.heap.size t a m f) => p.h.1.c3.2.2
          have j0 := fun p : Cls (SprInv W w1.heap.size w2.heap.size t a m f) => p.h.2.1.c3.1
          repeat (first | go_big_quiet_step ((first | (go_at_call 29; exact gives_cls HCWK.out SprInv.step _) | (go_at_call 27; exact gives_cls HCT0.out SprInv.step _))))
          refine wpQuiet_nil ?_
          rintro _ ⟨p, rfl⟩
          go_wp2
          go_ret
          exact ⟨rfl, p.h.2.2⟩
        case neg =>
          have hd : (a == N) = false := by simp; omega
          have hq : (t + a == m) = true := by simp; omega
          clear haN
          refine wp_region_cls (Inv := SprInv W w1.heap.size w2.heap.size t a m f) (by kernel_rfl) (by kernel_rfl) ⟨sd, vd, bd⟩ ?_
          haveI : Nonempty (Cls (SprInv W w1.heap.size w2.heap.size t a m f)) := ⟨⟨_, sd, vd, bd⟩⟩
          have k0 := fun p : Cls (SprInv W w1.heap.size w2.heap.size t a m f) => p.h.1.c3.1
          have k1 := fun p : Cls (SprInv W w1.heap.size w2.heap.size t a m f) => p.h.1.c3.2.1
          have k2 := fun p : Cls (SprInv W w1.heap.size w2.heap.size t a m f) => p.h.1.c3.2.2
          have j0 := fun p : Cls (SprInv W w1.heap.size w2.heap.size t a m f) => p.h.2.1.c3.1
          repeat (first | go_big_quiet_step ((first | (go_at_call 29; exact gives_cls HCWK.out SprInv.step _) | (go_at_call 27; exact gives_cls HCT0.out SprInv.step _))))
          refine wpQuiet_nil ?_
          rintro _ ⟨p, rfl⟩
          go_wp2
          go_ret
          exact ⟨rfl, p.h.2.2⟩
      · obtain ⟨k, rfl⟩ : ∃ k, gk = k + 1 := ⟨gk - 1, by omega⟩
        have hsp : sprB ((k : Int) + 1) m f = true := sprB_iff.2 (by omega)
        have hz : ForceZ ((k : Int) + 1) m f = frc ((k : Int) + 1) m f := by simp only [ForceZ, hsp, if_true]
        have hu : UnwindT ((k : Int) + 1) m f 1 = ((k : Int), 1) := by unfold UnwindT; rw [if_pos ⟨hsp, by omega, by omega⟩, show min 1 ((k : Int) + 1) = 1 by omega, show (k : Int) + 1 - 1 = k by omega]
        have HZ := Lib.hid hz
        have HU := Lib.hid hu
        clear hz hu
        have b3 := wrk_bd (m := m) (f := f) (by omega) (by omega) (by omega) (by omega) k (by omega)
        have b4 := frc_bd hsp
        have et : wrk m f (k + 1) = frc ((k : Int) + 1) m f + wrk m f k := by rw [wrk]; simp
        have ET := Lib.hid et
        clear et
        have hyl := hy.lt
        go_wp2_with fail
        refine (iForceNow _ _ _ _).mono ?_
        rintro e wa ⟨rfl, hba⟩
        rw [HZ.out]
        have ya := hy.below hba hyl
        have c0 := ya.cell 0
        have c1 := ya.cell 1
        have c2 := ya.cell 2
        simp at c0 c1 c2
        go_wp2_with fail
        refine (sUnwind _ _ _ _ _).mono ?_
        rintro e wc2 ⟨rfl, hbc⟩
        rw [HU.out]
        have yc := ya.below hbc ya.lt
        have sc := (hsr.below hba hsr.lt).below hbc (hsr.below hba hsr.lt).lt
        have vc := (hvr.below hba hvr.lt).below hbc (hvr.below hba hvr.lt).lt
        have bc : Below W.heap.size W wc2 := (hbr.trans (hba.mono hbr.size)).trans (hbc.mono (by have := hbr.size; have := hba.size; omega))
        have c0 := yc.cell 0
        have c1 := yc.cell 1
        have c2 := yc.cell 2
        simp at c0 c1 c2
        have f0 := yc.frozen 0
        have f1 := yc.frozen 1
        have f2 := yc.frozen 2
        go_wp2_with fail
        go_roundg k
        case measure => omega
        case rel =>
          have z9 := b9.size
          have n1 : w1.heap.size ≠ w9.heap.size := by omega
          have n2 : w2.heap.size ≠ w9.heap.size := by omega
          refine ⟨by omega, ?_, ((sc.far n1 _).far n1 _).far n1 _, ((vc.far n2 _).far n2 _).far n2 _, ((bc.setCell z9 _).setCell z9 _).setCell z9 _, by rw [ET.out]; congr 1; omega⟩
          have := ((yc.set_ 0 (.int .i64 k)).set_ 1 (.int .i64 m)).set_ 2 (.int .i64 f)
          simpa using this
end Go.Proofs.Ytcnnkdpfigckoaa
