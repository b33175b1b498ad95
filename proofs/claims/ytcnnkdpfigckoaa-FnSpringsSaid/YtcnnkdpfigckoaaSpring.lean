/-
  The walks of the springs: what each function of impl and of spec returns, for all arguments. They make new blocks alone.
-/
import Derived.Test.YtcnnkdpfigckoaaWithin
import Derived.Test.YtcnnkdpfigckoaaSpringMath
namespace Go.Proofs.Ytcnnkdpfigckoaa
open Go.RowKit




theorem iSpringOkE (t m f : Int) (w : World) :
    Calls Try.prog 18 #[.agg #[.int .i64 t, .int .i64 m, .int .i64 f]] w fun e w' => e = .returned (.bool (sprB t m f)) ∧ w.alloc (.cells #[.int .i64 t, .int .i64 m, .int .i64 f] 25) = w' := by
  have e : sprB t m f = (inB m 1 50 && inB t 0 m && inB f 1 10000) := by
    rw [Bool.eq_iff_iff, sprB_iff]; simp [inB]; omega
  rw [e]
  go_enter Try.func18, Try.ntmps18
  cases h1 : inB m 1 50 <;> cases h2 : inB t 0 m <;> cases h3 : inB f 1 10000
  all_goals
    go_wp2_with (go_at_call 46; refine (within_any _ _ _ _).mono ?_; rintro e w' ⟨rfl, rfl⟩)
    go_ret
    exact ⟨rfl, rfl⟩
theorem iSpringOk (t m f : Int) (w : World) :
    Calls Try.prog 18 #[.agg #[.int .i64 t, .int .i64 m, .int .i64 f]] w fun e w' => e = .returned (.bool (sprB t m f)) ∧ Below w.heap.size w w' :=
  (iSpringOkE t m f w).mono fun _ _ ⟨he, hw⟩ => ⟨he, by rw [← hw]; exact (Below.refl _ _).alloc (Nat.le_refl _) _⟩

theorem iForceNow (t m f : Int) (w : World) :
    Calls Try.prog 20 #[.agg #[.int .i64 t, .int .i64 m, .int .i64 f]] w fun e w' => e = .returned (.int .i64 (ForceZ t m f)) ∧ Below w.heap.size w w' := by
  cases h : sprB t m f
  · have e : ForceZ t m f = -1 := by simp [ForceZ, h]
    rw [e]
    go_enter Try.func20, Try.ntmps20
    go_wp2_with (go_at_call 18; refine (iSpringOk _ _ _ _).mono ?_; rintro e w' ⟨rfl, hb⟩; rw [h])
    go_ret
    exact ⟨rfl, by (repeat (first | exact Below.refl _ _ | assumption | refine Below.alloc ?_ (by first | omega | (simp <;> omega)) _ | refine Below.setCell ?_ (by first | omega | (simp <;> omega)) _ | refine Below.drew ?_ | refine Below.trans ?_ (Below.mono (by assumption) (by first | omega | (simp <;> omega)))))⟩
  · have e : ForceZ t m f = frc t m f := by simp [ForceZ, h]
    rw [e]
    have hs := sprB_iff.1 h
    have hf := ft_bd h
    go_enter Try.func20, Try.ntmps20
    go_wp2_with (go_at_call 18; refine (iSpringOk _ _ _ _).mono ?_; rintro e w' ⟨rfl, hb⟩; rw [h]; have hc := (bcell hb).1)
    go_ret
    exact ⟨rfl, by (repeat (first | exact Below.refl _ _ | assumption | refine Below.alloc ?_ (by first | omega | (simp <;> omega)) _ | refine Below.setCell ?_ (by first | omega | (simp <;> omega)) _ | refine Below.drew ?_ | refine Below.trans ?_ (Below.mono (by assumption) (by first | omega | (simp <;> omega)))))⟩

theorem iTurnsWith (t m f need : Int) (w : World) :
    Calls Try.prog 27 #[.agg #[.int .i64 t, .int .i64 m, .int .i64 f], .int .i64 need] w fun e w' => e = .returned (.int .i64 (TurnsWithZ t m f need)) ∧ Below w.heap.size w w' := by
  cases h : sprB t m f
  · have e : TurnsWithZ t m f need = -1 := by simp [TurnsWithZ, h]
    rw [e]
    go_enter Try.func27, Try.ntmps27
    go_wp2_with (go_at_call 18; refine (iSpringOk _ _ _ _).mono ?_; rintro e w' ⟨rfl, hb⟩; rw [h])
    go_ret
    exact ⟨rfl, by (repeat (first | exact Below.refl _ _ | assumption | refine Below.alloc ?_ (by first | omega | (simp <;> omega)) _ | refine Below.setCell ?_ (by first | omega | (simp <;> omega)) _ | refine Below.drew ?_ | refine Below.trans ?_ (Below.mono (by assumption) (by first | omega | (simp <;> omega)))))⟩
  cases hn : inB need 0 10000
  · have e : TurnsWithZ t m f need = -1 := by
      have := inB_not hn
      unfold TurnsWithZ; rw [if_neg (by rw [h]; simp; omega)]
    rw [e]
    go_enter Try.func27, Try.ntmps27
    go_wp2_with (first | (go_at_call 18; refine (iSpringOk _ _ _ _).mono ?_; rintro e w' ⟨rfl, hb⟩; rw [h]; have hc := (bcell hb).1) | (go_at_call 46; refine (within_any _ _ _ _).mono ?_; rintro e w' ⟨rfl, rfl⟩))
    go_ret
    exact ⟨rfl, by (repeat (first | exact Below.refl _ _ | assumption | refine Below.alloc ?_ (by first | omega | (simp <;> omega)) _ | refine Below.setCell ?_ (by first | omega | (simp <;> omega)) _ | refine Below.drew ?_ | refine Below.trans ?_ (Below.mono (by assumption) (by first | omega | (simp <;> omega)))))⟩
  have hN := inB_iff.1 hn
  have hs := sprB_iff.1 h
  have e : TurnsWithZ t m f need = twn m f need t.toNat := by unfold TurnsWithZ; rw [if_pos ⟨h, hN.1, hN.2⟩]
  rw [e]
  clear e
  obtain ⟨T, rfl⟩ := Int.eq_ofNat_of_zero_le hs.2.2.1
  rw [Int.toNat_natCast]
  go_enter Try.func27, Try.ntmps27
  go_wp2_with (first | (go_at_call 18; refine (iSpringOk _ _ _ _).mono ?_; rintro e w' ⟨rfl, hb⟩; rw [h]; have hc := (bcell hb).1; have hblk := (Blk.new w 25 #[.int .i64 T, .int .i64 m, .int .i64 f]).below hb (by simp)) | (go_at_call 46; refine (within_any _ _ _ _).mono ?_; rintro e w' ⟨rfl, rfl⟩))
  have hbel : Below w.heap.size w w' := by (repeat (first | exact Below.refl _ _ | assumption | refine Below.alloc ?_ (by first | omega | (simp <;> omega)) _ | refine Below.setCell ?_ (by first | omega | (simp <;> omega)) _ | refine Below.drew ?_ | refine Below.trans ?_ (Below.mono (by assumption) (by first | omega | (simp <;> omega)))))
  have H := Lib.hid hblk
  clear hc hb hblk
  go_loopg [5] T (fun k n wr => k ≤ T ∧ Blk wr w.heap.size 25 #[.int .i64 k, .int .i64 m, .int .i64 f] ∧ Below w.heap.size w wr ∧ n = .int .i64 (twn m f need T - twn m f need k))
  case atStart => exact ⟨Nat.le_refl _, H.out, hbel, by simp⟩
  case round =>
    obtain ⟨hk, hB, hbl, rfl⟩ := hrel
    have c0 := hB.cell 0
    have c1 := hB.cell 1
    have c2 := hB.cell 2
    have z0 := hB.lt
    have HB := Lib.hid hB
    clear hB
    have b1 := twn_bd m f need T
    have b2 := twn_bd m f need gk
    simp at c0 c1 c2
    rcases Nat.eq_zero_or_pos gk with h0 | h0
    · subst h0
      go_wp2
      go_ret
      exact ⟨by simp [twn], by (repeat (first | exact Below.refl _ _ | assumption | refine Below.alloc ?_ (by first | omega | (simp <;> omega)) _ | refine Below.setCell ?_ (by first | omega | (simp <;> omega)) _ | refine Below.drew ?_ | refine Below.trans ?_ (Below.mono (by assumption) (by first | omega | (simp <;> omega)))))⟩
    · obtain ⟨k, rfl⟩ : ∃ k, gk = k + 1 := ⟨gk - 1, by omega⟩
      have hsp : sprB ((k : Int) + 1) m f = true := sprB_iff.2 (by omega)
      have hz : ForceZ ((k : Int) + 1) m f = frc ((k : Int) + 1) m f := by simp only [ForceZ, hsp, if_true]
      have HZ := Lib.hid hz
      clear hz
      have b3 := twn_bd m f need k
      by_cases hc : need ≤ frc ((k : Int) + 1) m f
      · have et : twn m f need (k + 1) = 1 + twn m f need k := by rw [twn, if_pos (by simpa using hc)]
        have ET := Lib.hid et
        clear et
        go_wp2_with (go_at_call 20; refine (iForceNow _ _ _ _).mono ?_; rintro e w1 ⟨rfl, hb⟩; rw [HZ.out]; have hcc := (bcell hb).1; have hff := (bcell hb).2; have f0 := HB.out.frozen 0; have hzz := hb.size)
        go_roundg k
        case measure => omega
        case rel =>
          refine ⟨by omega, ?_, by (repeat (first | exact Below.refl _ _ | assumption | refine Below.alloc ?_ (by first | omega | (simp <;> omega)) _ | refine Below.setCell ?_ (by first | omega | (simp <;> omega)) _ | refine Below.drew ?_ | refine Below.trans ?_ (Below.mono (by assumption) (by first | omega | (simp <;> omega))))), by rw [ET.out]; congr 1; omega⟩
          have := (HB.out.below hb z0).set_ 0 (.int .i64 k)
          simpa using this
      · have et : twn m f need (k + 1) = 0 := by rw [twn, if_neg (by simpa using hc)]
        have ET := Lib.hid et
        clear et
        go_wp2_with (go_at_call 20; refine (iForceNow _ _ _ _).mono ?_; rintro e w1 ⟨rfl, hb⟩; rw [HZ.out]; have hcc := (bcell hb).1; have hff := (bcell hb).2; have f0 := HB.out.frozen 0; have hzz := hb.size)
        go_ret
        exact ⟨by rw [ET.out]; simp, by (repeat (first | exact Below.refl _ _ | assumption | refine Below.alloc ?_ (by first | omega | (simp <;> omega)) _ | refine Below.setCell ?_ (by first | omega | (simp <;> omega)) _ | refine Below.drew ?_ | refine Below.trans ?_ (Below.mono (by assumption) (by first | omega | (simp <;> omega)))))⟩

theorem iWorkIn (t m f : Int) (w : World) :
    Calls Try.prog 29 #[.agg #[.int .i64 t, .int .i64 m, .int .i64 f]] w fun e w' => e = .returned (.int .i64 (WorkZ t m f)) ∧ Below w.heap.size w w' := by
  cases h : sprB t m f
  · have e : WorkZ t m f = -1 := by simp [WorkZ, h]
    rw [e]
    go_enter Try.func29, Try.ntmps29
    go_wp2_with (go_at_call 18; refine (iSpringOk _ _ _ _).mono ?_; rintro e w' ⟨rfl, hb⟩; rw [h])
    go_ret
    exact ⟨rfl, by (repeat (first | exact Below.refl _ _ | assumption | refine Below.alloc ?_ (by first | omega | (simp <;> omega)) _ | refine Below.setCell ?_ (by first | omega | (simp <;> omega)) _ | refine Below.drew ?_ | refine Below.trans ?_ (Below.mono (by assumption) (by first | omega | (simp <;> omega)))))⟩
  have hs := sprB_iff.1 h
  have e : WorkZ t m f = wrk m f t.toNat := by unfold WorkZ; rw [if_pos h]
  rw [e]
  clear e
  obtain ⟨T, rfl⟩ := Int.eq_ofNat_of_zero_le hs.2.2.1
  rw [Int.toNat_natCast]
  go_enter Try.func29, Try.ntmps29
  go_wp2_with (go_at_call 18; refine (iSpringOk _ _ _ _).mono ?_; rintro e w' ⟨rfl, hb⟩; rw [h]; have hc := (bcell hb).1; have hblk := (Blk.new w 25 #[.int .i64 T, .int .i64 m, .int .i64 f]).below hb (by simp))
  have hbel : Below w.heap.size w w' := by (repeat (first | exact Below.refl _ _ | assumption | refine Below.alloc ?_ (by first | omega | (simp <;> omega)) _ | refine Below.setCell ?_ (by first | omega | (simp <;> omega)) _ | refine Below.drew ?_ | refine Below.trans ?_ (Below.mono (by assumption) (by first | omega | (simp <;> omega)))))
  have H := Lib.hid hblk
  clear hc hb hblk
  have b1 := wrk_bd hs.1 hs.2.1 hs.2.2.2.2.1 hs.2.2.2.2.2 T hs.2.2.2.1
  go_loopg [3] T (fun k n wr => k ≤ T ∧ Blk wr w.heap.size 25 #[.int .i64 k, .int .i64 m, .int .i64 f] ∧ Below w.heap.size w wr ∧ n = .int .i64 (wrk m f T - wrk m f k))
  case atStart => exact ⟨Nat.le_refl _, H.out, hbel, by simp⟩
  case round =>
    obtain ⟨hk, hB, hbl, rfl⟩ := hrel
    have c0 := hB.cell 0
    have c1 := hB.cell 1
    have c2 := hB.cell 2
    have z0 := hB.lt
    have HB := Lib.hid hB
    clear hB
    have b2 := wrk_bd hs.1 hs.2.1 hs.2.2.2.2.1 hs.2.2.2.2.2 gk (by omega)
    simp at c0 c1 c2
    rcases Nat.eq_zero_or_pos gk with h0 | h0
    · subst h0
      go_wp2
      go_ret
      exact ⟨by simp [wrk], by (repeat (first | exact Below.refl _ _ | assumption | refine Below.alloc ?_ (by first | omega | (simp <;> omega)) _ | refine Below.setCell ?_ (by first | omega | (simp <;> omega)) _ | refine Below.drew ?_ | refine Below.trans ?_ (Below.mono (by assumption) (by first | omega | (simp <;> omega)))))⟩
    · obtain ⟨k, rfl⟩ : ∃ k, gk = k + 1 := ⟨gk - 1, by omega⟩
      have hsp : sprB ((k : Int) + 1) m f = true := sprB_iff.2 (by omega)
      have hz : ForceZ ((k : Int) + 1) m f = frc ((k : Int) + 1) m f := by simp only [ForceZ, hsp, if_true]
      have HZ := Lib.hid hz
      clear hz
      have b3 := wrk_bd hs.1 hs.2.1 hs.2.2.2.2.1 hs.2.2.2.2.2 k (by omega)
      have b4 := frc_bd hsp
      have et : wrk m f (k + 1) = frc ((k : Int) + 1) m f + wrk m f k := by rw [wrk]; simp
      have ET := Lib.hid et
      clear et
      go_wp2_with (go_at_call 20; refine (iForceNow _ _ _ _).mono ?_; rintro e w1 ⟨rfl, hb⟩; rw [HZ.out]; have hcc := (bcell hb).1; have hff := (bcell hb).2; have f0 := HB.out.frozen 0; have hzz := hb.size)
      go_roundg k
      case measure => omega
      case rel =>
        refine ⟨by omega, ?_, by (repeat (first | exact Below.refl _ _ | assumption | refine Below.alloc ?_ (by first | omega | (simp <;> omega)) _ | refine Below.setCell ?_ (by first | omega | (simp <;> omega)) _ | refine Below.drew ?_ | refine Below.trans ?_ (Below.mono (by assumption) (by first | omega | (simp <;> omega))))), by rw [ET.out]; congr 1; omega⟩
        have := (HB.out.below hb z0).set_ 0 (.int .i64 k)
        simpa using this

theorem iWind (t m f k : Int) (w : World) :
    Calls Try.prog 22 #[.agg #[.int .i64 t, .int .i64 m, .int .i64 f], .int .i64 k] w fun e w' => e = .returned (.tuple #[.agg #[.int .i64 (WindT t m f k).1, .int .i64 m, .int .i64 f], .int .i64 (WindT t m f k).2]) ∧ Below w.heap.size w w' := by
  cases h : sprB t m f
  · have e : WindT t m f k = (t, -1) := by simp [WindT, h]
    rw [e]
    go_enter Try.func22, Try.ntmps22
    go_wp2_with (go_at_call 18; refine (iSpringOkE _ _ _ _).mono ?_; rintro e w' ⟨rfl, rfl⟩; rw [h])
    refine bodyPost_ret (v := .tuple #[.agg #[.int .i64 t, .int .i64 m, .int .i64 f], .int .i64 (-1)]) (by simp [results, Try.results22, go_sem]) rfl ⟨rfl, ?_⟩
    (repeat (first | exact Below.refl _ _ | assumption | refine Below.alloc ?_ (by first | omega | (simp <;> omega)) _ | refine Below.setCell ?_ (by first | omega | (simp <;> omega)) _ | refine Below.drew ?_ | refine Below.trans ?_ (Below.mono (by assumption) (by first | omega | (simp <;> omega)))))
  have hs := sprB_iff.1 h
  cases hk : inB k 0 100
  · have hK := inB_not hk
    have e : WindT t m f k = (t, -1) := by unfold WindT; rw [if_neg (by omega)]
    rw [e]
    go_enter Try.func22, Try.ntmps22
    go_wp2_with (first | (go_at_call 18; refine (iSpringOkE _ _ _ _).mono ?_; rintro e w' ⟨rfl, rfl⟩; rw [h]) | (go_at_call 46; refine (within_any _ _ _ _).mono ?_; rintro e w1 ⟨rfl, rfl⟩; rw [hk]))
    refine bodyPost_ret (v := .tuple #[.agg #[.int .i64 t, .int .i64 m, .int .i64 f], .int .i64 (-1)]) (by simp [results, Try.results22, go_sem]) rfl ⟨rfl, ?_⟩
    (repeat (first | exact Below.refl _ _ | assumption | refine Below.alloc ?_ (by first | omega | (simp <;> omega)) _ | refine Below.setCell ?_ (by first | omega | (simp <;> omega)) _ | refine Below.drew ?_ | refine Below.trans ?_ (Below.mono (by assumption) (by first | omega | (simp <;> omega)))))
  have hK := inB_iff.1 hk
  have e : WindT t m f k = (t + min k (m - t), min k (m - t)) := by unfold WindT; rw [if_pos ⟨h, hK.1, hK.2⟩]
  rw [e]
  clear e
  go_enter Try.func22, Try.ntmps22
  go_wp2_with (first | (go_at_call 18; refine (iSpringOkE _ _ _ _).mono ?_; rintro e w' ⟨rfl, rfl⟩; rw [h]) | (go_at_call 46; refine (within_any _ _ _ _).mono ?_; rintro e w1 ⟨rfl, rfl⟩; rw [hk]))
  · rw [show min k (m - t) = m - t by omega]
    refine bodyPost_ret (v := .tuple #[.agg #[.int .i64 (t + (m - t)), .int .i64 m, .int .i64 f], .int .i64 (m - t)]) (by simp [results, Try.results22, go_sem]) rfl ⟨rfl, ?_⟩
    (repeat (first | exact Below.refl _ _ | assumption | refine Below.alloc ?_ (by first | omega | (simp <;> omega)) _ | refine Below.setCell ?_ (by first | omega | (simp <;> omega)) _ | refine Below.drew ?_ | refine Below.trans ?_ (Below.mono (by assumption) (by first | omega | (simp <;> omega)))))
  · rw [show min k (m - t) = k by omega]
    refine bodyPost_ret (v := .tuple #[.agg #[.int .i64 (t + k), .int .i64 m, .int .i64 f], .int .i64 k]) (by simp [results, Try.results22, go_sem]) rfl ⟨rfl, ?_⟩
    (repeat (first | exact Below.refl _ _ | assumption | refine Below.alloc ?_ (by first | omega | (simp <;> omega)) _ | refine Below.setCell ?_ (by first | omega | (simp <;> omega)) _ | refine Below.drew ?_ | refine Below.trans ?_ (Below.mono (by assumption) (by first | omega | (simp <;> omega)))))

theorem iUnwind (t m f k : Int) (w : World) :
    Calls Try.prog 25 #[.agg #[.int .i64 t, .int .i64 m, .int .i64 f], .int .i64 k] w fun e w' => e = .returned (.tuple #[.agg #[.int .i64 (UnwindT t m f k).1, .int .i64 m, .int .i64 f], .int .i64 (UnwindT t m f k).2]) ∧ Below w.heap.size w w' := by
  cases h : sprB t m f
  · have e : UnwindT t m f k = (t, -1) := by simp [UnwindT, h]
    rw [e]
    go_enter Try.func25, Try.ntmps25
    go_wp2_with (go_at_call 18; refine (iSpringOkE _ _ _ _).mono ?_; rintro e w' ⟨rfl, rfl⟩; rw [h])
    refine bodyPost_ret (v := .tuple #[.agg #[.int .i64 t, .int .i64 m, .int .i64 f], .int .i64 (-1)]) (by simp [results, Try.results25, go_sem]) rfl ⟨rfl, ?_⟩
    (repeat (first | exact Below.refl _ _ | assumption | refine Below.alloc ?_ (by first | omega | (simp <;> omega)) _ | refine Below.setCell ?_ (by first | omega | (simp <;> omega)) _ | refine Below.drew ?_ | refine Below.trans ?_ (Below.mono (by assumption) (by first | omega | (simp <;> omega)))))
  have hs := sprB_iff.1 h
  cases hk : inB k 0 100
  · have hK := inB_not hk
    have e : UnwindT t m f k = (t, -1) := by unfold UnwindT; rw [if_neg (by omega)]
    rw [e]
    go_enter Try.func25, Try.ntmps25
    go_wp2_with (first | (go_at_call 18; refine (iSpringOkE _ _ _ _).mono ?_; rintro e w' ⟨rfl, rfl⟩; rw [h]) | (go_at_call 46; refine (within_any _ _ _ _).mono ?_; rintro e w1 ⟨rfl, rfl⟩; rw [hk]))
    refine bodyPost_ret (v := .tuple #[.agg #[.int .i64 t, .int .i64 m, .int .i64 f], .int .i64 (-1)]) (by simp [results, Try.results25, go_sem]) rfl ⟨rfl, ?_⟩
    (repeat (first | exact Below.refl _ _ | assumption | refine Below.alloc ?_ (by first | omega | (simp <;> omega)) _ | refine Below.setCell ?_ (by first | omega | (simp <;> omega)) _ | refine Below.drew ?_ | refine Below.trans ?_ (Below.mono (by assumption) (by first | omega | (simp <;> omega)))))
  have hK := inB_iff.1 hk
  have e : UnwindT t m f k = (t - min k t, min k t) := by unfold UnwindT; rw [if_pos ⟨h, hK.1, hK.2⟩]
  rw [e]
  clear e
  go_enter Try.func25, Try.ntmps25
  go_wp2_with (first | (go_at_call 18; refine (iSpringOkE _ _ _ _).mono ?_; rintro e w' ⟨rfl, rfl⟩; rw [h]) | (go_at_call 46; refine (within_any _ _ _ _).mono ?_; rintro e w1 ⟨rfl, rfl⟩; rw [hk]))
  · rw [show min k t = t by omega]
    refine bodyPost_ret (v := .tuple #[.agg #[.int .i64 (t - t), .int .i64 m, .int .i64 f], .int .i64 t]) (by simp [results, Try.results25, go_sem]) rfl ⟨rfl, ?_⟩
    (repeat (first | exact Below.refl _ _ | assumption | refine Below.alloc ?_ (by first | omega | (simp <;> omega)) _ | refine Below.setCell ?_ (by first | omega | (simp <;> omega)) _ | refine Below.drew ?_ | refine Below.trans ?_ (Below.mono (by assumption) (by first | omega | (simp <;> omega)))))
  · rw [show min k t = k by omega]
    refine bodyPost_ret (v := .tuple #[.agg #[.int .i64 (t - k), .int .i64 m, .int .i64 f], .int .i64 k]) (by simp [results, Try.results25, go_sem]) rfl ⟨rfl, ?_⟩
    (repeat (first | exact Below.refl _ _ | assumption | refine Below.alloc ?_ (by first | omega | (simp <;> omega)) _ | refine Below.setCell ?_ (by first | omega | (simp <;> omega)) _ | refine Below.drew ?_ | refine Below.trans ?_ (Below.mono (by assumption) (by first | omega | (simp <;> omega)))))

theorem sSpringOkE (t m f : Int) (w : World) :
    Calls Try.prog 16 #[.agg #[.int .i64 t, .int .i64 m, .int .i64 f]] w fun e w' => e = .returned (.bool (sprB t m f)) ∧ w.alloc (.cells #[.int .i64 t, .int .i64 m, .int .i64 f] 25) = w' := by
  have e : sprB t m f = (inB m 1 50 && inB t 0 m && inB f 1 10000) := by
    rw [Bool.eq_iff_iff, sprB_iff]; simp [inB]; omega
  rw [e]
  go_enter Try.func16, Try.ntmps16
  cases h1 : inB m 1 50 <;> cases h2 : inB t 0 m <;> cases h3 : inB f 1 10000
  all_goals
    go_wp2_with (go_at_call 45; refine (l01In_any _ _ _ _).mono ?_; rintro e w' ⟨rfl, rfl⟩)
    go_ret
    exact ⟨rfl, rfl⟩
theorem sSpringOk (t m f : Int) (w : World) :
    Calls Try.prog 16 #[.agg #[.int .i64 t, .int .i64 m, .int .i64 f]] w fun e w' => e = .returned (.bool (sprB t m f)) ∧ Below w.heap.size w w' :=
  (sSpringOkE t m f w).mono fun _ _ ⟨he, hw⟩ => ⟨he, by rw [← hw]; exact (Below.refl _ _).alloc (Nat.le_refl _) _⟩

theorem sForceNow (t m f : Int) (w : World) :
    Calls Try.prog 19 #[.agg #[.int .i64 t, .int .i64 m, .int .i64 f]] w fun e w' => e = .returned (.int .i64 (ForceZ t m f)) ∧ Below w.heap.size w w' := by
  cases h : sprB t m f
  · have e : ForceZ t m f = -1 := by simp [ForceZ, h]
    rw [e]
    go_enter Try.func19, Try.ntmps19
    go_wp2_with (go_at_call 16; refine (sSpringOk _ _ _ _).mono ?_; rintro e w' ⟨rfl, hb⟩; rw [h])
    go_ret
    exact ⟨rfl, by (repeat (first | exact Below.refl _ _ | assumption | refine Below.alloc ?_ (by first | omega | (simp <;> omega)) _ | refine Below.setCell ?_ (by first | omega | (simp <;> omega)) _ | refine Below.drew ?_ | refine Below.trans ?_ (Below.mono (by assumption) (by first | omega | (simp <;> omega)))))⟩
  · have e : ForceZ t m f = frc t m f := by simp [ForceZ, h]
    rw [e]
    have hs := sprB_iff.1 h
    have hf := ft_bd h
    go_enter Try.func19, Try.ntmps19
    go_wp2_with (go_at_call 16; refine (sSpringOk _ _ _ _).mono ?_; rintro e w' ⟨rfl, hb⟩; rw [h]; have hc := (bcell hb).1)
    go_ret
    exact ⟨rfl, by (repeat (first | exact Below.refl _ _ | assumption | refine Below.alloc ?_ (by first | omega | (simp <;> omega)) _ | refine Below.setCell ?_ (by first | omega | (simp <;> omega)) _ | refine Below.drew ?_ | refine Below.trans ?_ (Below.mono (by assumption) (by first | omega | (simp <;> omega)))))⟩

theorem sTurnsWith (t m f need : Int) (w : World) :
    Calls Try.prog 26 #[.agg #[.int .i64 t, .int .i64 m, .int .i64 f], .int .i64 need] w fun e w' => e = .returned (.int .i64 (TurnsWithZ t m f need)) ∧ Below w.heap.size w w' := by
  cases h : sprB t m f
  · have e : TurnsWithZ t m f need = -1 := by simp [TurnsWithZ, h]
    rw [e]
    go_enter Try.func26, Try.ntmps26
    go_wp2_with (go_at_call 16; refine (sSpringOk _ _ _ _).mono ?_; rintro e w' ⟨rfl, hb⟩; rw [h])
    go_ret
    exact ⟨rfl, by (repeat (first | exact Below.refl _ _ | assumption | refine Below.alloc ?_ (by first | omega | (simp <;> omega)) _ | refine Below.setCell ?_ (by first | omega | (simp <;> omega)) _ | refine Below.drew ?_ | refine Below.trans ?_ (Below.mono (by assumption) (by first | omega | (simp <;> omega)))))⟩
  cases hn : inB need 0 10000
  · have e : TurnsWithZ t m f need = -1 := by
      have := inB_not hn
      unfold TurnsWithZ; rw [if_neg (by rw [h]; simp; omega)]
    rw [e]
    go_enter Try.func26, Try.ntmps26
    go_wp2_with (first | (go_at_call 16; refine (sSpringOk _ _ _ _).mono ?_; rintro e w' ⟨rfl, hb⟩; rw [h]; have hc := (bcell hb).1) | (go_at_call 45; refine (l01In_any _ _ _ _).mono ?_; rintro e w' ⟨rfl, rfl⟩))
    go_ret
    exact ⟨rfl, by (repeat (first | exact Below.refl _ _ | assumption | refine Below.alloc ?_ (by first | omega | (simp <;> omega)) _ | refine Below.setCell ?_ (by first | omega | (simp <;> omega)) _ | refine Below.drew ?_ | refine Below.trans ?_ (Below.mono (by assumption) (by first | omega | (simp <;> omega)))))⟩
  have hN := inB_iff.1 hn
  have hs := sprB_iff.1 h
  have e : TurnsWithZ t m f need = twn m f need t.toNat := by unfold TurnsWithZ; rw [if_pos ⟨h, hN.1, hN.2⟩]
  rw [e]
  clear e
  obtain ⟨T, rfl⟩ := Int.eq_ofNat_of_zero_le hs.2.2.1
  rw [Int.toNat_natCast]
  go_enter Try.func26, Try.ntmps26
  go_wp2_with (first | (go_at_call 16; refine (sSpringOk _ _ _ _).mono ?_; rintro e w' ⟨rfl, hb⟩; rw [h]; have hc := (bcell hb).1; have hblk := (Blk.new w 25 #[.int .i64 T, .int .i64 m, .int .i64 f]).below hb (by simp)) | (go_at_call 45; refine (l01In_any _ _ _ _).mono ?_; rintro e w' ⟨rfl, rfl⟩))
  have hbel : Below w.heap.size w w' := by (repeat (first | exact Below.refl _ _ | assumption | refine Below.alloc ?_ (by first | omega | (simp <;> omega)) _ | refine Below.setCell ?_ (by first | omega | (simp <;> omega)) _ | refine Below.drew ?_ | refine Below.trans ?_ (Below.mono (by assumption) (by first | omega | (simp <;> omega)))))
  have H := Lib.hid hblk
  clear hc hb hblk
  go_loopg [5] T (fun k n wr => k ≤ T ∧ Blk wr w.heap.size 25 #[.int .i64 k, .int .i64 m, .int .i64 f] ∧ Below w.heap.size w wr ∧ n = .int .i64 (twn m f need T - twn m f need k))
  case atStart => exact ⟨Nat.le_refl _, H.out, hbel, by simp⟩
  case round =>
    obtain ⟨hk, hB, hbl, rfl⟩ := hrel
    have c0 := hB.cell 0
    have c1 := hB.cell 1
    have c2 := hB.cell 2
    have z0 := hB.lt
    have HB := Lib.hid hB
    clear hB
    have b1 := twn_bd m f need T
    have b2 := twn_bd m f need gk
    simp at c0 c1 c2
    rcases Nat.eq_zero_or_pos gk with h0 | h0
    · subst h0
      go_wp2
      go_ret
      exact ⟨by simp [twn], by (repeat (first | exact Below.refl _ _ | assumption | refine Below.alloc ?_ (by first | omega | (simp <;> omega)) _ | refine Below.setCell ?_ (by first | omega | (simp <;> omega)) _ | refine Below.drew ?_ | refine Below.trans ?_ (Below.mono (by assumption) (by first | omega | (simp <;> omega)))))⟩
    · obtain ⟨k, rfl⟩ : ∃ k, gk = k + 1 := ⟨gk - 1, by omega⟩
      have hsp : sprB ((k : Int) + 1) m f = true := sprB_iff.2 (by omega)
      have hz : ForceZ ((k : Int) + 1) m f = frc ((k : Int) + 1) m f := by simp only [ForceZ, hsp, if_true]
      have HZ := Lib.hid hz
      clear hz
      have b3 := twn_bd m f need k
      by_cases hc : need ≤ frc ((k : Int) + 1) m f
      · have et : twn m f need (k + 1) = 1 + twn m f need k := by rw [twn, if_pos (by simpa using hc)]
        have ET := Lib.hid et
        clear et
        go_wp2_with (go_at_call 19; refine (sForceNow _ _ _ _).mono ?_; rintro e w1 ⟨rfl, hb⟩; rw [HZ.out]; have hcc := (bcell hb).1; have hff := (bcell hb).2; have f0 := HB.out.frozen 0; have hzz := hb.size)
        go_roundg k
        case measure => omega
        case rel =>
          refine ⟨by omega, ?_, by (repeat (first | exact Below.refl _ _ | assumption | refine Below.alloc ?_ (by first | omega | (simp <;> omega)) _ | refine Below.setCell ?_ (by first | omega | (simp <;> omega)) _ | refine Below.drew ?_ | refine Below.trans ?_ (Below.mono (by assumption) (by first | omega | (simp <;> omega))))), by rw [ET.out]; congr 1; omega⟩
          have := (HB.out.below hb z0).set_ 0 (.int .i64 k)
          simpa using this
      · have et : twn m f need (k + 1) = 0 := by rw [twn, if_neg (by simpa using hc)]
        have ET := Lib.hid et
        clear et
        go_wp2_with (go_at_call 19; refine (sForceNow _ _ _ _).mono ?_; rintro e w1 ⟨rfl, hb⟩; rw [HZ.out]; have hcc := (bcell hb).1; have hff := (bcell hb).2; have f0 := HB.out.frozen 0; have hzz := hb.size)
        go_ret
        exact ⟨by rw [ET.out]; simp, by (repeat (first | exact Below.refl _ _ | assumption | refine Below.alloc ?_ (by first | omega | (simp <;> omega)) _ | refine Below.setCell ?_ (by first | omega | (simp <;> omega)) _ | refine Below.drew ?_ | refine Below.trans ?_ (Below.mono (by assumption) (by first | omega | (simp <;> omega)))))⟩

theorem sWorkIn (t m f : Int) (w : World) :
    Calls Try.prog 28 #[.agg #[.int .i64 t, .int .i64 m, .int .i64 f]] w fun e w' => e = .returned (.int .i64 (WorkZ t m f)) ∧ Below w.heap.size w w' := by
  cases h : sprB t m f
  · have e : WorkZ t m f = -1 := by simp [WorkZ, h]
    rw [e]
    go_enter Try.func28, Try.ntmps28
    go_wp2_with (go_at_call 16; refine (sSpringOk _ _ _ _).mono ?_; rintro e w' ⟨rfl, hb⟩; rw [h])
    go_ret
    exact ⟨rfl, by (repeat (first | exact Below.refl _ _ | assumption | refine Below.alloc ?_ (by first | omega | (simp <;> omega)) _ | refine Below.setCell ?_ (by first | omega | (simp <;> omega)) _ | refine Below.drew ?_ | refine Below.trans ?_ (Below.mono (by assumption) (by first | omega | (simp <;> omega)))))⟩
  have hs := sprB_iff.1 h
  have e : WorkZ t m f = wrk m f t.toNat := by unfold WorkZ; rw [if_pos h]
  rw [e]
  clear e
  obtain ⟨T, rfl⟩ := Int.eq_ofNat_of_zero_le hs.2.2.1
  rw [Int.toNat_natCast]
  go_enter Try.func28, Try.ntmps28
  go_wp2_with (go_at_call 16; refine (sSpringOk _ _ _ _).mono ?_; rintro e w' ⟨rfl, hb⟩; rw [h]; have hc := (bcell hb).1; have hblk := (Blk.new w 25 #[.int .i64 T, .int .i64 m, .int .i64 f]).below hb (by simp))
  have hbel : Below w.heap.size w w' := by (repeat (first | exact Below.refl _ _ | assumption | refine Below.alloc ?_ (by first | omega | (simp <;> omega)) _ | refine Below.setCell ?_ (by first | omega | (simp <;> omega)) _ | refine Below.drew ?_ | refine Below.trans ?_ (Below.mono (by assumption) (by first | omega | (simp <;> omega)))))
  have H := Lib.hid hblk
  clear hc hb hblk
  have b1 := wrk_bd hs.1 hs.2.1 hs.2.2.2.2.1 hs.2.2.2.2.2 T hs.2.2.2.1
  go_loopg [3] T (fun k n wr => k ≤ T ∧ Blk wr w.heap.size 25 #[.int .i64 k, .int .i64 m, .int .i64 f] ∧ Below w.heap.size w wr ∧ n = .int .i64 (wrk m f T - wrk m f k))
  case atStart => exact ⟨Nat.le_refl _, H.out, hbel, by simp⟩
  case round =>
    obtain ⟨hk, hB, hbl, rfl⟩ := hrel
    have c0 := hB.cell 0
    have c1 := hB.cell 1
    have c2 := hB.cell 2
    have z0 := hB.lt
    have HB := Lib.hid hB
    clear hB
    have b2 := wrk_bd hs.1 hs.2.1 hs.2.2.2.2.1 hs.2.2.2.2.2 gk (by omega)
    simp at c0 c1 c2
    rcases Nat.eq_zero_or_pos gk with h0 | h0
    · subst h0
      go_wp2
      go_ret
      exact ⟨by simp [wrk], by (repeat (first | exact Below.refl _ _ | assumption | refine Below.alloc ?_ (by first | omega | (simp <;> omega)) _ | refine Below.setCell ?_ (by first | omega | (simp <;> omega)) _ | refine Below.drew ?_ | refine Below.trans ?_ (Below.mono (by assumption) (by first | omega | (simp <;> omega)))))⟩
    · obtain ⟨k, rfl⟩ : ∃ k, gk = k + 1 := ⟨gk - 1, by omega⟩
      have hsp : sprB ((k : Int) + 1) m f = true := sprB_iff.2 (by omega)
      have hz : ForceZ ((k : Int) + 1) m f = frc ((k : Int) + 1) m f := by simp only [ForceZ, hsp, if_true]
      have HZ := Lib.hid hz
      clear hz
      have b3 := wrk_bd hs.1 hs.2.1 hs.2.2.2.2.1 hs.2.2.2.2.2 k (by omega)
      have b4 := frc_bd hsp
      have et : wrk m f (k + 1) = frc ((k : Int) + 1) m f + wrk m f k := by rw [wrk]; simp
      have ET := Lib.hid et
      clear et
      go_wp2_with (go_at_call 19; refine (sForceNow _ _ _ _).mono ?_; rintro e w1 ⟨rfl, hb⟩; rw [HZ.out]; have hcc := (bcell hb).1; have hff := (bcell hb).2; have f0 := HB.out.frozen 0; have hzz := hb.size)
      go_roundg k
      case measure => omega
      case rel =>
        refine ⟨by omega, ?_, by (repeat (first | exact Below.refl _ _ | assumption | refine Below.alloc ?_ (by first | omega | (simp <;> omega)) _ | refine Below.setCell ?_ (by first | omega | (simp <;> omega)) _ | refine Below.drew ?_ | refine Below.trans ?_ (Below.mono (by assumption) (by first | omega | (simp <;> omega))))), by rw [ET.out]; congr 1; omega⟩
        have := (HB.out.below hb z0).set_ 0 (.int .i64 k)
        simpa using this

theorem sWind (t m f k : Int) (w : World) :
    Calls Try.prog 21 #[.agg #[.int .i64 t, .int .i64 m, .int .i64 f], .int .i64 k] w fun e w' => e = .returned (.tuple #[.agg #[.int .i64 (WindT t m f k).1, .int .i64 m, .int .i64 f], .int .i64 (WindT t m f k).2]) ∧ Below w.heap.size w w' := by
  cases h : sprB t m f
  · have e : WindT t m f k = (t, -1) := by simp [WindT, h]
    rw [e]
    go_enter Try.func21, Try.ntmps21
    go_wp2_with (go_at_call 16; refine (sSpringOkE _ _ _ _).mono ?_; rintro e w' ⟨rfl, rfl⟩; rw [h])
    refine bodyPost_ret (v := .tuple #[.agg #[.int .i64 t, .int .i64 m, .int .i64 f], .int .i64 (-1)]) (by simp [results, Try.results21, go_sem]) rfl ⟨rfl, ?_⟩
    (repeat (first | exact Below.refl _ _ | assumption | refine Below.alloc ?_ (by first | omega | (simp <;> omega)) _ | refine Below.setCell ?_ (by first | omega | (simp <;> omega)) _ | refine Below.drew ?_ | refine Below.trans ?_ (Below.mono (by assumption) (by first | omega | (simp <;> omega)))))
  have hs := sprB_iff.1 h
  cases hk : inB k 0 100
  · have hK := inB_not hk
    have e : WindT t m f k = (t, -1) := by unfold WindT; rw [if_neg (by omega)]
    rw [e]
    go_enter Try.func21, Try.ntmps21
    go_wp2_with (first | (go_at_call 16; refine (sSpringOkE _ _ _ _).mono ?_; rintro e w' ⟨rfl, rfl⟩; rw [h]) | (go_at_call 45; refine (l01In_any _ _ _ _).mono ?_; rintro e w1 ⟨rfl, rfl⟩; rw [hk]))
    refine bodyPost_ret (v := .tuple #[.agg #[.int .i64 t, .int .i64 m, .int .i64 f], .int .i64 (-1)]) (by simp [results, Try.results21, go_sem]) rfl ⟨rfl, ?_⟩
    (repeat (first | exact Below.refl _ _ | assumption | refine Below.alloc ?_ (by first | omega | (simp <;> omega)) _ | refine Below.setCell ?_ (by first | omega | (simp <;> omega)) _ | refine Below.drew ?_ | refine Below.trans ?_ (Below.mono (by assumption) (by first | omega | (simp <;> omega)))))
  have hK := inB_iff.1 hk
  have e : WindT t m f k = (t + min k (m - t), min k (m - t)) := by unfold WindT; rw [if_pos ⟨h, hK.1, hK.2⟩]
  rw [e]
  clear e
  go_enter Try.func21, Try.ntmps21
  go_wp2_with (first | (go_at_call 16; refine (sSpringOkE _ _ _ _).mono ?_; rintro e w' ⟨rfl, rfl⟩; rw [h]) | (go_at_call 45; refine (l01In_any _ _ _ _).mono ?_; rintro e w1 ⟨rfl, rfl⟩; rw [hk]))
  · rw [show min k (m - t) = m - t by omega]
    refine bodyPost_ret (v := .tuple #[.agg #[.int .i64 (t + (m - t)), .int .i64 m, .int .i64 f], .int .i64 (m - t)]) (by simp [results, Try.results21, go_sem]) rfl ⟨rfl, ?_⟩
    (repeat (first | exact Below.refl _ _ | assumption | refine Below.alloc ?_ (by first | omega | (simp <;> omega)) _ | refine Below.setCell ?_ (by first | omega | (simp <;> omega)) _ | refine Below.drew ?_ | refine Below.trans ?_ (Below.mono (by assumption) (by first | omega | (simp <;> omega)))))
  · rw [show min k (m - t) = k by omega]
    refine bodyPost_ret (v := .tuple #[.agg #[.int .i64 (t + k), .int .i64 m, .int .i64 f], .int .i64 k]) (by simp [results, Try.results21, go_sem]) rfl ⟨rfl, ?_⟩
    (repeat (first | exact Below.refl _ _ | assumption | refine Below.alloc ?_ (by first | omega | (simp <;> omega)) _ | refine Below.setCell ?_ (by first | omega | (simp <;> omega)) _ | refine Below.drew ?_ | refine Below.trans ?_ (Below.mono (by assumption) (by first | omega | (simp <;> omega)))))

theorem sUnwind (t m f k : Int) (w : World) :
    Calls Try.prog 24 #[.agg #[.int .i64 t, .int .i64 m, .int .i64 f], .int .i64 k] w fun e w' => e = .returned (.tuple #[.agg #[.int .i64 (UnwindT t m f k).1, .int .i64 m, .int .i64 f], .int .i64 (UnwindT t m f k).2]) ∧ Below w.heap.size w w' := by
  cases h : sprB t m f
  · have e : UnwindT t m f k = (t, -1) := by simp [UnwindT, h]
    rw [e]
    go_enter Try.func24, Try.ntmps24
    go_wp2_with (go_at_call 16; refine (sSpringOkE _ _ _ _).mono ?_; rintro e w' ⟨rfl, rfl⟩; rw [h])
    refine bodyPost_ret (v := .tuple #[.agg #[.int .i64 t, .int .i64 m, .int .i64 f], .int .i64 (-1)]) (by simp [results, Try.results24, go_sem]) rfl ⟨rfl, ?_⟩
    (repeat (first | exact Below.refl _ _ | assumption | refine Below.alloc ?_ (by first | omega | (simp <;> omega)) _ | refine Below.setCell ?_ (by first | omega | (simp <;> omega)) _ | refine Below.drew ?_ | refine Below.trans ?_ (Below.mono (by assumption) (by first | omega | (simp <;> omega)))))
  have hs := sprB_iff.1 h
  cases hk : inB k 0 100
  · have hK := inB_not hk
    have e : UnwindT t m f k = (t, -1) := by unfold UnwindT; rw [if_neg (by omega)]
    rw [e]
    go_enter Try.func24, Try.ntmps24
    go_wp2_with (first | (go_at_call 16; refine (sSpringOkE _ _ _ _).mono ?_; rintro e w' ⟨rfl, rfl⟩; rw [h]) | (go_at_call 45; refine (l01In_any _ _ _ _).mono ?_; rintro e w1 ⟨rfl, rfl⟩; rw [hk]))
    refine bodyPost_ret (v := .tuple #[.agg #[.int .i64 t, .int .i64 m, .int .i64 f], .int .i64 (-1)]) (by simp [results, Try.results24, go_sem]) rfl ⟨rfl, ?_⟩
    (repeat (first | exact Below.refl _ _ | assumption | refine Below.alloc ?_ (by first | omega | (simp <;> omega)) _ | refine Below.setCell ?_ (by first | omega | (simp <;> omega)) _ | refine Below.drew ?_ | refine Below.trans ?_ (Below.mono (by assumption) (by first | omega | (simp <;> omega)))))
  have hK := inB_iff.1 hk
  have e : UnwindT t m f k = (t - min k t, min k t) := by unfold UnwindT; rw [if_pos ⟨h, hK.1, hK.2⟩]
  rw [e]
  clear e
  go_enter Try.func24, Try.ntmps24
  go_wp2_with (first | (go_at_call 16; refine (sSpringOkE _ _ _ _).mono ?_; rintro e w' ⟨rfl, rfl⟩; rw [h]) | (go_at_call 45; refine (l01In_any _ _ _ _).mono ?_; rintro e w1 ⟨rfl, rfl⟩; rw [hk]))
  · rw [show min k t = t by omega]
    refine bodyPost_ret (v := .tuple #[.agg #[.int .i64 (t - t), .int .i64 m, .int .i64 f], .int .i64 t]) (by simp [results, Try.results24, go_sem]) rfl ⟨rfl, ?_⟩
    (repeat (first | exact Below.refl _ _ | assumption | refine Below.alloc ?_ (by first | omega | (simp <;> omega)) _ | refine Below.setCell ?_ (by first | omega | (simp <;> omega)) _ | refine Below.drew ?_ | refine Below.trans ?_ (Below.mono (by assumption) (by first | omega | (simp <;> omega)))))
  · rw [show min k t = k by omega]
    refine bodyPost_ret (v := .tuple #[.agg #[.int .i64 (t - k), .int .i64 m, .int .i64 f], .int .i64 k]) (by simp [results, Try.results24, go_sem]) rfl ⟨rfl, ?_⟩
    (repeat (first | exact Below.refl _ _ | assumption | refine Below.alloc ?_ (by first | omega | (simp <;> omega)) _ | refine Below.setCell ?_ (by first | omega | (simp <;> omega)) _ | refine Below.drew ?_ | refine Below.trans ?_ (Below.mono (by assumption) (by first | omega | (simp <;> omega)))))


theorem toSpring_any (t m f : Int) (w : World) :
    Calls Try.prog 17 #[.agg #[.int .i64 t, .int .i64 m, .int .i64 f]] w fun e w' => e = .returned (.agg #[.int .i64 t, .int .i64 m, .int .i64 f]) ∧ Below w.heap.size w w' := by
  go_enter Try.func17, Try.ntmps17
  go_wp2
  refine bodyPost_ret (v := .agg #[.int .i64 t, .int .i64 m, .int .i64 f]) (by simp [results, Try.results17, go_sem]) rfl ⟨rfl, ?_⟩
  (repeat (first | exact Below.refl _ _ | assumption | refine Below.alloc ?_ (by first | omega | (simp <;> omega)) _ | refine Below.setCell ?_ (by first | omega | (simp <;> omega)) _ | refine Below.drew ?_ | refine Below.trans ?_ (Below.mono (by assumption) (by first | omega | (simp <;> omega)))))

theorem eqSpring_same (t m f : Int) (w : World) :
    Calls Try.prog 23 #[.agg #[.int .i64 t, .int .i64 m, .int .i64 f], .agg #[.int .i64 t, .int .i64 m, .int .i64 f]] w fun e w' => e = .returned (.bool true) ∧ Below w.heap.size w w' := by
  go_enter Try.func23, Try.ntmps23
  go_wp2
  go_ret
  exact ⟨rfl, by (repeat (first | exact Below.refl _ _ | assumption | refine Below.alloc ?_ (by first | omega | (simp <;> omega)) _ | refine Below.setCell ?_ (by first | omega | (simp <;> omega)) _ | refine Below.drew ?_ | refine Below.trans ?_ (Below.mono (by assumption) (by first | omega | (simp <;> omega)))))⟩
end Go.Proofs.Ytcnnkdpfigckoaa
