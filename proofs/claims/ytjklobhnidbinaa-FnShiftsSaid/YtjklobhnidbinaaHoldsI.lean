/-
  HoldsTunes of impl: some cylinders, each on its own shift, on one.
-/
import Derived.Test.YtjklobhnidbinaaHolds
import Derived.Test.YtjklobhnidbinaaShiftAll
import Derived.Test.YtjklobhnidbinaaMergeAll
namespace Go.Proofs.Ytjklobhnidbinaa
open Go.RowKit

/-- what stands in the variables: the option told by its parts -/
def Tell (o : CyO) (S T : Int) (ok : Bool) (xs : List (Int × Int)) : Prop := S = cyS o ∧ T = cyT o ∧ ok = o.isSome ∧ xs = cyP o
theorem Tell.none {o : CyO} {S T : Int} {xs : List (Int × Int)} (h : Tell o S T false xs) : o = none := by
  obtain ⟨_, _, h, _⟩ := h
  cases o with
  | none => rfl
  | some c => cases h
theorem Tell.some {o : CyO} {S T : Int} {xs : List (Int × Int)} (h : Tell o S T true xs) : o = some (S, T, xs) := by
  obtain ⟨h1, h2, h3, h4⟩ := h
  cases o with
  | none => cases h3
  | some c => rw [h1, h2, h4]; rfl
theorem madeCO_tell {w w' : World} {o : CyO} {S T : Int} {ok : Bool} {xs : List (Int × Int)} {A : Option Addr} {c : Nat} (h : Tell o S T ok xs) (ho : w'.ownsRow w.heap.size 50 2 (.slice A xs.length c) xs.length (pc xs)) (hb : Below w.heap.size w w') :
    MadeCO w o (.returned (.tuple #[.agg #[.int .i64 S, .int .i64 T, .slice A xs.length c], .bool ok])) w' := by
  obtain ⟨rfl, rfl, rfl, rfl⟩ := h
  exact ⟨A, c, rfl, ho, hb⟩
theorem own_ne_hi2 {w : World} {base size n g : Nat} {v : Value} {xs : List Value} {e : TypeId} (h : w.ownsRow base e size v n xs) (hg : w.heap.size ≤ g) : some g ≠ v.ownBlock := fun k => by have := (h.lt g k.symm).2; omega
theorem call_tell {P : Program} {f : FuncId} {args : Array Value} {w : World} {o : CyO} (h : Calls P f args w (MadeCO w o)) :
    Calls P f args w fun e w' => ∃ (S T : Int) (ok : Bool) (xs : List (Int × Int)) (A : Option Addr) (c : Nat), e = .returned (.tuple #[.agg #[.int .i64 S, .int .i64 T, .slice A xs.length c], .bool ok]) ∧ Hid (Tell o S T ok xs) ∧ w'.ownsRow w.heap.size 50 2 (.slice A xs.length c) xs.length (pc xs) ∧ Below w.heap.size w w' :=
  h.mono fun _ _ ⟨A, c, he, ho, hb⟩ => ⟨_, _, _, _, A, c, he, Lib.hid ⟨rfl, rfl, rfl, rfl⟩, ho, hb⟩

set_option maxHeartbeats 2000000 in
theorem iHolds (A : Option Addr) (n c : Nat) (hs : List (Option Addr × Nat)) (cs : List Cy) (d : Int) (w : World) (h : RdCS w w.heap.size A n hs cs) (hn : n ≤ 1048576) :
    Calls Try.prog 22 #[.slice A n c, .int .i64 d] w (MadeCO w (holdsC cs d)) := by
  have hni : (n : Int) ≤ 1048576 := by omega
  have HZ0 := Lib.hid (Blk.new w 28 #[.int .i64 0, .int .i64 0, .slice none 0 0])
  have B0 := Lib.hid ((Below.refl w.heap.size w).alloc (Nat.le_refl _) (.cells #[.int .i64 0, .int .i64 0, .slice none 0 0] 28))
  have H := Lib.hid h
  clear h
  by_cases hn1 : 1 ≤ (n : Int)
  case neg =>
    obtain rfl : n = 0 := by omega
    have hno := holdsC_no (cs := cs) (d := d) (by rw [H.out.2.1]; omega)
    rw [hno]
    clear hno
    go_enter Try.func22, Try.ntmps22
    go_wp2
    refine bodyPost_ret (v := .tuple #[.agg #[.int .i64 0, .int .i64 0, .slice none 0 0], .bool false]) (by simp [results, Try.results22, go_sem]) rfl (madeCO_no ?_)
    (repeat (first | exact Below.refl _ _ | assumption | refine Below.alloc ?_ (by first | omega | (simp <;> omega)) _ | refine Below.setCell ?_ (by first | omega | (simp <;> omega)) _ | refine Below.drew ?_ | refine Below.trans ?_ (Below.mono (by assumption) (by first | omega | (simp <;> omega)))))
  have hn0 : ((n : Int) == 0) = false := by simp; omega
  by_cases hnd : (n : Int) ≤ d
  case neg =>
    have hno := holdsC_no (cs := cs) (d := d) (by rw [H.out.2.1]; omega)
    rw [hno]
    clear hno
    go_enter Try.func22, Try.ntmps22
    go_wp2
    refine bodyPost_ret (v := .tuple #[.agg #[.int .i64 0, .int .i64 0, .slice none 0 0], .bool false]) (by simp [results, Try.results22, go_sem]) rfl (madeCO_no ?_)
    (repeat (first | exact Below.refl _ _ | assumption | refine Below.alloc ?_ (by first | omega | (simp <;> omega)) _ | refine Below.setCell ?_ (by first | omega | (simp <;> omega)) _ | refine Below.drew ?_ | refine Below.trans ?_ (Below.mono (by assumption) (by first | omega | (simp <;> omega)))))
  have HY := Lib.hid (holdsC_yes (cs := cs) (d := d) (by rw [H.out.2.1]; omega))
  have HLEN := Lib.hid (fun k => holdsN_len cs d k)
  obtain ⟨b, o, a, cc, s, t, l, rfl, hbB, _, h2, g0, g1, g2, hrd, hcc, hll⟩ := H.out.at (k := 0) (by omega)
  rw [show o + 0 * 3 = o by omega] at g0 g1 g2
  have h1 := holds_one (d := d) h2
  have SH := Lib.hid (fun w h => iShiftedTracks_all s t a l.length cc l d 0 w h hll)
  simp only at h1
  rw [← h1] at SH
  have HR := Lib.hid ((hrd.below B0.out).more B0.out.size)
  have c0 : (w.alloc (.cells #[.int .i64 0, .int .i64 0, .slice none 0 0] 28)).cell? ⟨b, o, none⟩ = some (.int .i64 s) := (World.cell?_alloc_lt w _ _ hbB).trans g0
  have c1 : (w.alloc (.cells #[.int .i64 0, .int .i64 0, .slice none 0 0] 28)).cell? ⟨b, o + 1, none⟩ = some (.int .i64 t) := (World.cell?_alloc_lt w _ _ hbB).trans g1
  have c2 : (w.alloc (.cells #[.int .i64 0, .int .i64 0, .slice none 0 0] 28)).cell? ⟨b, o + 2, none⟩ = some (.slice a l.length cc) := (World.cell?_alloc_lt w _ _ hbB).trans g2
  obtain ⟨L, hL⟩ : ∃ L, L = l.length := ⟨_, rfl⟩
  rw [← hL] at SH HR c2
  have hn2 : 0 < n := by omega
  clear h2 h1 g0 g1 g2 hrd hcc hll hL
  go_enter Try.func22, Try.ntmps22
  go_wp2_with fail
  refine (call_tell (SH.out _ HR.out)).mono ?_
  rintro e w1 ⟨S, T, ok, xs, A1, c1', rfl, ht, ho, hb1⟩
  have b1 := B0.out.trans (hb1.mono B0.out.size)
  have KZ1 := HZ0.out.below hb1 HZ0.out.lt
  have OA := Lib.hid ((own_base ho (show w.heap.size + 1 ≤ _ by simp)).alloc (.cells #[.int .i64 S, .int .i64 T, .slice A1 xs.length c1'] 28))
  have zA := ho.lt
  have KZ := Lib.hid (KZ1.alloc (.cells #[.int .i64 S, .int .i64 T, .slice A1 xs.length c1'] 28))
  have K6 := Lib.hid (Blk.new w1 28 #[.int .i64 S, .int .i64 T, .slice A1 xs.length c1'])
  have NA := Lib.hid (own_ne_hi2 ho (Nat.le_refl _))
  have B1 := Lib.hid (b1.alloc b1.size (.cells #[.int .i64 S, .int .i64 T, .slice A1 xs.length c1'] 28))
  have z1 : w.heap.size + 1 ≤ w1.heap.size := by have := hb1.size; simp at this; omega
  clear ho hb1 b1 KZ1 zA c0 c1 c2
  go_wp2_with fail
  obtain ⟨g6, hg6⟩ : ∃ g, g = w1.heap.size := ⟨_, rfl⟩
  rw [← hg6] at K6 NA z1 ⊢
  clear hg6
  go_loopw [7, 8] (fun q i wr => ∃ (k : Nat) (S T : Int) (ok : Bool) (xs : List (Int × Int)) (A1 : Option Addr) (c1 : Nat), 1 ≤ k ∧ k ≤ n ∧ i = .int .i64 k ∧ q = .bool ok ∧ Hid (Tell (holdsN cs d k) S T ok xs) ∧ Blk wr g6 28 #[.int .i64 S, .int .i64 T, .slice A1 xs.length c1] ∧ wr.ownsRow (w.heap.size + 1) 50 2 (.slice A1 xs.length c1) xs.length (pc xs) ∧ Hid (some g6 ≠ Value.ownBlock (.slice A1 xs.length c1)) ∧ Blk wr w.heap.size 28 #[.int .i64 0, .int .i64 0, .slice none 0 0] ∧ Below w.heap.size w wr) (fun _ i _ => n - (intOf i).toNat)
  case atStart => exact ⟨1, S, T, ok, xs, A1, c1', Nat.le_refl _, by omega, rfl, rfl, ht, K6.out, OA.out, NA, KZ.out, B1.out⟩
  case round =>
    obtain ⟨k, S, T, ok, xs, A1, c1, hk1, hkn, rfl, rfl, ht, hK, ho, hne, hZ, hbl⟩ := hrel
    have HK := Lib.hid hK
    have HO := Lib.hid ho
    have HZ := Lib.hid hZ
    have HBL := Lib.hid hbl
    obtain ⟨e0, e1, e2⟩ := hK.c3
    obtain ⟨r0, r1, r2⟩ := hZ.c3
    have f0 := hZ.frozen 0
    have f1 := hZ.frozen 1
    have f2 := hZ.frozen 2
    have zz := hK.lt
    have hxl : xs.length ≤ 100 := by rw [ht.out.2.2.2]; exact HLEN.out k
    clear hK ho hZ
    by_cases hlt : (k : Int) < n
    case neg =>
      obtain rfl : k = n := by omega
      go_wp2
      obtain ⟨q0, q1, q2⟩ := (cyl_set (a := .int .i64 S) (b := .int .i64 T) (c := .slice A1 xs.length c1) HZ.out).c3
      refine bodyPost_ret (v := .tuple #[.agg #[.int .i64 S, .int .i64 T, .slice A1 xs.length c1], .bool ok]) (by simp [results, Try.results22, go_sem, q0, q1, q2]) rfl ?_
      rw [HY.out, H.out.2.1]
      refine madeCO_tell ht.out (own_base (own_low (own_low (own_low HO.out (by simp) _) (by simp) _) (by simp) _) (by omega)) ?_
      exact ((HBL.out.setCell (by simp) _).setCell (by simp) _).setCell (by simp) _
    cases ok
    · have hno : holdsN cs d n = holdsN cs d k := by rw [ht.out.none, holds_none (by omega) ht.out.none (show k ≤ n by omega)]
      have HNO := Lib.hid hno
      clear hno
      go_wp2
      obtain ⟨q0, q1, q2⟩ := (cyl_set (a := .int .i64 S) (b := .int .i64 T) (c := .slice A1 xs.length c1) HZ.out).c3
      refine bodyPost_ret (v := .tuple #[.agg #[.int .i64 S, .int .i64 T, .slice A1 xs.length c1], .bool false]) (by simp [results, Try.results22, go_sem, q0, q1, q2]) rfl ?_
      rw [HY.out, H.out.2.1, HNO.out]
      refine madeCO_tell ht.out (own_base (own_low (own_low (own_low HO.out (by simp) _) (by simp) _) (by simp) _) (by omega)) ?_
      exact ((HBL.out.setCell (by simp) _).setCell (by simp) _).setCell (by simp) _
    · obtain ⟨b', o', a', cc', s', t', l', hbe, hbB', _, h2, g0, g1, g2, hrd, hcc, hll⟩ := H.out.at (k := k) (by omega)
      obtain ⟨rfl, rfl⟩ : b = b' ∧ o = o' := by injection hbe with hbe; injection hbe with e1 e2; exact ⟨e1, e2⟩
      have c0 : wr.cell? ⟨b, o + k * 3, none⟩ = some (.int .i64 s') := (hbl.cell (p := ⟨b, o + k * 3, none⟩) hbB).trans g0
      have c1a : wr.cell? ⟨b, o + k * 3 + 1, none⟩ = some (.int .i64 t') := (hbl.cell (p := ⟨b, o + k * 3 + 1, none⟩) hbB).trans g1
      have c2 : wr.cell? ⟨b, o + k * 3 + 2, none⟩ = some (.slice a' l'.length cc') := (hbl.cell (p := ⟨b, o + k * 3 + 2, none⟩) hbB).trans g2
      have HRk := Lib.hid ((hrd.below hbl).more hbl.size)
      have HCk := Lib.hid h2
      have SHk := Lib.hid (fun w h => iShiftedTracks_all s' t' a' l'.length cc' l' d k w h hll)
      obtain ⟨os, hos⟩ : ∃ os, os = shiftC s' t' l' d k := ⟨_, rfl⟩
      rw [← hos] at SHk
      have HOS := Lib.hid hos
      have HOSL := Lib.hid (show (cyP os).length ≤ 100 by rw [hos]; exact shiftC_len _ _ _ _ _)
      obtain ⟨L', hL'⟩ : ∃ L', L' = l'.length := ⟨_, rfl⟩
      rw [← hL'] at SHk HRk c2
      have hk0 : (0 : Int) ≤ k := by omega
      have hsz := hbl.size
      clear h2 hos hbe g0 g1 g2 hrd hcc hll hL' hbl
      go_wp2_with fail
      refine (call_tell (SHk.out _ HRk.out)).mono ?_
      rintro e w2 ⟨S2, T2, ok2, xs2, A2, c2', rfl, ht2, ho2, hb2⟩
      have b2 := HBL.out.trans (hb2.mono hsz)
      have K2 := HK.out.below hb2 HK.out.lt
      have Z2 := HZ.out.below hb2 HZ.out.lt
      have O2 := own_below HO.out hb2
      have KA := K2.alloc (.cells #[.int .i64 S2, .int .i64 T2, .slice A2 xs2.length c2'] 28)
      have ZA := Z2.alloc (.cells #[.int .i64 S2, .int .i64 T2, .slice A2 xs2.length c2'] 28)
      have BA := b2.alloc b2.size (.cells #[.int .i64 S2, .int .i64 T2, .slice A2 xs2.length c2'] 28)
      have OA1 := Lib.hid (O2.alloc (.cells #[.int .i64 S2, .int .i64 T2, .slice A2 xs2.length c2'] 28))
      have OA2 := Lib.hid (ho2.alloc (.cells #[.int .i64 S2, .int .i64 T2, .slice A2 xs2.length c2'] 28))
      have HKA := Lib.hid KA
      have HZA := Lib.hid ZA
      have HBA := Lib.hid BA
      obtain ⟨k0, k1, k2⟩ := KA.c3
      obtain ⟨r0, r1, r2⟩ := ZA.c3
      have f0 := ZA.frozen 0
      have f1 := ZA.frozen 1
      have f2 := ZA.frozen 2
      clear b2 K2 Z2 O2 KA ZA BA ho2 hb2 e0 e1 e2 c0 c1a c2
      cases ok2
      · have hbad := holds_bad (d := d) (show 0 < k by omega) HCk.out (by rw [← HOS.out]; exact ht2.out.none)
        have HNO := Lib.hid (holds_none (by omega) hbad (show k + 1 ≤ n by omega))
        clear hbad
        go_wp2
        obtain ⟨q0, q1, q2⟩ := (cyl_set (a := .int .i64 0) (b := .int .i64 0) (c := .slice none 0 0) HZA.out).c3
        refine bodyPost_ret (v := .tuple #[.agg #[.int .i64 0, .int .i64 0, .slice none 0 0], .bool false]) (by simp [results, Try.results22, go_sem, q0, q1, q2]) rfl ?_
        rw [HY.out, H.out.2.1, HNO.out]
        refine madeCO_no ?_
        exact ((HBA.out.setCell (by simp) _).setCell (by simp) _).setCell (by simp) _
      · have hx2 : xs2.length ≤ 100 := by rw [ht2.out.2.2.2]; exact HOSL.out
        have hst := holds_step (d := d) (show 0 < k by omega) HCk.out ht.out.some (by rw [← HOS.out]; exact ht2.out.some)
        simp only at hst
        have MM := Lib.hid (fun w h h' => iMerge_all S T A1 xs.length c1 xs S2 T2 A2 xs2.length c2' xs2 w h h' (by omega) (by omega))
        rw [← hst] at MM
        clear hst
        go_wp2_with fail
        refine (call_tell (MM.out _ (Rd.of_own OA1.out) (Rd.of_own OA2.out))).mono ?_
        rintro e w3 ⟨S3, T3, ok3, xs3, A3, c3', rfl, ht3, ho3, hb3⟩
        have K3 := HKA.out.below hb3 HKA.out.lt
        have Z3 := HZA.out.below hb3 HZA.out.lt
        have B3 := HBA.out.trans (hb3.mono HBA.out.size)
        have y3 : g6 < (w2.alloc (.cells #[.int .i64 S2, .int .i64 T2, .slice A2 xs2.length c2'] 28)).heap.size := HKA.out.lt
        have KF := Lib.hid (cyl_set (a := .int .i64 S3) (b := .int .i64 T3) (c := .slice A3 xs3.length c3') K3)
        have ZF := Lib.hid (((Z3.far (p := ⟨g6, 0, none⟩) (by simp; omega) (.int .i64 S3)).far (p := ⟨g6, 1, none⟩) (by simp; omega) (.int .i64 T3)).far (p := ⟨g6, 2, none⟩) (by simp; omega) (.slice A3 xs3.length c3'))
        have OF := Lib.hid (own_low (own_low (own_low ho3 (p := ⟨g6, 0, none⟩) y3 (.int .i64 S3)) (p := ⟨g6, 1, none⟩) y3 (.int .i64 T3)) (p := ⟨g6, 2, none⟩) y3 (.slice A3 xs3.length c3'))
        have NF := Lib.hid (own_ne ho3 y3)
        have BF := Lib.hid (((B3.setCell (p := ⟨g6, 0, none⟩) (by simp; omega) (.int .i64 S3)).setCell (p := ⟨g6, 1, none⟩) (by simp; omega) (.int .i64 T3)).setCell (p := ⟨g6, 2, none⟩) (by simp; omega) (.slice A3 xs3.length c3'))
        have hbase : w.heap.size + 1 ≤ (w2.alloc (.cells #[.int .i64 S2, .int .i64 T2, .slice A2 xs2.length c2'] 28)).heap.size := by omega
        obtain ⟨k0, k1, k2⟩ := K3.c3
        have f0 := K3.frozen 0
        have f1 := K3.frozen 1
        have f2 := K3.frozen 2
        clear K3 Z3 B3 ho3 hb3 r0 r1 r2
        go_wp2
        go_roundw
        case rel => exact ⟨k + 1, S3, T3, ok3, xs3, A3, c3', by omega, by omega, by go_num, rfl, ht3, KF.out, own_base OF.out hbase, NF, ZF.out, BF.out⟩
        case measure => simp [intOf] <;> omega

end Go.Proofs.Ytjklobhnidbinaa
