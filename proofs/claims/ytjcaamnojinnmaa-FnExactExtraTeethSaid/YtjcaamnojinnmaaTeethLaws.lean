/-
  The laws of TeethForAll and of ExtraTeeth, walked.
-/
import Derived.Test.YtjcaamnojinnmaaGridS
import Derived.Test.YtjcaamnojinnmaaExtra
import Derived.Test.YtjcaamnojinnmaaIntS
namespace Go.Proofs.Ytjcaamnojinnmaa
open Go.RowKit

set_option maxHeartbeats 1000000 in
theorem fnExactTeethForAll_walk (W : World) (A : Option Addr) (n c : Nat) (hs : List (Option Addr × Nat)) (ts : List (List (Int × Int))) (r : RowsIn W A n hs ts) (_nc : n ≤ c) (nm : n ≤ 9223372036854775807)
    (A' : Option Addr) (n' c' : Nat) (ch : List Int) (r' : Rd W W.heap.size 1 A' n' (ch.map (Value.int .i64))) (_l' : ch.length = n') (_nc' : n' ≤ c') (nm' : n' ≤ 9223372036854775807) (_w' : ∀ x ∈ ch, (Lit.int .i64 x).wf = true) (q : Int) (_wq : I64 q) :
    Calls Try.prog 3 #[.slice A n c, .slice A' n' c', .int .i64 q] W fun e w' => e = .returned (.bool true) ∧ Below W.heap.size W w' := by
  have R := Lib.hid r
  have R' := Lib.hid r'
  have SZ := Lib.hid (szGrid A n c hs ts W r nm)
  have hni' : (n' : Int) ≤ 9223372036854775807 := by omega
  clear r r'
  by_cases hn' : (n' : Int) ≤ 1048576
  case neg =>
    go_enter Try.func3, Try.ntmps3
    go_wp2
    go_ret
    exact ⟨rfl, by (repeat (first | exact Below.refl _ _ | assumption | refine Below.alloc ?_ (by first | omega | (simp <;> omega)) _ | refine Below.setCell ?_ (by first | omega | (simp <;> omega)) _ | refine Below.drew ?_ | refine Below.trans ?_ (Below.mono (by assumption) (by first | omega | (simp <;> omega)))))⟩
  have hn2' : n' ≤ 1048576 := by omega
  go_enter Try.func3, Try.ntmps3
  go_wp2_with fail
  refine SZ.out.mono ?_
  rintro e w' ⟨z, rfl, hz, rfl⟩
  rcases hz with hz | ⟨hz0, hz1, hn, hl⟩
  · go_wp2
    go_ret
    exact ⟨rfl, by (repeat (first | exact Below.refl _ _ | assumption | refine Below.alloc ?_ (by first | omega | (simp <;> omega)) _ | refine Below.setCell ?_ (by first | omega | (simp <;> omega)) _ | refine Below.drew ?_ | refine Below.trans ?_ (Below.mono (by assumption) (by first | omega | (simp <;> omega)))))⟩
  have RR := Lib.hid (R.out.rd hl)
  have S := Lib.hid (fun A c hs w h A' c' h' => sTeethForAll A n c hs ts A' n' c' ch q w h h' hn hn2')
  have I := Lib.hid (fun A c hs w h A' c' h' => iTeethForAll A n c hs ts A' n' c' ch q w h h' hn hn2')
  generalize teethV ts ch q = V at *
  clear hl
  go_wp2_with (go_at_call 10; refine (toGrid _ _ _ _ _ _ RR.out hn).mono ?_; rintro e w1 ⟨A1, c1, hs1, rfl, t1, hb1⟩)
  go_wp2_with (go_at_call 11; refine (toIntS_any _ _ _ _ _ ((R'.out.below hb1).more hb1.size) hn2').mono ?_; rintro e w2 ⟨A2, c2, rfl, u2, hb2⟩)
  have b2 := hb1.trans (hb2.mono hb1.size)
  have t2 := (t1.below hb2).rd
  clear t1
  go_wp2_with (go_at_call 9; refine (S.out _ _ _ _ t2 _ _ (Rd.of_own u2)).mono ?_; rintro e w3 ⟨rfl, hb3⟩)
  have b3 := b2.trans (hb3.mono b2.size)
  clear t2 u2 hb1 hb2 b2
  go_wp2_with (go_at_call 10; refine (toGrid _ _ _ _ _ _ (RR.out.step b3) hn).mono ?_; rintro e w4 ⟨A4, c4, hs4, rfl, t4, hb4⟩)
  have b4 := b3.trans (hb4.mono b3.size)
  go_wp2_with (go_at_call 11; refine (toIntS_any _ _ _ _ _ ((R'.out.below b4).more b4.size) hn2').mono ?_; rintro e w5 ⟨A5, c5, rfl, u5, hb5⟩)
  have b5 := b4.trans (hb5.mono b4.size)
  have t5 := (t4.below hb5).rd
  clear t4 b3 hb3 hb4
  go_wp2_with (go_at_call 12; refine (I.out _ _ _ _ t5 _ _ (Rd.of_own u5)).mono ?_; rintro e w6 ⟨rfl, hb6⟩)
  have b6 := b5.trans (hb6.mono b5.size)
  have t6 := t5.step hb6
  have u6 := own_below u5 hb6
  clear t5 u5 b4 b5 hb5 hb6
  go_wp2_with (go_at_call 10; refine (toGrid _ _ _ _ _ _ (RR.out.step b6) hn).mono ?_; rintro e w7 ⟨A7, c7, hs7, rfl, t7, hb7⟩)
  have b7 := b6.trans (hb7.mono b6.size)
  have s7 := t6.step hb7
  have u7 := own_below u6 hb7
  clear t6 u6 hb7 b6
  go_wp2_with (go_at_call 13; refine (eqGrid _ _ _ _ _ _ _ _ _ s7 t7.rd hn).mono ?_; rintro e w8 ⟨rfl, hb8⟩)
  have b8 := b7.trans (hb8.mono b7.size)
  have u8 := own_below u7 hb8
  clear s7 t7 u7 hb8 b7
  go_wp2_with (go_at_call 11; refine (toIntS_any _ _ _ _ _ ((R'.out.below b8).more b8.size) hn2').mono ?_; rintro e w9 ⟨A9, c9, rfl, u9, hb9⟩)
  have b9 := b8.trans (hb9.mono b8.size)
  have v9 := own_below u8 hb9
  clear u8 hb9 b8
  go_wp2_with (go_at_call 14; refine (eqIntS_same _ _ _ _ _ _ _ (Rd.of_own v9) (Rd.of_own u9) (by omega)).mono ?_; rintro e w10 ⟨rfl, hb10⟩)
  go_ret
  exact ⟨rfl, b9.trans (hb10.mono b9.size)⟩

set_option maxHeartbeats 1000000 in
theorem fnExactExtraTeeth_walk (W : World) (A : Option Addr) (n c : Nat) (hs : List (Option Addr × Nat)) (ts : List (List (Int × Int))) (r : RowsIn W A n hs ts) (_nc : n ≤ c) (nm : n ≤ 9223372036854775807)
    (A' : Option Addr) (n' c' : Nat) (ch : List Int) (r' : Rd W W.heap.size 1 A' n' (ch.map (Value.int .i64))) (_l' : ch.length = n') (_nc' : n' ≤ c') (nm' : n' ≤ 9223372036854775807) (_w' : ∀ x ∈ ch, (Lit.int .i64 x).wf = true) (k : Int) (_wk : I64 k) (q : Int) (_wq : I64 q) :
    Calls Try.prog 6 #[.slice A n c, .slice A' n' c', .int .i64 k, .int .i64 q] W fun e w' => e = .returned (.bool true) ∧ Below W.heap.size W w' := by
  have R := Lib.hid r
  have R' := Lib.hid r'
  have SZ := Lib.hid (szGrid A n c hs ts W r nm)
  have hni' : (n' : Int) ≤ 9223372036854775807 := by omega
  clear r r'
  by_cases hn' : (n' : Int) ≤ 1048576
  case neg =>
    go_enter Try.func6, Try.ntmps6
    go_wp2
    go_ret
    exact ⟨rfl, by (repeat (first | exact Below.refl _ _ | assumption | refine Below.alloc ?_ (by first | omega | (simp <;> omega)) _ | refine Below.setCell ?_ (by first | omega | (simp <;> omega)) _ | refine Below.drew ?_ | refine Below.trans ?_ (Below.mono (by assumption) (by first | omega | (simp <;> omega)))))⟩
  have hn2' : n' ≤ 1048576 := by omega
  go_enter Try.func6, Try.ntmps6
  go_wp2_with fail
  refine SZ.out.mono ?_
  rintro e w' ⟨z, rfl, hz, rfl⟩
  rcases hz with hz | ⟨hz0, hz1, hn, hl⟩
  · go_wp2
    go_ret
    exact ⟨rfl, by (repeat (first | exact Below.refl _ _ | assumption | refine Below.alloc ?_ (by first | omega | (simp <;> omega)) _ | refine Below.setCell ?_ (by first | omega | (simp <;> omega)) _ | refine Below.drew ?_ | refine Below.trans ?_ (Below.mono (by assumption) (by first | omega | (simp <;> omega)))))⟩
  have RR := Lib.hid (R.out.rd hl)
  have S := Lib.hid (fun A c hs w h A' c' h' => sExtraTeeth A n c hs ts A' n' c' ch k q w h h' hn hn2')
  have I := Lib.hid (fun A c hs w h A' c' h' => iExtraTeeth A n c hs ts A' n' c' ch k q w h h' hn hn2')
  generalize extraV ts ch k q = V at *
  clear hl
  go_wp2_with (go_at_call 10; refine (toGrid _ _ _ _ _ _ RR.out hn).mono ?_; rintro e w1 ⟨A1, c1, hs1, rfl, t1, hb1⟩)
  go_wp2_with (go_at_call 11; refine (toIntS_any _ _ _ _ _ ((R'.out.below hb1).more hb1.size) hn2').mono ?_; rintro e w2 ⟨A2, c2, rfl, u2, hb2⟩)
  have b2 := hb1.trans (hb2.mono hb1.size)
  have t2 := (t1.below hb2).rd
  clear t1
  go_wp2_with (go_at_call 22; refine (S.out _ _ _ _ t2 _ _ (Rd.of_own u2)).mono ?_; rintro e w3 ⟨rfl, hb3⟩)
  have b3 := b2.trans (hb3.mono b2.size)
  clear t2 u2 hb1 hb2 b2
  go_wp2_with (go_at_call 10; refine (toGrid _ _ _ _ _ _ (RR.out.step b3) hn).mono ?_; rintro e w4 ⟨A4, c4, hs4, rfl, t4, hb4⟩)
  have b4 := b3.trans (hb4.mono b3.size)
  go_wp2_with (go_at_call 11; refine (toIntS_any _ _ _ _ _ ((R'.out.below b4).more b4.size) hn2').mono ?_; rintro e w5 ⟨A5, c5, rfl, u5, hb5⟩)
  have b5 := b4.trans (hb5.mono b4.size)
  have t5 := (t4.below hb5).rd
  clear t4 b3 hb3 hb4
  go_wp2_with (go_at_call 23; refine (I.out _ _ _ _ t5 _ _ (Rd.of_own u5)).mono ?_; rintro e w6 ⟨rfl, hb6⟩)
  have b6 := b5.trans (hb6.mono b5.size)
  have t6 := t5.step hb6
  have u6 := own_below u5 hb6
  clear t5 u5 b4 b5 hb5 hb6
  go_wp2_with (go_at_call 10; refine (toGrid _ _ _ _ _ _ (RR.out.step b6) hn).mono ?_; rintro e w7 ⟨A7, c7, hs7, rfl, t7, hb7⟩)
  have b7 := b6.trans (hb7.mono b6.size)
  have s7 := t6.step hb7
  have u7 := own_below u6 hb7
  clear t6 u6 hb7 b6
  go_wp2_with (go_at_call 13; refine (eqGrid _ _ _ _ _ _ _ _ _ s7 t7.rd hn).mono ?_; rintro e w8 ⟨rfl, hb8⟩)
  have b8 := b7.trans (hb8.mono b7.size)
  have u8 := own_below u7 hb8
  clear s7 t7 u7 hb8 b7
  go_wp2_with (go_at_call 11; refine (toIntS_any _ _ _ _ _ ((R'.out.below b8).more b8.size) hn2').mono ?_; rintro e w9 ⟨A9, c9, rfl, u9, hb9⟩)
  have b9 := b8.trans (hb9.mono b8.size)
  have v9 := own_below u8 hb9
  clear u8 hb9 b8
  go_wp2_with (go_at_call 14; refine (eqIntS_same _ _ _ _ _ _ _ (Rd.of_own v9) (Rd.of_own u9) (by omega)).mono ?_; rintro e w10 ⟨rfl, hb10⟩)
  go_ret
  exact ⟨rfl, b9.trans (hb10.mono b9.size)⟩

end Go.Proofs.Ytjcaamnojinnmaa
