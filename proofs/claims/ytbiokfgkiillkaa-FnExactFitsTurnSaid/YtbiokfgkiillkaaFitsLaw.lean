/-
  The law of FitsTurn, walked.
-/
import Derived.Test.YtbiokfgkiillkaaFits
namespace Go.Proofs.Ytbiokfgkiillkaa
open Go.RowKit

theorem fnExactFitsTurn_walk (W : World) (A : Option Addr) (n c : Nat) (xs : List (Int × Int)) (r : Rd W W.heap.size 2 A n (pc xs)) (_l : xs.length = n) (_nc : n ≤ c) (nm : n ≤ 9223372036854775807)
    (_w : ∀ x ∈ xs, I64 x.1 ∧ I64 x.2) (k : Int) (_wk : I64 k) :
    Calls Try.prog 8 #[.slice A n c, .int .i64 k] W fun e w' => e = .returned (.bool true) ∧ Below W.heap.size W w' := by
  by_cases hn : n ≤ 1048576
  case neg =>
    have R := Lib.hid r
    clear r
    have hs := fun w => szNoteS_any A n c 1048576 w nm (by omega)
    simp only [if_neg hn] at hs
    have HS := Lib.hid hs
    clear hs
    go_enter Try.func8, Try.ntmps8
    go_wp2_with (go_at_call 16; refine (HS.out _).mono ?_; rintro e w' ⟨rfl, rfl⟩)
    go_ret
    exact ⟨rfl, by (repeat (first | exact Below.refl _ _ | assumption | refine Below.alloc ?_ (by first | omega | (simp <;> omega)) _ | refine Below.setCell ?_ (by first | omega | (simp <;> omega)) _ | refine Below.drew ?_ | refine Below.trans ?_ (Below.mono (by assumption) (by first | omega | (simp <;> omega)))))⟩
  have S := Lib.hid (fun A c w h (_hc : n ≤ c) => sFitsTurn A n c xs k w h hn)
  have I := Lib.hid (fun A c w h (_hc : n ≤ c) => iFitsTurn A n c xs k w h hn)
  obtain ⟨x, hx⟩ : ∃ x, x = fitsB xs k := ⟨_, rfl⟩
  rw [← hx] at S I
  have R := Lib.hid r
  have hs := fun w => szNoteS_any A n c 1048576 w nm (by omega)
  simp only [if_pos hn] at hs
  have HS := Lib.hid hs
  have hni : (n : Int) ≤ 1048576 := by omega
  have hn0 : (0 : Int) ≤ n := by omega
  clear r hx hs
  go_enter Try.func8, Try.ntmps8
  go_wp2_with (go_at_call 16; refine (HS.out _).mono ?_; rintro e w' ⟨rfl, rfl⟩)
  go_wp2_with (go_at_call 18; refine (toNoteS_any _ _ _ _ _ R.out hn).mono ?_; rintro e w1 ⟨A1, c1, rfl, ho1, hb1⟩)
  go_wp2_with (go_at_call 25; refine (S.out _ _ _ (Rd.of_own ho1) (own_capS ho1)).mono ?_; rintro e w2 ⟨rfl, hb2⟩; have z1 := hb1.size; have z2 := hb2.size; have b2 := hb1.trans (hb2.mono z1))
  go_wp2_with (go_at_call 18; refine (toNoteS_any _ _ _ _ _ ((R.out.below b2).more b2.size) hn).mono ?_; rintro e w3 ⟨A3, c3, rfl, ho3, hb3⟩; have b3 := b2.trans (hb3.mono b2.size))
  go_wp2_with (go_at_call 26; refine (I.out _ _ _ (Rd.of_own ho3) (own_capS ho3)).mono ?_; rintro e w4 ⟨rfl, hb4⟩; have b4 := b3.trans (hb4.mono b3.size); have ho4 := own_below ho3 hb4)
  go_wp2_with (go_at_call 18; refine (toNoteS_any _ _ _ _ _ ((R.out.below b4).more b4.size) hn).mono ?_; rintro e w5 ⟨A5, c5, rfl, ho5, hb5⟩; have b5 := b4.trans (hb5.mono b4.size); have ho4b := own_below ho4 hb5)
  go_wp2_with (go_at_call 20; refine (eqNoteS_same _ _ _ _ _ _ _ (Rd.of_own ho4b) (Rd.of_own ho5) (by omega)).mono ?_; rintro e w6 ⟨rfl, hb6⟩)
  go_ret
  exact ⟨rfl, b5.trans (hb6.mono b5.size)⟩

end Go.Proofs.Ytbiokfgkiillkaa
