/-
  The laws' own helpers on cylinders: a copy, a comparison of two that hold the same, the bound on the length, the marking of the pins. At most 1048576 pins.
-/
import Derived.Test.YtjklobhnidbinaaMarkPin
namespace Go.Proofs.Ytjklobhnidbinaa
open Go.ChangeShapes Go.WideShapes Go.ChangeAt Go.RowKit Go.Joins Go.Deep

/-- a cylinder that a call made: its row is its own -/
def MadeC (w : World) (s t : Int) (n : Nat) (xs : List Value) (E : Ending) (w' : World) : Prop :=
  ∃ A c, E = .returned (.agg #[.int .i64 s, .int .i64 t, .slice A n c]) ∧ w'.ownsRow w.heap.size 50 2 (.slice A n c) n xs ∧ Below w.heap.size w w'

theorem own_setFar {w : World} {base size n : Nat} {v : Value} {xs : List Value} {e : TypeId} (h : w.ownsRow base e size v n xs) {p : Addr} (hp : p.block < base) (u : Value) : (w.setCell p u).ownsRow base e size v n xs := by
  refine h.kept (w' := w.setCell p u) (row := some p.block) ⟨rfl, rfl, rfl, by simp [World.setCell], fun k _ hk => Below.heap_setCell _ _ _ _ (fun e => hk (by rw [e]))⟩ ?_
  cases e : v.ownBlock with
  | none => exact Or.inl rfl
  | some b => right; intro e2; injection e2 with e2; have := (h.lt b e).1; omega

theorem toCyl_any (s t : Int) (A : Option Addr) (n c : Nat) (xs : List (Int × Int)) (w : World) (h : Rd w w.heap.size 2 A n (pc xs)) (hn : n ≤ 1048576) :
    Calls Try.prog 10 #[.agg #[.int .i64 s, .int .i64 t, .slice A n c]] w (MadeC w s t n (pc xs)) := by
  have H := Lib.hid h
  have TP := Lib.hid (fun w h => toPinS_any A n c xs w h hn)
  clear h
  go_enter Try.func10, Try.ntmps10
  go_wp2_with fail
  refine (TP.out _ ?_).mono ?_
  · exact (H.out.below (by (repeat (first | exact Below.refl _ _ | assumption | refine Below.alloc ?_ (by first | omega | (simp <;> omega)) _ | refine Below.setCell ?_ (by first | omega | (simp <;> omega)) _ | refine Below.drew ?_ | refine Below.trans ?_ (Below.mono (by assumption) (by first | omega | (simp <;> omega))))))).more (by simp; omega)
  rintro e w1 ⟨A1, c1, rfl, ho, hb1⟩
  have BL : Below w.heap.size w w1 := by (repeat (first | exact Below.refl _ _ | assumption | refine Below.alloc ?_ (by first | omega | (simp <;> omega)) _ | refine Below.setCell ?_ (by first | omega | (simp <;> omega)) _ | refine Below.drew ?_ | refine Below.trans ?_ (Below.mono (by assumption) (by first | omega | (simp <;> omega)))))
  obtain ⟨hc, hf⟩ := bcell hb1
  have HO := Lib.hid (own_base ho (show w.heap.size + 1 + 1 + 1 ≤ _ by simp))
  clear ho hb1
  go_wp2
  refine bodyPost_ret (v := .agg #[.int .i64 s, .int .i64 t, .slice A1 n c1]) (by simp [results, Try.results10, go_sem, hc]) rfl ⟨A1, c1, rfl, own_base (own_setFar (own_setFar (own_setFar (own_setFar HO.out (by simp) _) (by simp) _) (by simp) _) (by simp) _) (by omega), ?_⟩
  exact (((BL.setCell (by simp; omega) _).setCell (by simp) _).setCell (by simp) _).setCell (by simp) _

theorem eqCyl_same (s t : Int) (A A' : Option Addr) (n c c' : Nat) (xs : List (Int × Int)) (w : World) (h : Rd w w.heap.size 2 A n (pc xs)) (h' : Rd w w.heap.size 2 A' n (pc xs)) (hn : n ≤ 1048576) :
    Calls Try.prog 12 #[.agg #[.int .i64 s, .int .i64 t, .slice A n c], .agg #[.int .i64 s, .int .i64 t, .slice A' n c']] w fun e w' => e = .returned (.bool true) ∧ Below w.heap.size w w' := by
  have H := Lib.hid h
  have H' := Lib.hid h'
  have TP := Lib.hid (fun w h h' => eqPinS_same A A' n c c' xs w h h' (by omega))
  clear h h'
  go_enter Try.func12, Try.ntmps12
  go_wp2_with fail
  refine (TP.out _ ?_ ?_).mono ?_
  · exact (H.out.below (by (repeat (first | exact Below.refl _ _ | assumption | refine Below.alloc ?_ (by first | omega | (simp <;> omega)) _ | refine Below.setCell ?_ (by first | omega | (simp <;> omega)) _ | refine Below.drew ?_ | refine Below.trans ?_ (Below.mono (by assumption) (by first | omega | (simp <;> omega))))))).more (by simp; omega)
  · exact (H'.out.below (by (repeat (first | exact Below.refl _ _ | assumption | refine Below.alloc ?_ (by first | omega | (simp <;> omega)) _ | refine Below.setCell ?_ (by first | omega | (simp <;> omega)) _ | refine Below.drew ?_ | refine Below.trans ?_ (Below.mono (by assumption) (by first | omega | (simp <;> omega))))))).more (by simp; omega)
  rintro e w1 ⟨rfl, hb1⟩
  go_wp2
  go_ret
  exact ⟨rfl, by (repeat (first | exact Below.refl _ _ | assumption | refine Below.alloc ?_ (by first | omega | (simp <;> omega)) _ | refine Below.setCell ?_ (by first | omega | (simp <;> omega)) _ | refine Below.drew ?_ | refine Below.trans ?_ (Below.mono (by assumption) (by first | omega | (simp <;> omega)))))⟩

theorem szCyl_any (s t : Int) (A : Option Addr) (n c : Nat) (m : Nat) (w : World) (hn : n ≤ 9223372036854775807) (hm : m ≤ 1048576) :
    Calls Try.prog 8 #[.agg #[.int .i64 s, .int .i64 t, .slice A n c], .int .i64 m] w fun e w' => e = .returned (.int .i64 (if n ≤ m then (m : Int) - n else -1)) ∧ Below w.heap.size w w' := by
  have TP := Lib.hid (fun w => szPinS_any A n c m w hn hm)
  by_cases h : n ≤ m
  · rw [if_pos h] at TP ⊢
    have hz : ¬ ((m : Int) - n < 0) := by omega
    go_enter Try.func8, Try.ntmps8
    go_wp2_with (go_at_call 29; refine (TP.out _).mono ?_; rintro e w' ⟨rfl, rfl⟩)
    go_ret
    exact ⟨rfl, by (repeat (first | exact Below.refl _ _ | assumption | refine Below.alloc ?_ (by first | omega | (simp <;> omega)) _ | refine Below.setCell ?_ (by first | omega | (simp <;> omega)) _ | refine Below.drew ?_ | refine Below.trans ?_ (Below.mono (by assumption) (by first | omega | (simp <;> omega)))))⟩
  · rw [if_neg h] at TP ⊢
    go_enter Try.func8, Try.ntmps8
    go_wp2_with (go_at_call 29; refine (TP.out _).mono ?_; rintro e w' ⟨rfl, rfl⟩)
    go_ret
    exact ⟨rfl, by (repeat (first | exact Below.refl _ _ | assumption | refine Below.alloc ?_ (by first | omega | (simp <;> omega)) _ | refine Below.setCell ?_ (by first | omega | (simp <;> omega)) _ | refine Below.drew ?_ | refine Below.trans ?_ (Below.mono (by assumption) (by first | omega | (simp <;> omega)))))⟩

theorem markCyl_any (s t : Int) (A : Option Addr) (n c base : Nat) (k0 : Int) (xs : List (Int × Int)) (w : World) (h : w.ownsRow base 50 2 (.slice A n c) n (pc xs)) (hn : n ≤ 1048576) (hk : 0 ≤ k0 ∧ k0 ≤ 1000000000) :
    Calls Try.prog 13 #[.agg #[.int .i64 s, .int .i64 t, .slice A n c], .int .i64 k0] w fun e w' => e = .returned (.int .i64 (k0 + 2 * n)) ∧ w'.ownsRow base 50 2 (.slice A n c) n (pc (marksP k0 n)) ∧ w.grownBy w' (Value.ownBlock (.slice A n c)) := by
  have TP := Lib.hid (fun w h => markPinS_any A n c base k0 xs w h hn hk)
  have H := Lib.hid h
  clear h
  go_enter Try.func13, Try.ntmps13
  go_wp2_with fail
  refine (TP.out _ (H.out.alloc _)).mono ?_
  rintro e w1 ⟨rfl, ho, hg⟩
  have HO := Lib.hid ho
  have HG := Lib.hid hg
  clear ho hg
  go_wp2
  go_ret
  exact ⟨rfl, HO.out, grown_trans (World.grownBy_alloc w _ _) HG.out⟩

theorem heldCyl_any (s t : Int) (A : Option Addr) (n c : Nat) (k0 : Int) (w : World) (h : Rd w w.heap.size 2 A n (pc (marksP k0 n))) (hn : n ≤ 1048576) (hk : 0 ≤ k0 ∧ k0 ≤ 1000000000) :
    Calls Try.prog 14 #[.agg #[.int .i64 s, .int .i64 t, .slice A n c], .int .i64 k0] w fun e w' => e = .returned (.int .i64 (k0 + 2 * n)) ∧ Below w.heap.size w w' := by
  have TP := Lib.hid (fun w h => heldPinS_any A n c k0 w h hn hk)
  have H := Lib.hid h
  have hz : ¬ (k0 + 2 * (n : Int) < 0) := by omega
  clear h
  go_enter Try.func14, Try.ntmps14
  go_wp2_with fail
  refine (TP.out _ ((H.out.alloc (Nat.le_refl _) _).more (by simp))).mono ?_
  rintro e w1 ⟨rfl, hb1⟩
  go_wp2
  go_ret
  exact ⟨rfl, by (repeat (first | exact Below.refl _ _ | assumption | refine Below.alloc ?_ (by first | omega | (simp <;> omega)) _ | refine Below.setCell ?_ (by first | omega | (simp <;> omega)) _ | refine Below.drew ?_ | refine Below.trans ?_ (Below.mono (by assumption) (by first | omega | (simp <;> omega)))))⟩

theorem Blk.drew1 {w : World} {g : Nat} {t : TypeId} {cs : Array Value} (h : Blk w g t cs) : Blk w.drew g t cs := h
theorem own_ne_hi {w : World} {base size n g : Nat} {v : Value} {xs : List Value} {e : TypeId} (h : w.ownsRow base e size v n xs) (hg : w.heap.size ≤ g) : some g ≠ v.ownBlock := fun k => by have := (h.lt g k.symm).2; omega

end Go.Proofs.Ytjklobhnidbinaa
