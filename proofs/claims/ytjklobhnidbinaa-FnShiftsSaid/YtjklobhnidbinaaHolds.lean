/-
  A slice of cylinders, read in a world; and what HoldsTunes gives. No program in sight but for the types' shapes.
-/
import Derived.Test.YtjklobhnidbinaaPairs
import Derived.Test.YtjklobhnidbinaaEndM
import Derived.Test.YtjklobhnidbinaaEndC
namespace Go.Proofs.Ytjklobhnidbinaa
open Go.RowKit

abbrev Cy := Int × Int × List (Int × Int)
/-- the cylinders of parts[0] .. parts[k-1] on one, if they fit -/
def holdsN (cs : List Cy) (d : Int) : Nat → CyO
  | 0 => none
  | k + 1 => match cs[k]? with
    | none => none
    | some c => if k = 0 then shiftC c.1 c.2.1 c.2.2 d 0 else match holdsN cs d k with
      | none => none
      | some o => match shiftC c.1 c.2.1 c.2.2 d k with
        | none => none
        | some x => mergeC o.1 o.2.1 o.2.2 x.1 x.2.1 x.2.2
def holdsC (cs : List Cy) (d : Int) : CyO := if 1 ≤ cs.length ∧ (cs.length : Int) ≤ d then holdsN cs d cs.length else none
theorem holds_one {cs : List Cy} {d : Int} {c : Cy} (h : cs[0]? = some c) : holdsN cs d 1 = shiftC c.1 c.2.1 c.2.2 d 0 := by
  unfold holdsN
  rw [h]
  rfl
theorem holds_step {cs : List Cy} {d : Int} {k : Nat} {c : Cy} {o x : Cy} (hk : 0 < k) (h : cs[k]? = some c) (ho : holdsN cs d k = some o) (hx : shiftC c.1 c.2.1 c.2.2 d k = some x) : holdsN cs d (k + 1) = mergeC o.1 o.2.1 o.2.2 x.1 x.2.1 x.2.2 := by
  rw [holdsN, h]
  simp only
  rw [if_neg (by omega), ho, hx]
theorem holds_bad {cs : List Cy} {d : Int} {k : Nat} {c : Cy} (hk : 0 < k) (h : cs[k]? = some c) (hx : shiftC c.1 c.2.1 c.2.2 d k = none) : holdsN cs d (k + 1) = none := by
  rw [holdsN, h]
  simp only
  rw [if_neg (by omega), hx]
  split <;> rfl
theorem holds_none1 {cs : List Cy} {d : Int} {k : Nat} (hk : 0 < k) (h : holdsN cs d k = none) : holdsN cs d (k + 1) = none := by
  rw [holdsN]
  split
  · rfl
  · rw [if_neg (by omega), h]
theorem holds_none {cs : List Cy} {d : Int} {k : Nat} (hk : 0 < k) (h : holdsN cs d k = none) : ∀ {m : Nat}, k ≤ m → holdsN cs d m = none
  | m, hm => by
    by_cases e : k = m
    · subst e; exact h
    · obtain ⟨j, rfl⟩ : ∃ j, m = j + 1 := ⟨m - 1, by omega⟩
      exact holds_none1 (by omega) (holds_none hk h (show k ≤ j by omega))
theorem holdsC_yes {cs : List Cy} {d : Int} (h : 1 ≤ cs.length ∧ (cs.length : Int) ≤ d) : holdsC cs d = holdsN cs d cs.length := by unfold holdsC; rw [if_pos h]
theorem holdsC_no {cs : List Cy} {d : Int} (h : ¬ (1 ≤ cs.length ∧ (cs.length : Int) ≤ d)) : holdsC cs d = none := by unfold holdsC; rw [if_neg h]
theorem mergeO_len (o x : Cy) : (cyP (mergeC o.1 o.2.1 o.2.2 x.1 x.2.1 x.2.2)).length ≤ 100 := mergeC_len _ _ _ _ _ _
theorem holdsN_len (cs : List Cy) (d : Int) : ∀ k, (cyP (holdsN cs d k)).length ≤ 100
  | 0 => by simp [holdsN, cyP]
  | k + 1 => by
    rw [holdsN]
    split
    · simp [cyP]
    · split
      · exact shiftC_len _ _ _ _ _
      · split
        · simp [cyP]
        · split
          · simp [cyP]
          · exact mergeC_len _ _ _ _ _ _
theorem holdsC_len (cs : List Cy) (d : Int) : (cyP (holdsC cs d)).length ≤ 100 := by
  unfold holdsC
  split
  · exact holdsN_len _ _ _
  · simp [cyP]

/-- the slice '.slice A n c' of cylinders holds cs; hs: where their pins lie, and their capacities; all below block B -/
def RdCS (w : World) (B : Nat) (A : Option Addr) (n : Nat) (hs : List (Option Addr × Nat)) (cs : List Cy) : Prop :=
  hs.length = n ∧ cs.length = n ∧ (0 < n → ∃ b o, A = some ⟨b, o, none⟩ ∧ b < B ∧ ∀ (k : Nat) (h : Option Addr × Nat) (c : Cy), hs[k]? = some h → cs[k]? = some c → w.cell? ⟨b, o + k * 3, none⟩ = some (.int .i64 c.1) ∧ w.cell? ⟨b, o + k * 3 + 1, none⟩ = some (.int .i64 c.2.1) ∧ w.cell? ⟨b, o + k * 3 + 2, none⟩ = some (.slice h.1 c.2.2.length h.2)) ∧
    ∀ (k : Nat) (h : Option Addr × Nat) (c : Cy), hs[k]? = some h → cs[k]? = some c → Rd w B 2 h.1 c.2.2.length (pc c.2.2) ∧ c.2.2.length ≤ h.2 ∧ c.2.2.length ≤ 1048576
section
variable {w w' : World} {B B' n : Nat} {A : Option Addr} {hs : List (Option Addr × Nat)} {cs : List Cy}
theorem RdCS.keep (h : RdCS w B A n hs cs) (hk : ∀ p : Addr, p.block < B → w'.cell? p = w.cell? p) : RdCS w' B A n hs cs :=
  ⟨h.1, h.2.1, fun hn => by
    obtain ⟨b, o, e, hb, hc⟩ := h.2.2.1 hn
    exact ⟨b, o, e, hb, fun k x t h1 h2 => by
      obtain ⟨c0, c1, c2⟩ := hc k x t h1 h2
      exact ⟨(hk _ hb).trans c0, (hk _ hb).trans c1, (hk _ hb).trans c2⟩⟩, fun k x t h1 h2 => by
    obtain ⟨r1, r2, r3⟩ := h.2.2.2 k x t h1 h2
    exact ⟨r1.keep hk, r2, r3⟩⟩
theorem RdCS.more (h : RdCS w B A n hs cs) (hB : B ≤ B') : RdCS w B' A n hs cs :=
  ⟨h.1, h.2.1, fun hn => by
    obtain ⟨b, o, e, hb, hc⟩ := h.2.2.1 hn
    exact ⟨b, o, e, by omega, hc⟩, fun k x t h1 h2 => by
    obtain ⟨r1, r2, r3⟩ := h.2.2.2 k x t h1 h2
    exact ⟨r1.more hB, r2, r3⟩⟩
theorem RdCS.below (h : RdCS w B A n hs cs) (hb : Below B w w') : RdCS w' B A n hs cs := h.keep fun _ hp => hb.cell hp
theorem RdCS.step (h : RdCS w w.heap.size A n hs cs) (hb : Below w.heap.size w w') : RdCS w' w'.heap.size A n hs cs := (h.below hb).more hb.size
theorem RdCS.at (h : RdCS w B A n hs cs) {k : Nat} (hk : k < n) :
    ∃ b o a c s t l, A = some ⟨b, o, none⟩ ∧ b < B ∧ hs[k]? = some (a, c) ∧ cs[k]? = some (s, t, l) ∧ w.cell? ⟨b, o + k * 3, none⟩ = some (.int .i64 s) ∧ w.cell? ⟨b, o + k * 3 + 1, none⟩ = some (.int .i64 t) ∧ w.cell? ⟨b, o + k * 3 + 2, none⟩ = some (.slice a l.length c) ∧ Rd w B 2 a l.length (pc l) ∧ l.length ≤ c ∧ l.length ≤ 1048576 := by
  obtain ⟨b, o, e, hb, hc⟩ := h.2.2.1 (by omega)
  obtain ⟨⟨a, c⟩, h1⟩ : ∃ p, hs[k]? = some p := ⟨_, List.getElem?_eq_getElem (by rw [h.1]; exact hk)⟩
  obtain ⟨⟨s, t, l⟩, h2⟩ : ∃ t, cs[k]? = some t := ⟨_, List.getElem?_eq_getElem (by rw [h.2.1]; exact hk)⟩
  obtain ⟨r1, r2, r3⟩ := h.2.2.2 k _ _ h1 h2
  obtain ⟨c0, c1, c2⟩ := hc k _ _ h1 h2
  exact ⟨b, o, a, c, s, t, l, e, hb, h1, h2, c0, c1, c2, r1, r2, r3⟩
end

end Go.Proofs.Ytjklobhnidbinaa
