/-
  The law FnGovernors, walked: a steady speed stays, and more force is never slower. True for all bytes.
-/
import Derived.Test.YtcnnkdpfigckoaaGov
import Derived.Test.YtcnnkdpfigckoaaEven
import Derived.Test.YtcnnkdpfigckoaaDraw
import Derived.Deep.RegionWith
import Derived.Deep.RegionHeld3
import Derived.Deep.DeepCutAuto
namespace Go.Proofs.Ytcnnkdpfigckoaa
open Go.RowKit

/-- a call with one answer, at every world, that it leaves alone -/
def Same (f : FuncId) (args : Array Value) (v : Value) : Prop := ∀ w : World, Calls Try.prog f args w fun e w' => e = .returned v ∧ w = w'
theorem same_of {f : FuncId} {args : Array Value} {P : Int → Prop} {v : Int} (h : ∀ w, Calls Try.prog f args w (RetInt P w)) (hp : ∀ r, P r → r = v) : Same f args (.int .i64 v) :=
  fun w => (h w).mono fun _ _ ⟨r, he, hr, hw⟩ => ⟨by rw [he, hp r hr], hw⟩

theorem govB_in {v f b : Int} (h : 0 ≤ v ∧ v ≤ 100000 ∧ 0 ≤ f ∧ f ≤ 10000 ∧ 0 ≤ b ∧ b ≤ 100) : govB v f b = true := by simp [govB, inB]; omega
theorem next_same {v f b : Int} (h : 0 ≤ v ∧ v ≤ 100000 ∧ 0 ≤ f ∧ f ≤ 10000 ∧ 0 ≤ b ∧ b ≤ 100) : Same 34 #[.int .i64 v, .int .i64 f, .int .i64 b] (.int .i64 (nxt v f b)) := fun w => by
  have := iNextSpeed v f b w
  rw [show NextZ v f b = nxt v f b by unfold NextZ; rw [if_pos (govB_in h)]] at this
  exact this
theorem after_same {v f b : Int} (k : Nat) (hk : k ≤ 1000) (h : 0 ≤ v ∧ v ≤ 100000 ∧ 0 ≤ f ∧ f ≤ 10000 ∧ 0 ≤ b ∧ b ≤ 100) : Same 36 #[.int .i64 v, .int .i64 f, .int .i64 b, .int .i64 k] (.int .i64 (advN f b k v)) := fun w => by
  have := iSpeedAfter v f b k w
  rw [show AfterZ v f b k = advN f b k v by unfold AfterZ; rw [if_pos ⟨govB_in h, inB_true (by omega)⟩]; simp] at this
  exact this
theorem steps_same {v f b r : Int} (h : 0 ≤ v ∧ v ≤ 100000 ∧ 0 ≤ f ∧ f ≤ 10000 ∧ 1 ≤ b ∧ b ≤ 100) (hr : StepsIs v f b r) : Same 40 #[.int .i64 v, .int .i64 f, .int .i64 b] (.int .i64 r) :=
  same_of (fun w => iStepsUntilSteady v f b w) fun r' h' => by
    unfold StepsOfGov at h'
    rw [if_pos ⟨govB_in (by omega), inB_true (by omega)⟩] at h'
    exact h'.one hr

/-- what the law asks of a steady speed -/
theorem gov_steady {f b s n : Int} (h : SteadyOf f b s) (hf : 0 ≤ f ∧ f ≤ 255) (hb : 1 ≤ b ∧ b ≤ 60) (hn : 0 ≤ n ∧ n ≤ 29) :
    s = -1 ∨ (0 ≤ s ∧ s ≤ 100000 ∧ Same 34 #[.int .i64 s, .int .i64 f, .int .i64 b] (.int .i64 s) ∧ Same 36 #[.int .i64 s, .int .i64 f, .int .i64 b, .int .i64 n] (.int .i64 s) ∧
      Same 40 #[.int .i64 s, .int .i64 f, .int .i64 b] (.int .i64 0) ∧ (0 < s → ∃ t, Same 34 #[.int .i64 (s - 1), .int .i64 f, .int .i64 b] (.int .i64 t) ∧ t ≠ s - 1)) := by
  unfold SteadyOf at h
  rw [if_pos ⟨inB_true (by omega), inB_true (by omega)⟩] at h
  rcases h with ⟨h0, h1, h2, h3⟩ | ⟨h0, _⟩
  · right
    have hx := nxt_fix.2 h2
    refine ⟨h0, h1, ?_, ?_, ?_, fun hs => ⟨_, next_same (by omega), fun e => h3 (s - 1) (by omega) (by omega) (nxt_fix.1 e)⟩⟩
    · have := next_same (v := s) (f := f) (b := b) (by omega)
      rw [hx] at this
      exact this
    · obtain ⟨k, rfl⟩ := Int.eq_ofNat_of_zero_le hn.1
      have := after_same (v := s) (f := f) (b := b) k (by omega) (by omega)
      rw [advN_fix h1 hx] at this
      exact this
    · exact steps_same (by omega) (Or.inl ⟨0, rfl, by omega, hx, fun j hj => by omega⟩)
  · exact Or.inl h0

theorem gov_steps {v f b k : Int} (h : StepsOfGov v f b k) (hv : 0 ≤ v ∧ v ≤ 765) (hf : 0 ≤ f ∧ f ≤ 255) (hb : 1 ≤ b ∧ b ≤ 60) :
    k = -1 ∨ (0 ≤ k ∧ k ≤ 1000 ∧ ∃ y, 0 ≤ y ∧ y ≤ 100000 ∧ Same 36 #[.int .i64 v, .int .i64 f, .int .i64 b, .int .i64 k] (.int .i64 y) ∧ Same 34 #[.int .i64 y, .int .i64 f, .int .i64 b] (.int .i64 y) ∧
      (0 < k → ∃ z u, Same 36 #[.int .i64 v, .int .i64 f, .int .i64 b, .int .i64 (k - 1)] (.int .i64 z) ∧ Same 34 #[.int .i64 z, .int .i64 f, .int .i64 b] (.int .i64 u) ∧ u ≠ z)) := by
  unfold StepsOfGov at h
  rw [if_pos ⟨govB_in (by omega), inB_true (by omega)⟩] at h
  rcases h with ⟨m, rfl, h1, h2, h3⟩ | ⟨h0, _⟩
  · right
    have hy := advN_bd (f := f) (b := b) (by omega) (by omega) (by omega) (by omega) m v (by omega) (by omega)
    refine ⟨by omega, by omega, advN f b m v, hy.1, hy.2, after_same m h1 (by omega), ?_, fun hm => ?_⟩
    · have := next_same (v := advN f b m v) (f := f) (b := b) (by omega)
      rw [h2] at this
      exact this
    · obtain ⟨j, rfl⟩ : ∃ j, m = j + 1 := ⟨m - 1, by omega⟩
      have hz := advN_bd (f := f) (b := b) (by omega) (by omega) (by omega) (by omega) j v (by omega) (by omega)
      refine ⟨advN f b j v, _, ?_, next_same (by omega), h3 j (by omega)⟩
      have := after_same (v := v) (f := f) (b := b) j (by omega) (by omega)
      rw [show (((j + 1 : Nat) : Int) - 1) = j by omega]
      exact this
  · exact Or.inl h0

theorem gov_more {v f b : Int} (hv : 0 ≤ v ∧ v ≤ 765) (hf : 0 ≤ f ∧ f ≤ 255) (hb : 1 ≤ b ∧ b ≤ 60) :
    0 ≤ nxt v f b ∧ nxt v f b ≤ v + f ∧ nxt v f b ≤ nxt v (f + 5) b ∧ nxt v f (b + 1) ≤ nxt v f b ∧ advN f b 1 v = nxt v f b := by
  have h := nxt_bd (v := v) (f := f) (b := b) (by omega) (by omega) (by omega) (by omega) (by omega) (by omega)
  refine ⟨h.1, h.2.1, by unfold nxt; omega, ?_, ?_⟩
  · unfold nxt
    rw [Int.add_mul]
    have := (mul_bd (b := b) (v := v) (by omega) (by omega) (by omega) (by omega)).1
    omega
  · show adv f b v = _
    unfold adv
    omega

theorem gov_ten : Same 38 #[.int .i64 10, .int .i64 10] (.int .i64 100) :=
  same_of (fun w => iSteadySpeed 10 10 w) fun r h => by
    have k : SteadyOf 10 10 100 := by
      unfold SteadyOf
      rw [if_pos ⟨inB_true (by omega), inB_true (by omega)⟩]
      exact Or.inl ⟨by omega, by omega, by omega, fun s _ _ => by omega⟩
    exact h.one k

theorem rd_lit {w : World} {g n size : Nat} {t : TypeId} {cs : Array Value} (h : Blk w g t cs) (hs : cs.size = n * size) : Rd w w.heap.size size (some ⟨g, 0, none⟩) n cs.toList :=
  ⟨by simpa using hs, fun _ => ⟨g, 0, rfl, h.lt, fun j u hu => by
    rw [Nat.zero_add, h.cell j]
    simpa using hu⟩⟩
theorem even_lit (a b p : Int) (q : Bool) (h : evenB [a, b] p = q) (w : World) (g : Nat) (hg : w.heap.size = g) :
    Calls Try.prog 43 #[.slice (some ⟨g, 0, none⟩) 2 2, .int .i64 p] (w.alloc (.cells #[.int .i64 a, .int .i64 b] 3)) fun e w' => e = .returned (.bool q) ∧ Below (w.alloc (.cells #[.int .i64 a, .int .i64 b] 3)).heap.size (w.alloc (.cells #[.int .i64 a, .int .i64 b] 3)) w' := by
  subst hg h
  exact iIsEven _ 2 2 [a, b] p _ (rd_lit (Blk.new _ _ _) (by simp)) (by omega)

set_option maxHeartbeats 8000000 in
set_option maxRecDepth 100000 in
theorem fnGovernors_walk (W : World) (A : Option Addr) (n c : Nat) (bs : List Int) (r : Rd W W.heap.size 1 A n (bs.map (Value.int .u8))) (_l : bs.length = n) (_nc : n ≤ c) (_nm : n ≤ 9223372036854775807)
    (wb : ∀ x ∈ bs, (Lit.int .u8 x).wf = true) :
    Calls Try.prog 15 #[.slice A n c] W fun e w' => e = .returned (.bool true) ∧ Below W.heap.size W w' := by
  have hbs : ∀ x ∈ bs, 0 ≤ x ∧ x ≤ 255 := fun x hx => bounds_u8 (wb x hx)
  have R := Lib.hid r
  have HBS := Lib.hid hbs
  clear r hbs wb
  by_cases hn : n ≤ 1048576
  case neg =>
    have hb : decide (1048576 < n) = true := by simp; omega
    go_enter Try.func15, Try.ntmps15
    go_wp2_with (go_at_call 30; refine (big_any _ _ _ _).mono ?_; rintro e w' ⟨rfl, rfl⟩; rw [hb])
    go_ret
    exact ⟨rfl, Below.refl _ _⟩
  have hb : decide (1048576 < n) = false := by simp; omega
  have HB := Lib.hid hb
  clear hb
  go_enter Try.func15, Try.ntmps15
  go_wp2_with fail
  refine (big_any _ _ _ _).mono ?_
  rintro e w' ⟨rfl, rfl⟩
  rw [HB.out]
  go_wp2_with fail
  refine (at_any _ _ _ bs _ _ _ R.out HBS.out hn (by omega) (by omega)).mono ?_
  rintro e w' ⟨f, rfl, f0, f1, rfl⟩
  go_wp2_with fail
  refine (at_any _ _ _ bs _ _ _ R.out HBS.out hn (by omega) (by omega)).mono ?_
  rintro e w' ⟨x1, rfl, x10, x11, rfl⟩
  go_wp2_with fail
  refine (at_any _ _ _ bs _ _ _ R.out HBS.out hn (by omega) (by omega)).mono ?_
  rintro e w' ⟨x2, rfl, x20, x21, rfl⟩
  go_wp2_with fail
  refine (at_any _ _ _ bs _ _ _ R.out HBS.out hn (by omega) (by omega)).mono ?_
  rintro e w' ⟨x3, rfl, x30, x31, rfl⟩
  obtain ⟨b, hb⟩ : ∃ b, b = 1 + x1 % 60 := ⟨_, rfl⟩
  obtain ⟨v, hv⟩ : ∃ v, v = x2 * 3 := ⟨_, rfl⟩
  obtain ⟨m, hm⟩ : ∃ m, m = x3 % 30 := ⟨_, rfl⟩
  have b0 : 1 ≤ b := by omega
  have b1 : b ≤ 60 := by omega
  have v0 : 0 ≤ v := by omega
  have v1 : v ≤ 765 := by omega
  have m0 : 0 ≤ m := by omega
  have m1 : m ≤ 29 := by omega
  have EB := Lib.hid hb
  have EV := Lib.hid hv
  have EM := Lib.hid hm
  clear hb hv hm
  go_wp2_with fail
  rw [← EB.out, ← EV.out, ← EM.out]
  clear EB EV EM
  refine (iSteadySpeed _ _ _).mono ?_
  rintro e w' ⟨s, rfl, hs, rfl⟩
  obtain ⟨g0, g1, g2, g3, g4⟩ := gov_more (v := v) (f := f) (b := b) (by omega) (by omega) (by omega)
  have X1 := Lib.hid (next_same (v := v) (f := f) (b := b) (by omega))
  have X2 := Lib.hid (next_same (v := v) (f := f + 5) (b := b) (by omega))
  have X3 := Lib.hid (next_same (v := v) (f := f) (b := b + 1) (by omega))
  have X4 := after_same (v := v) (f := f) (b := b) 1 (by omega) (by omega)
  rw [g4] at X4
  have XX4 := Lib.hid X4
  have HA0 := Lib.hid (after_same (v := v) (f := f) (b := b) 0 (by omega) (by omega))
  clear X4 g4
  generalize nxt v f b = x at *
  generalize nxt v (f + 5) b = y at *
  generalize nxt v f (b + 1) = z at *
  have g5 : ¬ y < x := by omega
  have g6 : ¬ x < z := by omega
  go_wp2_with fail
  refine (X1.out _).mono ?_
  rintro e w' ⟨rfl, rfl⟩
  go_wp2_with fail
  refine (X2.out _).mono ?_
  rintro e w' ⟨rfl, rfl⟩
  go_wp2_with fail
  refine (X3.out _).mono ?_
  rintro e w' ⟨rfl, rfl⟩
  go_wp2_with fail
  refine (XX4.out _).mono ?_
  rintro e w' ⟨rfl, rfl⟩
  rcases gov_steady hs (by omega) (by omega) (show 0 ≤ m ∧ m ≤ 29 by omega) with rfl | ⟨s0, s1, hs1, hs2, hs3, hs4⟩
  · clear hs
    go_wp2_with fail
    refine (iStepsUntilSteady _ _ _ _).mono ?_
    rintro e w' ⟨k, rfl, hk, rfl⟩
    rcases gov_steps hk (by omega) (by omega) (by omega) with rfl | ⟨k0, k1, y, y0, y1, hy1, hy2, hz⟩
    · clear hk
      go_wp2_with fail
      refine (HA0.out _).mono ?_
      rintro e w' ⟨rfl, rfl⟩
      go_wp2_with fail
      refine (gov_ten _).mono ?_
      rintro e w' ⟨rfl, rfl⟩
      go_wp2_with fail
      refine (even_lit 100 110 10 true (by decide) _ _ rfl).mono ?_
      rintro e w2 ⟨rfl, hb2⟩
      have b2 : Below W.heap.size W w2 := ((Below.refl _ _).alloc (Nat.le_refl _) _).trans (hb2.mono (by simp))
      go_wp2_with fail
      refine (even_lit 100 111 10 false (by decide) _ _ rfl).mono ?_
      rintro e w3 ⟨rfl, hb3⟩
      have b3 : Below W.heap.size W w3 := (b2.alloc b2.size _).trans (hb3.mono (by have := b2.size; simp; omega))
      go_wp2
      go_ret
      exact ⟨rfl, b3⟩
    have HY1 := Lib.hid hy1
    have HY2 := Lib.hid hy2
    clear hk hy1 hy2
    by_cases hkp : 0 < k
    · obtain ⟨z, u, hz1, hz2, hne⟩ := hz hkp
      have HZ1 := Lib.hid hz1
      have HZ2 := Lib.hid hz2
      have hzb : (u == z) = false := by simp [hne]
      clear hz1 hz2 hne hz
      go_wp2_with fail
      refine (HY1.out _).mono ?_
      rintro e w' ⟨rfl, rfl⟩
      go_wp2_with fail
      refine (HY2.out _).mono ?_
      rintro e w' ⟨rfl, rfl⟩
      go_wp2_with fail
      refine (HZ1.out _).mono ?_
      rintro e w' ⟨rfl, rfl⟩
      go_wp2_with fail
      refine (HZ2.out _).mono ?_
      rintro e w' ⟨rfl, rfl⟩
      go_wp2_with fail
      refine (HA0.out _).mono ?_
      rintro e w' ⟨rfl, rfl⟩
      go_wp2_with fail
      refine (gov_ten _).mono ?_
      rintro e w' ⟨rfl, rfl⟩
      go_wp2_with fail
      refine (even_lit 100 110 10 true (by decide) _ _ rfl).mono ?_
      rintro e w2 ⟨rfl, hb2⟩
      have b2 : Below W.heap.size W w2 := ((Below.refl _ _).alloc (Nat.le_refl _) _).trans (hb2.mono (by simp))
      go_wp2_with fail
      refine (even_lit 100 111 10 false (by decide) _ _ rfl).mono ?_
      rintro e w3 ⟨rfl, hb3⟩
      have b3 : Below W.heap.size W w3 := (b2.alloc b2.size _).trans (hb3.mono (by have := b2.size; simp; omega))
      go_wp2
      go_ret
      exact ⟨rfl, b3⟩
    · clear hz
      go_wp2_with fail
      refine (HY1.out _).mono ?_
      rintro e w' ⟨rfl, rfl⟩
      go_wp2_with fail
      refine (HY2.out _).mono ?_
      rintro e w' ⟨rfl, rfl⟩
      go_wp2_with fail
      refine (HA0.out _).mono ?_
      rintro e w' ⟨rfl, rfl⟩
      go_wp2_with fail
      refine (gov_ten _).mono ?_
      rintro e w' ⟨rfl, rfl⟩
      go_wp2_with fail
      refine (even_lit 100 110 10 true (by decide) _ _ rfl).mono ?_
      rintro e w2 ⟨rfl, hb2⟩
      have b2 : Below W.heap.size W w2 := ((Below.refl _ _).alloc (Nat.le_refl _) _).trans (hb2.mono (by simp))
      go_wp2_with fail
      refine (even_lit 100 111 10 false (by decide) _ _ rfl).mono ?_
      rintro e w3 ⟨rfl, hb3⟩
      have b3 : Below W.heap.size W w3 := (b2.alloc b2.size _).trans (hb3.mono (by have := b2.size; simp; omega))
      go_wp2
      go_ret
      exact ⟨rfl, b3⟩
  have HS1 := Lib.hid hs1
  have HS2 := Lib.hid hs2
  have HS3 := Lib.hid hs3
  clear hs hs1 hs2 hs3
  by_cases hsp : 0 < s
  · obtain ⟨t, ht, hne⟩ := hs4 hsp
    have HT := Lib.hid ht
    have htb : (t == s - 1) = false := by simp [hne]
    clear ht hne hs4
    go_wp2_with fail
    refine (HS1.out _).mono ?_
    rintro e w' ⟨rfl, rfl⟩
    go_wp2_with fail
    refine (HS2.out _).mono ?_
    rintro e w' ⟨rfl, rfl⟩
    go_wp2_with fail
    refine (HS3.out _).mono ?_
    rintro e w' ⟨rfl, rfl⟩
    go_wp2_with fail
    refine (HT.out _).mono ?_
    rintro e w' ⟨rfl, rfl⟩
    go_wp2_with fail
    refine (iStepsUntilSteady _ _ _ _).mono ?_
    rintro e w' ⟨k, rfl, hk, rfl⟩
    rcases gov_steps hk (by omega) (by omega) (by omega) with rfl | ⟨k0, k1, y, y0, y1, hy1, hy2, hz⟩
    · clear hk
      go_wp2_with fail
      refine (HA0.out _).mono ?_
      rintro e w' ⟨rfl, rfl⟩
      go_wp2_with fail
      refine (gov_ten _).mono ?_
      rintro e w' ⟨rfl, rfl⟩
      go_wp2_with fail
      refine (even_lit 100 110 10 true (by decide) _ _ rfl).mono ?_
      rintro e w2 ⟨rfl, hb2⟩
      have b2 : Below W.heap.size W w2 := ((Below.refl _ _).alloc (Nat.le_refl _) _).trans (hb2.mono (by simp))
      go_wp2_with fail
      refine (even_lit 100 111 10 false (by decide) _ _ rfl).mono ?_
      rintro e w3 ⟨rfl, hb3⟩
      have b3 : Below W.heap.size W w3 := (b2.alloc b2.size _).trans (hb3.mono (by have := b2.size; simp; omega))
      go_wp2
      go_ret
      exact ⟨rfl, b3⟩
    have HY1 := Lib.hid hy1
    have HY2 := Lib.hid hy2
    clear hk hy1 hy2
    by_cases hkp : 0 < k
    · obtain ⟨z, u, hz1, hz2, hne⟩ := hz hkp
      have HZ1 := Lib.hid hz1
      have HZ2 := Lib.hid hz2
      have hzb : (u == z) = false := by simp [hne]
      clear hz1 hz2 hne hz
      go_wp2_with fail
      refine (HY1.out _).mono ?_
      rintro e w' ⟨rfl, rfl⟩
      go_wp2_with fail
      refine (HY2.out _).mono ?_
      rintro e w' ⟨rfl, rfl⟩
      go_wp2_with fail
      refine (HZ1.out _).mono ?_
      rintro e w' ⟨rfl, rfl⟩
      go_wp2_with fail
      refine (HZ2.out _).mono ?_
      rintro e w' ⟨rfl, rfl⟩
      go_wp2_with fail
      refine (HA0.out _).mono ?_
      rintro e w' ⟨rfl, rfl⟩
      go_wp2_with fail
      refine (gov_ten _).mono ?_
      rintro e w' ⟨rfl, rfl⟩
      go_wp2_with fail
      refine (even_lit 100 110 10 true (by decide) _ _ rfl).mono ?_
      rintro e w2 ⟨rfl, hb2⟩
      have b2 : Below W.heap.size W w2 := ((Below.refl _ _).alloc (Nat.le_refl _) _).trans (hb2.mono (by simp))
      go_wp2_with fail
      refine (even_lit 100 111 10 false (by decide) _ _ rfl).mono ?_
      rintro e w3 ⟨rfl, hb3⟩
      have b3 : Below W.heap.size W w3 := (b2.alloc b2.size _).trans (hb3.mono (by have := b2.size; simp; omega))
      go_wp2
      go_ret
      exact ⟨rfl, b3⟩
    · clear hz
      go_wp2_with fail
      refine (HY1.out _).mono ?_
      rintro e w' ⟨rfl, rfl⟩
      go_wp2_with fail
      refine (HY2.out _).mono ?_
      rintro e w' ⟨rfl, rfl⟩
      go_wp2_with fail
      refine (HA0.out _).mono ?_
      rintro e w' ⟨rfl, rfl⟩
      go_wp2_with fail
      refine (gov_ten _).mono ?_
      rintro e w' ⟨rfl, rfl⟩
      go_wp2_with fail
      refine (even_lit 100 110 10 true (by decide) _ _ rfl).mono ?_
      rintro e w2 ⟨rfl, hb2⟩
      have b2 : Below W.heap.size W w2 := ((Below.refl _ _).alloc (Nat.le_refl _) _).trans (hb2.mono (by simp))
      go_wp2_with fail
      refine (even_lit 100 111 10 false (by decide) _ _ rfl).mono ?_
      rintro e w3 ⟨rfl, hb3⟩
      have b3 : Below W.heap.size W w3 := (b2.alloc b2.size _).trans (hb3.mono (by have := b2.size; simp; omega))
      go_wp2
      go_ret
      exact ⟨rfl, b3⟩
  · clear hs4
    go_wp2_with fail
    refine (HS1.out _).mono ?_
    rintro e w' ⟨rfl, rfl⟩
    go_wp2_with fail
    refine (HS2.out _).mono ?_
    rintro e w' ⟨rfl, rfl⟩
    go_wp2_with fail
    refine (HS3.out _).mono ?_
    rintro e w' ⟨rfl, rfl⟩
    go_wp2_with fail
    refine (iStepsUntilSteady _ _ _ _).mono ?_
    rintro e w' ⟨k, rfl, hk, rfl⟩
    rcases gov_steps hk (by omega) (by omega) (by omega) with rfl | ⟨k0, k1, y, y0, y1, hy1, hy2, hz⟩
    · clear hk
      go_wp2_with fail
      refine (HA0.out _).mono ?_
      rintro e w' ⟨rfl, rfl⟩
      go_wp2_with fail
      refine (gov_ten _).mono ?_
      rintro e w' ⟨rfl, rfl⟩
      go_wp2_with fail
      refine (even_lit 100 110 10 true (by decide) _ _ rfl).mono ?_
      rintro e w2 ⟨rfl, hb2⟩
      have b2 : Below W.heap.size W w2 := ((Below.refl _ _).alloc (Nat.le_refl _) _).trans (hb2.mono (by simp))
      go_wp2_with fail
      refine (even_lit 100 111 10 false (by decide) _ _ rfl).mono ?_
      rintro e w3 ⟨rfl, hb3⟩
      have b3 : Below W.heap.size W w3 := (b2.alloc b2.size _).trans (hb3.mono (by have := b2.size; simp; omega))
      go_wp2
      go_ret
      exact ⟨rfl, b3⟩
    have HY1 := Lib.hid hy1
    have HY2 := Lib.hid hy2
    clear hk hy1 hy2
    by_cases hkp : 0 < k
    · obtain ⟨z, u, hz1, hz2, hne⟩ := hz hkp
      have HZ1 := Lib.hid hz1
      have HZ2 := Lib.hid hz2
      have hzb : (u == z) = false := by simp [hne]
      clear hz1 hz2 hne hz
      go_wp2_with fail
      refine (HY1.out _).mono ?_
      rintro e w' ⟨rfl, rfl⟩
      go_wp2_with fail
      refine (HY2.out _).mono ?_
      rintro e w' ⟨rfl, rfl⟩
      go_wp2_with fail
      refine (HZ1.out _).mono ?_
      rintro e w' ⟨rfl, rfl⟩
      go_wp2_with fail
      refine (HZ2.out _).mono ?_
      rintro e w' ⟨rfl, rfl⟩
      go_wp2_with fail
      refine (HA0.out _).mono ?_
      rintro e w' ⟨rfl, rfl⟩
      go_wp2_with fail
      refine (gov_ten _).mono ?_
      rintro e w' ⟨rfl, rfl⟩
      go_wp2_with fail
      refine (even_lit 100 110 10 true (by decide) _ _ rfl).mono ?_
      rintro e w2 ⟨rfl, hb2⟩
      have b2 : Below W.heap.size W w2 := ((Below.refl _ _).alloc (Nat.le_refl _) _).trans (hb2.mono (by simp))
      go_wp2_with fail
      refine (even_lit 100 111 10 false (by decide) _ _ rfl).mono ?_
      rintro e w3 ⟨rfl, hb3⟩
      have b3 : Below W.heap.size W w3 := (b2.alloc b2.size _).trans (hb3.mono (by have := b2.size; simp; omega))
      go_wp2
      go_ret
      exact ⟨rfl, b3⟩
    · clear hz
      go_wp2_with fail
      refine (HY1.out _).mono ?_
      rintro e w' ⟨rfl, rfl⟩
      go_wp2_with fail
      refine (HY2.out _).mono ?_
      rintro e w' ⟨rfl, rfl⟩
      go_wp2_with fail
      refine (HA0.out _).mono ?_
      rintro e w' ⟨rfl, rfl⟩
      go_wp2_with fail
      refine (gov_ten _).mono ?_
      rintro e w' ⟨rfl, rfl⟩
      go_wp2_with fail
      refine (even_lit 100 110 10 true (by decide) _ _ rfl).mono ?_
      rintro e w2 ⟨rfl, hb2⟩
      have b2 : Below W.heap.size W w2 := ((Below.refl _ _).alloc (Nat.le_refl _) _).trans (hb2.mono (by simp))
      go_wp2_with fail
      refine (even_lit 100 111 10 false (by decide) _ _ rfl).mono ?_
      rintro e w3 ⟨rfl, hb3⟩
      have b3 : Below W.heap.size W w3 := (b2.alloc b2.size _).trans (hb3.mono (by have := b2.size; simp; omega))
      go_wp2
      go_ret
      exact ⟨rfl, b3⟩

end Go.Proofs.Ytcnnkdpfigckoaa
