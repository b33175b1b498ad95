/-
  The law's own reader of its bytes, laws.at: a number of which only the bounds are told, but the same one at every world.
-/
import Derived.Test.YtjcaamnojinnmaaDraw
namespace Go.Proofs.Ytjcaamnojinnmaa
open Go.RowKit

def atZ (bs : List Int) (i : Int) : Int := bs.getD ((i * 5 + 1) % (bs.length : Int)).toNat 0
theorem atZ_bd {bs : List Int} (h : ∀ x ∈ bs, 0 ≤ x ∧ x ≤ 255) (i : Int) : 0 ≤ atZ bs i ∧ atZ bs i ≤ 255 := by
  unfold atZ
  rw [List.getD_eq_getElem?_getD]
  cases e : bs[((i * 5 + 1) % (bs.length : Int)).toNat]? with
  | none => simp
  | some v => exact h v (List.mem_of_getElem? e)

theorem at_is (A : Option Addr) (n c : Nat) (bs : List Int) (i : Int) (w : World) (B : Nat) (h : Rd w B 1 A n (bs.map (Value.int .u8))) (hbs : ∀ x ∈ bs, 0 ≤ x ∧ x ≤ 255) (hn : n ≤ 1048576) (hi0 : 0 ≤ i) (hi : i ≤ 1000) :
    Calls Try.prog 26 #[.slice A n c, .int .i64 i] w fun e w' => e = .returned (.int .i64 (atZ bs i)) ∧ w = w' := by
  have hlen : bs.length = n := by simpa using h.1
  have H := Lib.hid h
  have HL := Lib.hid hlen
  have HBS := Lib.hid hbs
  clear h hbs
  by_cases h0 : n = 0
  · have hb : ((n : Int) == 0) = true := by simp [h0]
    have e : atZ bs i = 0 := by
      obtain rfl : bs = [] := List.eq_nil_of_length_eq_zero (by omega)
      rfl
    rw [e]
    have H0 := Lib.hid h0
    clear h0 hlen e
    go_enter Try.func26, Try.ntmps26
    go_wp2
    go_ret
    exact ⟨rfl, rfl⟩
  · have hb : ((n : Int) == 0) = false := by simp; omega
    obtain ⟨b, o, rfl, hbB, hcell⟩ := H.out.cell (by omega)
    have m0 := Int.emod_nonneg (i * 5 + 1) (show (n : Int) ≠ 0 by omega)
    have m1 := Int.emod_lt_of_pos (i * 5 + 1) (show (0 : Int) < n by omega)
    obtain ⟨k, hk⟩ := Int.eq_ofNat_of_zero_le m0
    obtain ⟨v, hv⟩ : ∃ v, bs[k]? = some v := ⟨_, List.getElem?_eq_getElem (by rw [HL.out]; omega)⟩
    have hvb := HBS.out v (List.mem_of_getElem? hv)
    have cb : w.cell? ⟨b, o + k, none⟩ = some (.int .u8 v) := hcell k _ (by simp [hv])
    have e : atZ bs i = v := by
      unfold atZ
      rw [HL.out, hk, Int.toNat_natCast, List.getD_eq_getElem?_getD, hv]
      rfl
    rw [e]
    clear hcell hv hlen e
    go_enter Try.func26, Try.ntmps26
    go_wp2
    go_ret
    exact ⟨rfl, rfl⟩
end Go.Proofs.Ytjcaamnojinnmaa
