/- math/bits.TrailingZeros64: the number of the lowest bit that is 1; the library's table is laid. -/
import Derived.Test.YtooiegejchcbhaaDoorKNot
namespace Go.Proofs.YtooiegejchcbhaaDoor
open Go.RowKit

def tabN : List Nat := [0, 1, 56, 2, 57, 49, 28, 3, 61, 58, 42, 50, 38, 29, 17, 4, 62, 47, 59, 36, 45, 43, 51, 22, 53, 39, 33, 30, 24, 18, 12, 5, 63, 55, 48, 27, 60, 41, 37, 16, 46, 35, 44, 21, 52, 32, 23, 11, 54, 26, 40, 15, 34, 20, 31, 10, 25, 14, 19, 9, 13, 8, 7, 6]
theorem tab_at : ∀ t : Fin 64, tabN.getD (2 ^ t.1 * 285870213051353865 % 18446744073709551616 / 288230376151711744) 0 = t.1 := by decide +kernel
/-- the library's table -/
def Tab (w : World) : Prop := ∀ i, i < 64 → w.cell? ⟨0, i, none⟩ = some (.int .u8 (tabN.getD i 0 : Nat))
theorem Tab.lt {w : World} (h : Tab w) : 0 < w.heap.size := World.block_lt_of_cell? w _ (h 0 (by decide))
theorem Tab.below {w w' : World} (h : Tab w) (hb : Below w.heap.size w w') : Tab w' := fun i hi => (hb.cell (p := ⟨0, i, none⟩) h.lt).trans (h i hi)

theorem low_bit : ∀ (n x : Nat), 0 < x → x < 2 ^ n → ∃ t q, t < n ∧ x = 2 ^ (t + 1) * q + 2 ^ t
  | 0, x, h0, h1 => by simp at h1; omega
  | n + 1, x, h0, h1 => by
    by_cases h : x % 2 = 1
    · exact ⟨0, x / 2, by omega, by simp; omega⟩
    · obtain ⟨t, q, ht, hq⟩ := low_bit n (x / 2) (by omega) (by rw [Nat.pow_succ] at h1; omega)
      refine ⟨t + 1, q, by omega, ?_⟩
      have : x = 2 * (x / 2) := by omega
      rw [this, hq, Nat.pow_succ 2 (t + 1), Nat.pow_succ 2 t]
      rw [Nat.mul_add, ← Nat.mul_assoc, Nat.mul_comm 2 (2 ^ t * 2), Nat.mul_comm 2 (2 ^ t)]
theorem and_pred (t q : Nat) : (2 ^ (t + 1) * q + 2 ^ t) &&& (2 ^ (t + 1) * q + 2 ^ t - 1) = 2 ^ (t + 1) * q := by
  have hp : 0 < 2 ^ t := Nat.two_pow_pos t
  have hlt : 2 ^ t < 2 ^ (t + 1) := Nat.pow_lt_pow_right (by decide) (by omega)
  rw [show 2 ^ (t + 1) * q + 2 ^ t - 1 = 2 ^ (t + 1) * q + (2 ^ t - 1) by omega]
  apply Nat.eq_of_testBit_eq
  intro j
  rw [Nat.testBit_and, Nat.testBit_two_pow_mul_add _ hlt, Nat.testBit_two_pow_mul_add _ (by omega), Nat.testBit_two_pow_mul]
  by_cases h : j < t + 1
  · rw [if_pos h, if_pos h, Nat.testBit_two_pow, Nat.testBit_two_pow_sub_one]
    have : ¬ t + 1 ≤ j := by omega
    simp [this]
    omega
  · rw [if_neg h, if_neg h]
    have : t + 1 ≤ j := by omega
    simp [this]
theorem and_neg (t q : Nat) (ht : t < 64) (hx : 2 ^ (t + 1) * q + 2 ^ t < 2 ^ 64) : (2 ^ (t + 1) * q + 2 ^ t) &&& (2 ^ 64 - (2 ^ (t + 1) * q + 2 ^ t)) = 2 ^ t := by
  have hp : 0 < 2 ^ t := Nat.two_pow_pos t
  have hlt : 2 ^ t < 2 ^ (t + 1) := Nat.pow_lt_pow_right (by decide) (by omega)
  have he : (2 : Nat) ^ 64 = 2 ^ (t + 1) * 2 ^ (63 - t) := by rw [← Nat.pow_add]; congr 1; omega
  have hq : q < 2 ^ (63 - t) := by
    rw [he] at hx
    exact Nat.lt_of_mul_lt_mul_left (a := 2 ^ (t + 1)) (by omega)
  have hsub : 2 ^ 64 - (2 ^ (t + 1) * q + 2 ^ t) = 2 ^ (t + 1) * (2 ^ (63 - t) - (q + 1)) + 2 ^ t := by
    rw [he, Nat.mul_sub, Nat.mul_add, Nat.mul_one]
    have h1 : 2 ^ (t + 1) = 2 ^ t + 2 ^ t := by rw [Nat.pow_succ]; omega
    have h2 : 2 ^ (t + 1) * (q + 1) ≤ 2 ^ (t + 1) * 2 ^ (63 - t) := Nat.mul_le_mul_left _ hq
    rw [Nat.mul_add, Nat.mul_one] at h2
    omega
  rw [hsub]
  apply Nat.eq_of_testBit_eq
  intro j
  rw [Nat.testBit_and, Nat.testBit_two_pow_mul_add _ hlt, Nat.testBit_two_pow_mul_add _ hlt, Nat.testBit_two_pow]
  by_cases h : j < t + 1
  · rw [if_pos h, if_pos h, Bool.and_self]
  · rw [if_neg h, if_neg h, Nat.testBit_two_pow_sub_succ hq]
    have : ¬ t = j := by omega
    simp [this]
    intro h1 _
    exact h1
theorem wrap_neg (x : Nat) (h0 : 0 < x) (h1 : x < 18446744073709551616) : IntKind.u64.wrap (-(x : Int)) = ((18446744073709551616 - x : Nat) : Int) := by
  rw [IntKind.wrap_u64]; omega
theorem tz_num (t q : Nat) (ht : t < 64) (hx : 2 ^ (t + 1) * q + 2 ^ t < 18446744073709551616) :
    IntKind.u64.wrap (bits .and .u64 ((2 ^ (t + 1) * q + 2 ^ t : Nat) : Int) (IntKind.u64.wrap (-((2 ^ (t + 1) * q + 2 ^ t : Nat) : Int))) * 285870213051353865) = ((2 ^ t * 285870213051353865 % 18446744073709551616 : Nat) : Int) := by
  have hp : 0 < 2 ^ t := Nat.two_pow_pos t
  have ha := and_neg t q ht hx
  rw [show (2 : Nat) ^ 64 = 18446744073709551616 from rfl] at ha
  rw [wrap_neg _ (by omega) hx, u64_and_nat _ _ hx (by omega), ha, IntKind.wrap_u64]
  omega

set_option maxRecDepth 100000 in
set_option maxHeartbeats 1000000 in
theorem tz_p (x t q : Nat) (hx : x = 2 ^ (t + 1) * q + 2 ^ t) (ht : t < 64) (h64 : x < 18446744073709551616) (w : World) (hT : Tab w) :
    Calls Tryd.prog 61 #[.int .u64 (x : Int)] w fun e w' => e = .returned (.int .i64 (t : Int)) ∧ w = w' := by
  have hp : 0 < 2 ^ t := Nat.two_pow_pos t
  have hnum := tz_num t q ht (by omega)
  rw [← hx] at hnum
  have h0 : ((x : Int) == 0) = false := beq_eq_false_iff_ne.2 (by omega)
  obtain ⟨i, hi⟩ : ∃ i, i = 2 ^ t * 285870213051353865 % 18446744073709551616 / 288230376151711744 := ⟨_, rfl⟩
  have hi64 : i < 64 := by omega
  have htab := tab_at ⟨t, ht⟩
  simp only at htab
  rw [← hi] at htab
  have hcell := hT i hi64
  rw [htab] at hcell
  have hidx : ((2 ^ t * 285870213051353865 % 18446744073709551616 : Nat) : Int) / 288230376151711744 = (i : Int) := by omega
  have hall : IntKind.u64.wrap (bits .and .u64 (x : Int) (IntKind.u64.wrap (-(x : Int))) * 285870213051353865) / 288230376151711744 = (i : Int) := by rw [hnum, hidx]
  have i0 : (0 : Int) ≤ (i : Int) := by omega
  have i1 : (i : Int) < 64 := by omega
  have t1 : (t : Int) < 64 := by omega
  have t0 : (0 : Int) ≤ (t : Int) := by omega
  clear hx htab hi hT hidx hnum hp h64
  go_enter Tryd.func61, Tryd.ntmps61
  go_wp2_with fail
  clear hall
  go_ret
  exact ⟨rfl, rfl⟩
end Go.Proofs.YtooiegejchcbhaaDoor
