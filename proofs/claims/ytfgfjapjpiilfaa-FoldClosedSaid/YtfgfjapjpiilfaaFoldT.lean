/- fold.turned. -/
import Derived.Test.YtfgfjapjpiilfaaFoldU
namespace Go.Proofs.Ytfgfjapjpiilfaa
open Go.RowKit Go.Shelf

def turnS (s : CSet) : CSet := ofF fun i => if letN i = true then hasB s (i ^^^ 32) else hasB s i
def turnN (x : Nat) : Nat := ((x &&& (18446744073709551615 - 576460743847706622)) ||| ((x &&& 134217726) * 4294967296 % 18446744073709551616)) ||| ((x / 4294967296) &&& 134217726)
theorem bits_a : ∀ j : Fin 64, (134217726 : Nat).testBit j.val = (decide (1 ≤ j.val) && decide (j.val ≤ 26)) := by decide +kernel
theorem bits_b : ∀ j : Fin 64, (18446744073709551615 - 576460743847706622 : Nat).testBit j.val = !((decide (1 ≤ j.val) && decide (j.val ≤ 26)) || (decide (33 ≤ j.val) && decide (j.val ≤ 58))) := by decide +kernel
theorem turnN_lt {x : Nat} (hx : x < 18446744073709551616) : turnN x < 18446744073709551616 := by
  unfold turnN
  refine Nat.or_lt_two_pow (n := 64) (Nat.or_lt_two_pow (n := 64) ?_ ?_) ?_
  · exact Nat.lt_of_le_of_lt Nat.and_le_left hx
  · exact Nat.mod_lt _ (by decide)
  · exact Nat.lt_of_le_of_lt Nat.and_le_right (by decide)
theorem word_turn (s : CSet) : word (turnS s) 1 = turnN (word s 1) := by
  symm
  apply eq_word (turnN_lt (word_lt s 1))
  intro j hj
  show _ = hasB (turnS s) (64 * 1 + j)
  have hb : ∀ i, i < 64 → (word s 1).testBit i = hasB s (64 + i) := fun i hi => word_testBit s 1 i hi
  have ha := bits_a ⟨j, hj⟩
  have hb2 := bits_b ⟨j, hj⟩
  simp only at ha hb2
  rw [turnS, hasB_ofF _ _ (by omega)]
  unfold turnN
  rw [show (4294967296 : Nat) = 2 ^ 32 from rfl, show (18446744073709551616 : Nat) = 2 ^ 64 from rfl]
  rw [Nat.testBit_or, Nat.testBit_or, Nat.testBit_and, Nat.testBit_and, Nat.testBit_mod_two_pow, Nat.testBit_mul_two_pow, Nat.testBit_and, Nat.testBit_div_two_pow, hb2, ha, hb j hj]
  by_cases hA : 1 ≤ j ∧ j ≤ 26
  · have hl : letN (64 * 1 + j) = true := by simp [letN]; omega
    have hx : (64 * 1 + j) ^^^ 32 = 64 + (j + 32) := by rw [xor32 (by omega), if_neg (by omega)]; omega
    rw [if_pos hl, hx, ← hb (j + 32) (by omega)]
    have h1 : decide (1 ≤ j) = true := decide_eq_true hA.1
    have h2 : decide (j ≤ 26) = true := decide_eq_true hA.2
    have h3 : decide (32 ≤ j) = false := decide_eq_false (by omega)
    rw [h1, h2]
    simp [h3, Nat.add_comm]
    try omega
  · have h12 : (decide (1 ≤ j) && decide (j ≤ 26)) = false := by
      rw [Bool.and_eq_false_iff, decide_eq_false_iff_not, decide_eq_false_iff_not]; omega
    by_cases hB : 33 ≤ j ∧ j ≤ 58
    · have hl : letN (64 * 1 + j) = true := by simp [letN]; omega
      have hx : (64 * 1 + j) ^^^ 32 = 64 + (j - 32) := by rw [xor32 (by omega), if_pos (by omega)]; omega
      have ha' := bits_a ⟨j - 32, by omega⟩
      simp only at ha'
      rw [if_pos hl, hx, ← hb (j - 32) (by omega), ha', h12]
      have h1 : decide (33 ≤ j) = true := decide_eq_true hB.1
      have h2 : decide (j ≤ 58) = true := decide_eq_true hB.2
      have h3 : decide (1 ≤ j - 32) = true := decide_eq_true (by omega)
      have h4 : decide (j - 32 ≤ 26) = true := decide_eq_true (by omega)
      have h5 : decide (32 ≤ j) = true := decide_eq_true (by omega)
      rw [h1, h2, h3, h4]
      simp [h5, hj]
      try omega
    · have h34 : (decide (33 ≤ j) && decide (j ≤ 58)) = false := by
        rw [Bool.and_eq_false_iff, decide_eq_false_iff_not, decide_eq_false_iff_not]; omega
      have hl : ¬ letN (64 * 1 + j) = true := by simp [letN]; omega
      rw [if_neg hl, h12, h34]
      by_cases h5 : 32 ≤ j
      · have ha' := bits_a ⟨j - 32, by omega⟩
        simp only at ha'
        have h6 : (decide (1 ≤ j - 32) && decide (j - 32 ≤ 26)) = false := by
          rw [Bool.and_eq_false_iff, decide_eq_false_iff_not, decide_eq_false_iff_not]; omega
        rw [ha', h6]
        simp
      · simp [h5]
theorem word_turn_other (s : CSet) (i : Nat) (hi : i < 4) (h1 : i ≠ 1) : word (turnS s) i = word s i := by
  symm
  apply eq_word (word_lt s i)
  intro j hj
  rw [word_testBit s i j hj]
  show hasB s _ = hasB (turnS s) _
  have hl : letN (64 * i + j) = false := by
    unfold letN
    rw [Bool.or_eq_false_iff, Bool.and_eq_false_iff, Bool.and_eq_false_iff]
    simp only [decide_eq_false_iff_not]
    omega
  rw [turnS, hasB_ofF _ _ (by omega), hl]
  rfl

theorem turn_num (x : Nat) (hx : x < 18446744073709551616) :
    bits .or .u64 (bits .or .u64 (bits .andNot .u64 (x : Int) 576460743847706622) (IntKind.u64.wrap (bits .and .u64 (x : Int) 134217726 * 4294967296))) (bits .and .u64 ((x : Int) / 4294967296) 134217726) = ((turnN x : Nat) : Int) := by
  have e1 : bits .andNot .u64 (x : Int) 576460743847706622 = ((x &&& (18446744073709551615 - 576460743847706622) : Nat) : Int) := u64_andNot_nat x 576460743847706622 hx (by decide)
  have e2 : bits .and .u64 (x : Int) 134217726 = ((x &&& 134217726 : Nat) : Int) := u64_and_nat x 134217726 hx (by decide)
  have e3 : IntKind.u64.wrap (((x &&& 134217726 : Nat) : Int) * 4294967296) = (((x &&& 134217726) * 4294967296 % 18446744073709551616 : Nat) : Int) := by
    rw [IntKind.wrap_u64]; generalize x &&& 134217726 = y; omega
  have e4 : ((x : Int) / 4294967296) = ((x / 4294967296 : Nat) : Int) := by omega
  have e5 : bits .and .u64 ((x / 4294967296 : Nat) : Int) 134217726 = ((x / 4294967296 &&& 134217726 : Nat) : Int) := u64_and_nat _ 134217726 (by omega) (by decide)
  have l1 : x &&& (18446744073709551615 - 576460743847706622) < 18446744073709551616 := Nat.lt_of_le_of_lt Nat.and_le_left hx
  have l2 : (x &&& 134217726) * 4294967296 % 18446744073709551616 < 18446744073709551616 := Nat.mod_lt _ (by decide)
  have l3 : x / 4294967296 &&& 134217726 < 18446744073709551616 := Nat.lt_of_le_of_lt Nat.and_le_right (by decide)
  rw [e1, e2, e3, e4, e5, u64_or_nat _ _ l1 l2, u64_or_nat _ _ (Nat.or_lt_two_pow (n := 64) l1 l2) l3]
  rfl

set_option maxRecDepth 100000 in
set_option maxHeartbeats 1000000 in
theorem turned_p (s : CSet) (w : World) : Calls Try.prog 50 #[setV s] w fun e w' => e = .returned (setV (turnS s)) ∧ Below w.heap.size w w' := by
  have w1 := word_lt s 1
  have h1 := word_turn s
  have hn := turn_num (word s 1) w1
  rw [← h1] at hn
  have HN := Lib.hid hn
  have h0 := word_turn_other s 0 (by decide) (by decide)
  have h2 := word_turn_other s 2 (by decide) (by decide)
  have h3 := word_turn_other s 3 (by decide) (by decide)
  have HV : setV (turnS s) = .agg #[.int .u64 (word s 0 : Int), .int .u64 (word (turnS s) 1 : Int), .int .u64 (word s 2 : Int), .int .u64 (word s 3 : Int)] := by
    unfold setV setC; rw [h0, h2, h3]
  rw [HV]
  clear HV h0 h1 h2 h3 hn
  unfold setV setC
  go_enter Try.func50, Try.ntmps50
  go_wp2_with fail
  rw [HN.out]
  exact bodyPost_ret (v := .agg #[.int .u64 _, .int .u64 _, .int .u64 _, .int .u64 _]) (by simp [results, Try.results50, go_sem]) rfl ⟨rfl, ((Below.refl _ _).alloc (Nat.le_refl _) _).alloc (by simp) _⟩

end Go.Proofs.Ytfgfjapjpiilfaa
