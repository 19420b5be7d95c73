/- classes.Add, classes.Drop. -/
import Derived.Test.YtooiegejchcbhaaDoorKUnion
namespace Go.Proofs.YtooiegejchcbhaaDoor
open Go.RowKit

set_option maxHeartbeats 400000 in
theorem add_p (s : CSet) (b : Nat) (hb : b < 256) (w : World) :
    Calls Tryd.prog 22 #[setV s, .int .u8 (b : Int)] w fun e w' => e = .returned (setV (s ||| bit b)) ∧ Below w.heap.size w w' := by
  obtain ⟨q, r, hq, hr, e1, e2, e3, e4⟩ := byte_at b hb
  have i0 : (0 : Int) ≤ (b : Int) := by omega
  have i1 : (b : Int) ≤ 255 := by omega
  have ha : bits .and .u8 (b : Int) 63 = (r : Int) := by
    have := u8_and_nat b 63 hb (by decide)
    have e : b &&& 63 = b % 64 := Nat.and_two_pow_sub_one_eq_mod b 6
    rw [e, e2] at this
    exact this
  have h0 := word_add s b 0 hb
  have h1 := word_add s b 1 hb
  have h2 := word_add s b 2 hb
  have h3 := word_add s b 3 hb
  rw [e1, e2] at h0 h1 h2 h3
  have HH : setV (s ||| bit b) = .agg #[.int .u64 ((if 0 = q then word s 0 ||| 2 ^ r else word s 0 : Nat) : Int), .int .u64 ((if 1 = q then word s 1 ||| 2 ^ r else word s 1 : Nat) : Int), .int .u64 ((if 2 = q then word s 2 ||| 2 ^ r else word s 2 : Nat) : Int), .int .u64 ((if 3 = q then word s 3 ||| 2 ^ r else word s 3 : Nat) : Int)] := by
    unfold setV setC; rw [h0, h1, h2, h3]
  rw [HH]
  clear HH h0 h1 h2 h3 e1 e2
  have w0 := word_lt s 0
  have w1 := word_lt s 1
  have w2 := word_lt s 2
  have w3 := word_lt s 3
  unfold setV setC
  match q, hq with
  | 0, _ =>
    go_enter Tryd.func22, Tryd.ntmps22
    go_wp2
    rw [or_wrap w0 hr]
    exact bodyPost_ret (v := .agg #[.int .u64 _, .int .u64 _, .int .u64 _, .int .u64 _]) (by simp [results, Tryd.results22, go_sem]) rfl ⟨rfl, ((Below.refl _ _).alloc (Nat.le_refl _) _).alloc (by simp) _⟩
  | 1, _ =>
    go_enter Tryd.func22, Tryd.ntmps22
    go_wp2
    rw [or_wrap w1 hr]
    exact bodyPost_ret (v := .agg #[.int .u64 _, .int .u64 _, .int .u64 _, .int .u64 _]) (by simp [results, Tryd.results22, go_sem]) rfl ⟨rfl, ((Below.refl _ _).alloc (Nat.le_refl _) _).alloc (by simp) _⟩
  | 2, _ =>
    go_enter Tryd.func22, Tryd.ntmps22
    go_wp2
    rw [or_wrap w2 hr]
    exact bodyPost_ret (v := .agg #[.int .u64 _, .int .u64 _, .int .u64 _, .int .u64 _]) (by simp [results, Tryd.results22, go_sem]) rfl ⟨rfl, ((Below.refl _ _).alloc (Nat.le_refl _) _).alloc (by simp) _⟩
  | 3, _ =>
    go_enter Tryd.func22, Tryd.ntmps22
    go_wp2
    rw [or_wrap w3 hr]
    exact bodyPost_ret (v := .agg #[.int .u64 _, .int .u64 _, .int .u64 _, .int .u64 _]) (by simp [results, Tryd.results22, go_sem]) rfl ⟨rfl, ((Below.refl _ _).alloc (Nat.le_refl _) _).alloc (by simp) _⟩

theorem word_dropN (s : CSet) (b i : Nat) (hb : b < 256) : word (s &&& ~~~(bit b)) i = if i = b / 64 then word s i &&& (18446744073709551615 - 2 ^ (b % 64)) else word s i := by
  symm; apply eq_word
  · split
    · exact Nat.lt_of_le_of_lt Nat.and_le_left (word_lt s i)
    · exact word_lt s i
  · intro j hj
    unfold bit
    rw [BitVec.getLsbD_and, BitVec.getLsbD_not, BitVec.getLsbD_twoPow]
    by_cases hi : 64 * i + j < 256
    · rw [decide_eq_true hi, Bool.true_and]
      split
      · rename_i e
        have hp : (18446744073709551615 - 2 ^ (b % 64)).testBit j = !((2 ^ (b % 64)).testBit j) := by
          have := Nat.testBit_two_pow_sub_succ (n := 64) (x := 2 ^ (b % 64)) (Nat.pow_lt_pow_right (by decide) (Nat.mod_lt _ (by decide))) j
          rw [show (2 : Nat) ^ 64 - (2 ^ (b % 64) + 1) = 18446744073709551615 - 2 ^ (b % 64) by omega] at this
          rw [this, decide_eq_true hj, Bool.true_and]
        rw [Nat.testBit_and, word_testBit s i j hj, hp, Nat.testBit_two_pow]
        congr 2
        rw [Bool.eq_iff_iff]
        simp
        omega
      · rename_i e
        rw [word_testBit s i j hj]
        have : ¬ (b = 64 * i + j) := by omega
        simp [this]
    · rw [decide_eq_false hi, Bool.false_and, Bool.and_false]
      split
      · rw [Nat.testBit_and, word_testBit s i j hj, BitVec.getLsbD_of_ge s _ (by omega), Bool.false_and]
      · rw [word_testBit s i j hj, BitVec.getLsbD_of_ge s _ (by omega)]
theorem andNot_wrap {x r : Nat} (hx : x < 18446744073709551616) (hr : r < 64) : bits .andNot .u64 (x : Int) (IntKind.u64.wrap (2 ^ r)) = ((x &&& (18446744073709551615 - 2 ^ r) : Nat) : Int) := by
  rw [wrap_pow hr]; exact u64_andNot_nat x (2 ^ r) hx (pow_lt64 hr)

set_option maxHeartbeats 400000 in
theorem drop_p (s : CSet) (b : Nat) (hb : b < 256) (w : World) :
    Calls Tryd.prog 16 #[setV s, .int .u8 (b : Int)] w fun e w' => e = .returned (setV (s &&& ~~~(bit b))) ∧ Below w.heap.size w w' := by
  obtain ⟨q, r, hq, hr, e1, e2, e3, e4⟩ := byte_at b hb
  have i0 : (0 : Int) ≤ (b : Int) := by omega
  have i1 : (b : Int) ≤ 255 := by omega
  have ha : bits .and .u8 (b : Int) 63 = (r : Int) := by
    have := u8_and_nat b 63 hb (by decide)
    have e : b &&& 63 = b % 64 := Nat.and_two_pow_sub_one_eq_mod b 6
    rw [e, e2] at this
    exact this
  have h0 := word_dropN s b 0 hb
  have h1 := word_dropN s b 1 hb
  have h2 := word_dropN s b 2 hb
  have h3 := word_dropN s b 3 hb
  rw [e1, e2] at h0 h1 h2 h3
  have HH : setV (s &&& ~~~(bit b)) = .agg #[.int .u64 ((if 0 = q then word s 0 &&& (18446744073709551615 - 2 ^ r) else word s 0 : Nat) : Int), .int .u64 ((if 1 = q then word s 1 &&& (18446744073709551615 - 2 ^ r) else word s 1 : Nat) : Int), .int .u64 ((if 2 = q then word s 2 &&& (18446744073709551615 - 2 ^ r) else word s 2 : Nat) : Int), .int .u64 ((if 3 = q then word s 3 &&& (18446744073709551615 - 2 ^ r) else word s 3 : Nat) : Int)] := by
    unfold setV setC; rw [h0, h1, h2, h3]
  rw [HH]
  clear HH h0 h1 h2 h3 e1 e2
  have w0 := word_lt s 0
  have w1 := word_lt s 1
  have w2 := word_lt s 2
  have w3 := word_lt s 3
  unfold setV setC
  match q, hq with
  | 0, _ =>
    go_enter Tryd.func16, Tryd.ntmps16
    go_wp2
    rw [andNot_wrap w0 hr]
    exact bodyPost_ret (v := .agg #[.int .u64 _, .int .u64 _, .int .u64 _, .int .u64 _]) (by simp [results, Tryd.results16, go_sem]) rfl ⟨rfl, ((Below.refl _ _).alloc (Nat.le_refl _) _).alloc (by simp) _⟩
  | 1, _ =>
    go_enter Tryd.func16, Tryd.ntmps16
    go_wp2
    rw [andNot_wrap w1 hr]
    exact bodyPost_ret (v := .agg #[.int .u64 _, .int .u64 _, .int .u64 _, .int .u64 _]) (by simp [results, Tryd.results16, go_sem]) rfl ⟨rfl, ((Below.refl _ _).alloc (Nat.le_refl _) _).alloc (by simp) _⟩
  | 2, _ =>
    go_enter Tryd.func16, Tryd.ntmps16
    go_wp2
    rw [andNot_wrap w2 hr]
    exact bodyPost_ret (v := .agg #[.int .u64 _, .int .u64 _, .int .u64 _, .int .u64 _]) (by simp [results, Tryd.results16, go_sem]) rfl ⟨rfl, ((Below.refl _ _).alloc (Nat.le_refl _) _).alloc (by simp) _⟩
  | 3, _ =>
    go_enter Tryd.func16, Tryd.ntmps16
    go_wp2
    rw [andNot_wrap w3 hr]
    exact bodyPost_ret (v := .agg #[.int .u64 _, .int .u64 _, .int .u64 _, .int .u64 _]) (by simp [results, Tryd.results16, go_sem]) rfl ⟨rfl, ((Below.refl _ _).alloc (Nat.le_refl _) _).alloc (by simp) _⟩
end Go.Proofs.YtooiegejchcbhaaDoor
