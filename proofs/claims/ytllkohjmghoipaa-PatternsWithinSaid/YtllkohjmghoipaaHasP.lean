/- Layer 3, the program: Has. -/
import Derived.Test.YtllkohjmghoipaaRefA
namespace Go.Proofs.Ytllkohjmghoipaa
open Go.RowKit

theorem u8_and63 {n : Nat} (h : n < 256) : bits .and .u8 (n : Int) 63 = ((n % 64 : Nat) : Int) := by
  have := u8_and_nat n 63 h (by decide)
  have e : n &&& 63 = n % 64 := Nat.and_two_pow_sub_one_eq_mod n 6
  rw [e] at this
  exact this
theorem has_num1 {x : Nat} (h : x < 18446744073709551616) (r : Nat) : (bits .and .u64 ((x : Int) / 2 ^ r) 1 != 0) = decide (x / 2 ^ r % 2 = 1) := by
  have e : ((x : Int) / 2 ^ r) = ((x / 2 ^ r : Nat) : Int) := by rw [Int.natCast_ediv]; norm_cast
  rw [e]
  have := u64_and_nat (x / 2 ^ r) 1 (Nat.lt_of_le_of_lt (Nat.div_le_self _ _) h) (by decide)
  rw [Nat.and_one_is_mod] at this
  rw [show (1 : Int) = ((1 : Nat) : Int) from rfl, this, Bool.eq_iff_iff]
  simp
  omega

set_option maxHeartbeats 400000 in
theorem has_p (s : CSet) (b : Nat) (hb : b < 256) (w : World) :
    Calls Try.prog 49 #[setV s, .int .u8 (b : Int)] w fun e w' => e = .returned (.bool (hasB s b)) ∧ Below w.heap.size w w' := by
  obtain ⟨q, r, hq, hr, e1, e2, e3, e4⟩ := byte_at b hb
  have i0 : (0 : Int) ≤ (b : Int) := by omega
  have i1 : (b : Int) ≤ 255 := by omega
  have hh := hasB_word s b
  rw [e1, e2] at hh
  have HH := Lib.hid hh
  have e5 : bits .and .u8 (b : Int) 63 = (r : Int) := by rw [u8_and63 hb, e2]
  clear hh e1 e2
  have w0 := word_lt s 0
  have w1 := word_lt s 1
  have w2 := word_lt s 2
  have w3 := word_lt s 3
  unfold setV setC
  match q, hq with
  | 0, _ =>
    go_enter Try.func49, Try.ntmps49
    go_wp2
    go_ret
    refine ⟨?_, (Below.refl _ _).alloc (Nat.le_refl _) _⟩
    rw [HH.out]
    exact congrArg (fun x => Ending.returned (.bool x)) (has_num1 w0 _)
  | 1, _ =>
    go_enter Try.func49, Try.ntmps49
    go_wp2
    go_ret
    refine ⟨?_, (Below.refl _ _).alloc (Nat.le_refl _) _⟩
    rw [HH.out]
    exact congrArg (fun x => Ending.returned (.bool x)) (has_num1 w1 _)
  | 2, _ =>
    go_enter Try.func49, Try.ntmps49
    go_wp2
    go_ret
    refine ⟨?_, (Below.refl _ _).alloc (Nat.le_refl _) _⟩
    rw [HH.out]
    exact congrArg (fun x => Ending.returned (.bool x)) (has_num1 w2 _)
  | 3, _ =>
    go_enter Try.func49, Try.ntmps49
    go_wp2
    go_ret
    refine ⟨?_, (Below.refl _ _).alloc (Nat.le_refl _) _⟩
    rw [HH.out]
    exact congrArg (fun x => Ending.returned (.bool x)) (has_num1 w3 _)
end Go.Proofs.Ytllkohjmghoipaa
