/- Layer 3's reference: Has, Add, Drop: what they compute. -/
import Derived.Test.YtllkohjmghoipaaProg
import Derived.Test.YtllkohjmghoipaaSet
import Derived.Test.YtllkohjmghoipaaRow
import Derived.Handy
import Derived.Lib.Hide
namespace Go.Proofs.Ytllkohjmghoipaa
open Go.RowKit

/-- the byte's word and place, as the walk reckons them -/
theorem byte_at (b : Nat) (hb : b < 256) : ∃ q r : Nat, q < 4 ∧ r < 64 ∧ b / 64 = q ∧ b % 64 = r ∧ ((b : Int) / 64) = (q : Int) ∧ ((b : Int) % 64) = (r : Int) :=
  ⟨b / 64, b % 64, by omega, by omega, rfl, rfl, by omega, by omega⟩

theorem has_num (x r : Nat) : (((x : Int) / 2 ^ r).tmod 2 == 1) = decide (x / 2 ^ r % 2 = 1) := by
  have e : ((x : Int) / 2 ^ r) = ((x / 2 ^ r : Nat) : Int) := by
    rw [Int.natCast_ediv]; norm_cast
  rw [e, Int.tmod_eq_emod_of_nonneg (Int.natCast_nonneg _), Bool.eq_iff_iff]
  simp
  omega

set_option maxHeartbeats 400000 in
theorem has_r (s : CSet) (b : Nat) (hb : b < 256) (w : World) :
    Calls Try.prog 23 #[setV s, .int .u8 (b : Int)] w fun e w' => e = .returned (.bool (hasB s b)) ∧ Below w.heap.size w w' := by
  obtain ⟨q, r, hq, hr, e1, e2, e3, e4⟩ := byte_at b hb
  have i0 : (0 : Int) ≤ (b : Int) := by omega
  have i1 : (b : Int) ≤ 255 := by omega
  have hh := hasB_word s b
  rw [e1, e2] at hh
  have HH := Lib.hid hh
  clear hh e1 e2
  have w0 := word_lt s 0
  have w1 := word_lt s 1
  have w2 := word_lt s 2
  have w3 := word_lt s 3
  unfold setV setC
  match q, hq with
  | 0, _ =>
    go_enter Try.func23, Try.ntmps23
    go_wp2
    go_ret
    refine ⟨?_, (Below.refl _ _).alloc (Nat.le_refl _) _⟩
    rw [HH.out]
    exact congrArg (fun x => Ending.returned (.bool x)) (has_num _ _)
  | 1, _ =>
    go_enter Try.func23, Try.ntmps23
    go_wp2
    go_ret
    refine ⟨?_, (Below.refl _ _).alloc (Nat.le_refl _) _⟩
    rw [HH.out]
    exact congrArg (fun x => Ending.returned (.bool x)) (has_num _ _)
  | 2, _ =>
    go_enter Try.func23, Try.ntmps23
    go_wp2
    go_ret
    refine ⟨?_, (Below.refl _ _).alloc (Nat.le_refl _) _⟩
    rw [HH.out]
    exact congrArg (fun x => Ending.returned (.bool x)) (has_num _ _)
  | 3, _ =>
    go_enter Try.func23, Try.ntmps23
    go_wp2
    go_ret
    refine ⟨?_, (Below.refl _ _).alloc (Nat.le_refl _) _⟩
    rw [HH.out]
    exact congrArg (fun x => Ending.returned (.bool x)) (has_num _ _)

theorem word_add (s : CSet) (b i : Nat) (hb : b < 256) : word (s ||| bit b) i = if i = b / 64 then word s i ||| 2 ^ (b % 64) else word s i := by
  rw [word_or, word_bit b i hb]
  split
  · rfl
  · exact Nat.or_zero _

theorem pow_lt64 {r : Nat} (h : r < 64) : 2 ^ r < 18446744073709551616 := Nat.pow_lt_pow_right (by decide) h
theorem wrap_pow {r : Nat} (h : r < 64) : IntKind.u64.wrap (2 ^ r) = ((2 ^ r : Nat) : Int) := by
  have hp := pow_lt64 h
  rw [IntKind.wrap_u64]
  have e : ((2 : Int) ^ r) = ((2 ^ r : Nat) : Int) := by norm_cast
  rw [e]
  exact Int.emod_eq_of_lt (Int.natCast_nonneg _) (Int.ofNat_lt.2 hp)
theorem or_wrap {x r : Nat} (hx : x < 18446744073709551616) (hr : r < 64) : bits .or .u64 (x : Int) (IntKind.u64.wrap (2 ^ r)) = ((x ||| 2 ^ r : Nat) : Int) := by
  rw [wrap_pow hr]; exact u64_or_nat x (2 ^ r) hx (pow_lt64 hr)

set_option maxHeartbeats 400000 in
theorem add_r (s : CSet) (b : Nat) (hb : b < 256) (w : World) :
    Calls Try.prog 54 #[setV s, .int .u8 (b : Int)] w fun e w' => e = .returned (setV (s ||| bit b)) ∧ Below w.heap.size w w' := by
  obtain ⟨q, r, hq, hr, e1, e2, e3, e4⟩ := byte_at b hb
  have i0 : (0 : Int) ≤ (b : Int) := by omega
  have i1 : (b : Int) ≤ 255 := by omega
  have h0 := word_add s b 0 hb
  have h1 := word_add s b 1 hb
  have h2 := word_add s b 2 hb
  have h3 := word_add s b 3 hb
  rw [e1, e2] at h0 h1 h2 h3
  have HH : setV (s ||| bit b) = .agg #[.int .u64 ((if 0 = q then word s 0 ||| 2 ^ r else word s 0 : Nat) : Int), .int .u64 ((if 1 = q then word s 1 ||| 2 ^ r else word s 1 : Nat) : Int), .int .u64 ((if 2 = q then word s 2 ||| 2 ^ r else word s 2 : Nat) : Int), .int .u64 ((if 3 = q then word s 3 ||| 2 ^ r else word s 3 : Nat) : Int)] := by
    unfold setV setC; rw [h0, h1, h2, h3]
  rw [HH]
  clear HH h0 h1 h2 h3 e1 e2
  have w0 := word_lt s 0
  have w1 := word_lt s 1
  have w2 := word_lt s 2
  have w3 := word_lt s 3
  unfold setV setC
  match q, hq with
  | 0, _ =>
    go_enter Try.func54, Try.ntmps54
    go_wp2
    rw [or_wrap w0 hr]
    exact bodyPost_ret (v := .agg #[.int .u64 _, .int .u64 _, .int .u64 _, .int .u64 _]) (by simp [results, Try.results54, go_sem]) rfl ⟨rfl, ((Below.refl _ _).alloc (Nat.le_refl _) _).alloc (by simp) _⟩
  | 1, _ =>
    go_enter Try.func54, Try.ntmps54
    go_wp2
    rw [or_wrap w1 hr]
    exact bodyPost_ret (v := .agg #[.int .u64 _, .int .u64 _, .int .u64 _, .int .u64 _]) (by simp [results, Try.results54, go_sem]) rfl ⟨rfl, ((Below.refl _ _).alloc (Nat.le_refl _) _).alloc (by simp) _⟩
  | 2, _ =>
    go_enter Try.func54, Try.ntmps54
    go_wp2
    rw [or_wrap w2 hr]
    exact bodyPost_ret (v := .agg #[.int .u64 _, .int .u64 _, .int .u64 _, .int .u64 _]) (by simp [results, Try.results54, go_sem]) rfl ⟨rfl, ((Below.refl _ _).alloc (Nat.le_refl _) _).alloc (by simp) _⟩
  | 3, _ =>
    go_enter Try.func54, Try.ntmps54
    go_wp2
    rw [or_wrap w3 hr]
    exact bodyPost_ret (v := .agg #[.int .u64 _, .int .u64 _, .int .u64 _, .int .u64 _]) (by simp [results, Try.results54, go_sem]) rfl ⟨rfl, ((Below.refl _ _).alloc (Nat.le_refl _) _).alloc (by simp) _⟩

end Go.Proofs.Ytllkohjmghoipaa
