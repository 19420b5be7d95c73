/- Equality of sets, as the model runs it. -/
import Derived.Test.YtllkohjmghoipaaRefA
namespace Go.Proofs.Ytllkohjmghoipaa
open Go.RowKit

theorem set_ne {s t : CSet} (i : Nat) (h : word s i ≠ word t i) : decide (s = t) = false := by
  rw [decide_eq_false_iff_not]; rintro rfl; exact h rfl
theorem eq_words (a b c d a' b' c' d' : Int) (w : World) : (Op.equalIn 10000 45 (.agg #[.int .u64 a, .int .u64 b, .int .u64 c, .int .u64 d]) (.agg #[.int .u64 a', .int .u64 b', .int .u64 c', .int .u64 d'])).run Try.prog w = .ok (a == a' && (b == b' && (c == c' && d == d'))) w := by
  have u3 := Try.underlying43
  have a3 := Try.isAgg43
  have z3 := Try.sizeOf43
  rw [show (10000 : Nat) = 9999 + 1 from rfl, Op.equalIn]
  simp only [Sem.run_bind, run_underlying Try.underlying45, Result.andThen_ok]
  simp only [Std.Legacy.Range.forIn_eq_forIn_range', Std.Legacy.Range.size, Nat.sub_zero, Nat.add_sub_cancel, Nat.div_one, List.range'_succ, List.range'_zero, List.forIn_cons, List.forIn_nil]
  go_simp
  by_cases h1 : a = a' <;> by_cases h2 : b = b' <;> by_cases h3 : c = c' <;> by_cases h4 : d = d' <;> simp [h1, h2, h3, h4]
/-- sets are equal exactly if their words are -/
theorem eq_set (w : World) (s t : CSet) : (Op.equalIn 10000 45 (.agg #[.int .u64 (word s 0 : Int), .int .u64 (word s 1 : Int), .int .u64 (word s 2 : Int), .int .u64 (word s 3 : Int)]) (.agg #[.int .u64 (word t 0 : Int), .int .u64 (word t 1 : Int), .int .u64 (word t 2 : Int), .int .u64 (word t 3 : Int)])).run Try.prog w = .ok (decide (s = t)) w := by
  rw [eq_words]
  congr 1
  rw [Bool.eq_iff_iff]
  simp only [Bool.and_eq_true, beq_iff_eq, decide_eq_true_eq]
  constructor
  · rintro ⟨h0, h1, h2, h3⟩
    apply word_ext
    intro i hi
    match i, hi with
    | 0, _ => exact_mod_cast h0
    | 1, _ => exact_mod_cast h1
    | 2, _ => exact_mod_cast h2
    | 3, _ => exact_mod_cast h3
  · rintro rfl
    exact ⟨rfl, rfl, rfl, rfl⟩
theorem run_eq_set (w : World) (s t : CSet) :
    (binOp .eql 45 (.agg #[.int .u64 (word s 0 : Int), .int .u64 (word s 1 : Int), .int .u64 (word s 2 : Int), .int .u64 (word s 3 : Int)]) (.agg #[.int .u64 (word t 0 : Int), .int .u64 (word t 1 : Int), .int .u64 (word t 2 : Int), .int .u64 (word t 3 : Int)])).run Try.prog w = .ok (.bool (decide (s = t))) w := by
  simp [go_sem, eq_set]
theorem run_ne_set (w : World) (s t : CSet) :
    (binOp .neq 45 (.agg #[.int .u64 (word s 0 : Int), .int .u64 (word s 1 : Int), .int .u64 (word s 2 : Int), .int .u64 (word s 3 : Int)]) (.agg #[.int .u64 (word t 0 : Int), .int .u64 (word t 1 : Int), .int .u64 (word t 2 : Int), .int .u64 (word t 3 : Int)])).run Try.prog w = .ok (.bool (!decide (s = t))) w := by
  simp [go_sem, eq_set]
theorem eq_none (w : World) (s : CSet) :
    (Op.equalIn 10000 45 (.agg #[.int .u64 (word s 0 : Int), .int .u64 (word s 1 : Int), .int .u64 (word s 2 : Int), .int .u64 (word s 3 : Int)]) (.agg #[.int .u64 0, .int .u64 0, .int .u64 0, .int .u64 0])).run Try.prog w = .ok (decide (s = 0#256)) w :=
  eq_set w s 0#256
end Go.Proofs.Ytllkohjmghoipaa
