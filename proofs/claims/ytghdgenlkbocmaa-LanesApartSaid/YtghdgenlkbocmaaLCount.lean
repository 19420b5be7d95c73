/- Rows of words, the program's layer 2: Count. -/
import Derived.Test.YtghdgenlkbocmaaLSetB
import Derived.Test.YtghdgenlkbocmaaOnes
namespace Go.Proofs.Ytghdgenlkbocmaa
open Go.RowKit

def cntB (s : CSet) (n : Nat) : Nat := (List.range n).countP (hasB s)
theorem cntB_step (s : CSet) (j : Nat) : cntB s (64 * (j + 1)) = cntB s (64 * j) + popN (word s j) 64 := by
  unfold cntB popN
  rw [Nat.mul_add, Nat.mul_one, List.range_add, List.countP_append, List.countP_map]
  congr 1
  apply List.countP_congr
  intro i hi
  have hi := List.mem_range.1 hi
  simp only [Function.comp_apply]
  rw [word_testBit s j i hi]
  rfl
theorem cntB_le (s : CSet) (n : Nat) : cntB s n ≤ n := by
  unfold cntB
  have := List.countP_le_length (p := hasB s) (l := List.range n)
  simpa using this

set_option maxRecDepth 100000 in
set_option maxHeartbeats 2000000 in
theorem countB_p (k : Nat) (v : Value) (s : CSet) (w : World) (hv : URow w v k s) (k1 : 1 ≤ k) (k4 : k ≤ 4) :
    Calls Try.prog 31 #[v] w fun e w' => e = .returned (.tuple #[.int .i64 (cntB s (64 * k) : Int), .int .i64 0]) ∧ w = w' := by
  obtain ⟨a, cap, rfl⟩ := hv.form
  have HV := Lib.hid hv
  have HC := Lib.hid (checkB_p k a cap w k1 k4)
  clear hv
  go_enter Try.func31, Try.ntmps31
  go_wp2_with fail
  refine HC.out.mono ?_
  rintro e w1 ⟨rfl, rfl⟩
  clear HC
  go_wp2_with fail
  go_loop [5, 15] (fun nv iv => ∃ i n : Nat, i ≤ k ∧ n = cntB s (64 * i) ∧ nv = .int .i64 (n : Nat) ∧ iv = .int .i64 (i : Nat)) (fun _ iv => k - (intOf iv).toNat)
  case atStart => exact ⟨0, 0, by omega, rfl, rfl, rfl⟩
  case round =>
    obtain ⟨i, n, hi, hn, rfl, rfl⟩ := hrel
    have hle := cntB_le s (64 * i)
    have hn256 : n ≤ 256 := by omega
    have HN := Lib.hid hn
    have i0 : (0 : Int) ≤ (i : Int) := by omega
    clear hn hle
    by_cases hlt : i < k
    · obtain ⟨g, o, rfl, hg, hc⟩ := HV.out.at hlt
      have hst := cntB_step s i
      have hpl : popN (word s i) 64 ≤ 64 := by
        unfold popN
        have := List.countP_le_length (p := fun j => (word s i).testBit j) (l := List.range 64)
        simpa using this
      have HST := Lib.hid hst
      have i1 : (i : Int) < (k : Int) := by omega
      clear hst
      go_wp2_with fail
      refine (ones_p (word s i) (word_lt s i) _).mono ?_
      rintro e w1 ⟨rfl, rfl⟩
      generalize hp : popN (word s i) 64 = p at *
      go_wp2_with fail
      go_round
      case rel => exact ⟨i + 1, n + p, by omega, by rw [HST.out, ← HN.out], by go_num, by go_num⟩
      case measure => simp [intOf]; omega
    · obtain rfl : i = k := by omega
      have i1 : ¬ (i : Int) < (i : Int) := by omega
      go_wp2_with fail
      go_ret2
      exact ⟨by rw [← HN.out]; rfl, rfl⟩
end Go.Proofs.Ytghdgenlkbocmaa
