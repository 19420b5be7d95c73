/- classes.Minus, Not, Sub, Count. -/
import Derived.Test.YtooiegejchcbhaaDoorKAdd
import Derived.Test.YtooiegejchcbhaaDoorOnes
import Derived.Lib.QuietBelow
import Derived.BigQuiet
namespace Go.Proofs.YtooiegejchcbhaaDoor
open Go.RowKit Go.Shelf

def notN (x : Nat) : Nat := 18446744073709551615 - x
theorem notN_lt (x : Nat) : notN x < 18446744073709551616 := by unfold notN; omega
theorem word_not (s : CSet) (i : Nat) (hi : i < 4) : word (~~~s) i = notN (word s i) := by
  symm; apply eq_word
  · exact notN_lt _
  · intro j hj
    have := Nat.testBit_two_pow_sub_succ (n := 64) (x := word s i) (word_lt s i) j
    rw [show (2 : Nat) ^ 64 - (word s i + 1) = notN (word s i) by unfold notN; omega] at this
    rw [this, decide_eq_true hj, Bool.true_and, word_testBit s i j hj, BitVec.getLsbD_not, decide_eq_true (by omega), Bool.true_and]
theorem word_minus (s t : CSet) (i : Nat) (hi : i < 4) : word (s &&& ~~~t) i = word s i &&& notN (word t i) := by rw [word_and, word_not t i hi]

theorem minusF_p (x y : Nat) (hx : x < 18446744073709551616) (hy : y < 18446744073709551616) (w : World) : Calls Tryd.prog 51 #[.int .u64 (x : Int), .int .u64 (y : Int)] w fun e w' => e = .returned (.int .u64 ((x &&& notN y : Nat) : Int)) ∧ w = w' := by
  have h : bits .andNot .u64 (x : Int) (y : Int) = ((x &&& notN y : Nat) : Int) := u64_andNot_nat x y hx hy
  go_enter Tryd.func51, Tryd.ntmps51
  go_wp2
  go_ret
  first | exact ⟨rfl, rfl⟩ | exact ⟨by rw [← h]; rfl, rfl⟩
theorem xor_ones (x : Nat) (hx : x < 18446744073709551616) : 18446744073709551615 ^^^ x = notN x := by
  apply Nat.eq_of_testBit_eq
  intro j
  have h1 := Nat.testBit_two_pow_sub_succ (n := 64) (x := x) hx j
  rw [show (2 : Nat) ^ 64 - (x + 1) = notN x by unfold notN; omega] at h1
  have h2 := Nat.testBit_two_pow_sub_one 64 j
  rw [show (2 : Nat) ^ 64 - 1 = 18446744073709551615 from rfl] at h2
  rw [Nat.testBit_xor, h1, h2]
  by_cases hj : j < 64
  · simp [hj]
  · rw [decide_eq_false hj, Nat.testBit_lt_two_pow (Nat.lt_of_lt_of_le hx (show 2 ^ 64 ≤ 2 ^ j from Nat.pow_le_pow_right (by decide) (by omega)))]
    rfl
theorem xor_max (x : Nat) (hx : x < 18446744073709551616) : bits .xor .u64 IntKind.u64.max (x : Int) = ((notN x : Nat) : Int) := by
  have e : IntKind.u64.max = ((18446744073709551615 : Nat) : Int) := by decide
  rw [e, u64_xor_nat 18446744073709551615 x (by decide) hx, xor_ones x hx]
theorem notF_p (x y : Nat) (hx : x < 18446744073709551616) (w : World) : Calls Tryd.prog 50 #[.int .u64 (x : Int), .int .u64 (y : Int)] w fun e w' => e = .returned (.int .u64 ((notN x : Nat) : Int)) ∧ w = w' := by
  have HX := Lib.hid (xor_max x hx)
  have hsg : ¬ IntKind.u64.signed = true := by decide
  go_enter Tryd.func50, Tryd.ntmps50
  go_wp2
  go_ret
  exact ⟨by rw [← HX.out]; rfl, rfl⟩

set_option maxRecDepth 100000 in
set_option maxHeartbeats 1000000 in
theorem minus_p (s t : CSet) (w : World) : Calls Tryd.prog 27 #[setV s, setV t] w fun e w' => e = .returned (setV (s &&& ~~~t)) ∧ Below w.heap.size w w' := by
  have a2 := SetAt.zero ((w.alloc (.cells (setC s) 24)).alloc (.cells (setC t) 24))
  rw [World.size_alloc, World.size_alloc] at a2
  have hB0 : Below w.heap.size w (((w.alloc (.cells (setC s) 24)).alloc (.cells (setC t) 24)).alloc (.cells #[.int .u64 0, .int .u64 0, .int .u64 0, .int .u64 0] 24)) := (((Below.refl _ _).alloc (Nat.le_refl _) _).alloc (by simp) _).alloc (by simp; omega) _
  have A2 := Lib.hid a2
  have HB0 := Lib.hid hB0
  clear a2 hB0
  have hc := fun w => each_p 51 (enters_of Tryd.func51 (by kernel_rfl) rfl) (fun x y => x &&& notN y) s t (mixS s (s &&& ~~~t)) (mix_zero _ _) (mix_step s t (s &&& ~~~t) (fun x y => x &&& notN y) fun i hi => word_minus s t i hi) (fun k _ w => minusF_p _ _ (word_lt _ _) (word_lt _ _) w) w
  rw [mix_all] at hc
  have HC := Lib.hid hc
  clear hc
  unfold setV setC
  go_enter Tryd.func27, Tryd.ntmps27
  go_wp2_with fail
  refine (HC.out _).mono ?_
  rintro e w1 ⟨rfl, hb1⟩
  have h2 := A2.out.below hb1 (by simp <;> omega)
  have HB1 := Lib.hid (next HB0.out hb1)
  obtain ⟨d0, d1, d2, d3⟩ := h2.cells
  obtain ⟨f0, f1, f2, f3⟩ := h2.free
  clear hb1
  unfold setV setC
  go_wp2_with fail
  obtain ⟨q0, q1, q2, q3⟩ := (h2.put (s &&& ~~~t)).cells
  show bodyPost _ _ _ _ _ (putSet w1 (w.heap.size + 1 + 1) (s &&& ~~~t))
  exact bodyPost_ret (v := .agg #[.int .u64 _, .int .u64 _, .int .u64 _, .int .u64 _]) (by simp [results, Tryd.results27, go_sem, q0, q1, q2, q3]) rfl ⟨rfl, below_put HB1.out (by omega) _⟩

set_option maxRecDepth 100000 in
set_option maxHeartbeats 1000000 in
theorem not_p (s : CSet) (w : World) : Calls Tryd.prog 26 #[setV s] w fun e w' => e = .returned (setV (~~~s)) ∧ Below w.heap.size w w' := by
  have a2 := SetAt.zero (w.alloc (.cells (setC s) 24))
  rw [World.size_alloc] at a2
  have hB0 : Below w.heap.size w ((w.alloc (.cells (setC s) 24)).alloc (.cells #[.int .u64 0, .int .u64 0, .int .u64 0, .int .u64 0] 24)) := ((Below.refl _ _).alloc (Nat.le_refl _) _).alloc (by simp) _
  have A2 := Lib.hid a2
  have HB0 := Lib.hid hB0
  clear a2 hB0
  have hc := fun w => each_p 50 (enters_of Tryd.func50 (by kernel_rfl) rfl) (fun x _ => notN x) s s (mixS s (~~~s)) (mix_zero _ _) (mix_step s s (~~~s) (fun x _ => notN x) fun i hi => word_not s i hi) (fun k _ w => notF_p _ _ (word_lt _ _) w) w
  rw [mix_all] at hc
  have HC := Lib.hid hc
  clear hc
  unfold setV setC
  go_enter Tryd.func26, Tryd.ntmps26
  go_wp2_with fail
  refine (HC.out _).mono ?_
  rintro e w1 ⟨rfl, hb1⟩
  have h2 := A2.out.below hb1 (by simp <;> omega)
  have HB1 := Lib.hid (next HB0.out hb1)
  obtain ⟨d0, d1, d2, d3⟩ := h2.cells
  obtain ⟨f0, f1, f2, f3⟩ := h2.free
  clear hb1
  unfold setV setC
  go_wp2_with fail
  obtain ⟨q0, q1, q2, q3⟩ := (h2.put (~~~s)).cells
  show bodyPost _ _ _ _ _ (putSet w1 (w.heap.size + 1) (~~~s))
  exact bodyPost_ret (v := .agg #[.int .u64 _, .int .u64 _, .int .u64 _, .int .u64 _]) (by simp [results, Tryd.results26, go_sem, q0, q1, q2, q3]) rfl ⟨rfl, below_put HB1.out (by omega) _⟩

theorem and_eq_self (s t : CSet) : (s &&& t = s) ↔ (s &&& ~~~t = 0#256) := by
  constructor
  · intro h
    apply set_ext
    intro b hb
    have := congrArg (fun x => hasB x b) h
    simp only [hasB_and] at this
    rw [hasB_and, hasB_not _ _ hb, show hasB 0#256 b = false by simp [hasB]]
    cases h1 : hasB s b <;> cases h2 : hasB t b <;> simp_all
  · intro h
    apply set_ext
    intro b hb
    have := congrArg (fun x => hasB x b) h
    simp only [hasB_and, hasB_not _ _ hb, show hasB 0#256 b = false by simp [hasB]] at this
    rw [hasB_and]
    cases h1 : hasB s b <;> cases h2 : hasB t b <;> simp_all
set_option maxRecDepth 100000 in
set_option maxHeartbeats 1000000 in
theorem sub_p (s t : CSet) (w : World) : Calls Tryd.prog 32 #[setV s, setV t] w fun e w' => e = .returned (.bool (decide (s &&& ~~~t = 0#256))) ∧ Below w.heap.size w w' := by
  have hd : decide (s &&& ~~~t = 0#256) = decide (s &&& t = s) := by rw [decide_eq_decide]; exact (and_eq_self s t).symm
  rw [hd]
  have M := Lib.hid (fun w => meet_p s t w)
  have q0 := SetAt.new (w.alloc (.cells (setC s) 24)) t
  rw [World.size_alloc] at q0
  have q1 := (SetAt.new w s).alloc (.cells (setC t) 24)
  obtain ⟨c0, c1, c2, c3⟩ := q1.cells
  obtain ⟨e0, e1, e2, e3⟩ := q0.cells
  have hb : Below w.heap.size w ((w.alloc (.cells (setC s) 24)).alloc (.cells (setC t) 24)) := ((Below.refl _ _).alloc (Nat.le_refl _) _).alloc (by simp) _
  have HB := Lib.hid hb
  have req := run_eq_set (s := s &&& t) (t := s)
  clear hd q0 q1 hb
  unfold setV setC at *
  go_enter Tryd.func32, Tryd.ntmps32
  go_wp2_with fail
  generalize (w.alloc (.cells #[.int .u64 (word s 0 : Int), .int .u64 (word s 1 : Int), .int .u64 (word s 2 : Int), .int .u64 (word s 3 : Int)] 24)).alloc (.cells #[.int .u64 (word t 0 : Int), .int .u64 (word t 1 : Int), .int .u64 (word t 2 : Int), .int .u64 (word t 3 : Int)] 24) = W at *
  have g0 := fun d os => cell_regrown c0 d os
  have g1 := fun d os => cell_regrown c1 d os
  have g2 := fun d os => cell_regrown c2 d os
  have g3 := fun d os => cell_regrown c3 d os
  have g4 := fun d os => cell_regrown e0 d os
  have g5 := fun d os => cell_regrown e1 d os
  have g6 := fun d os => cell_regrown e2 d os
  have g7 := fun d os => cell_regrown e3 d os
  clear c0 c1 c2 c3 e0 e1 e2 e3
  refine wp_region_quiet_below (by kernel_rfl) (by kernel_rfl) ?_
  repeat (go_big_quiet_step ((go_at_call 25; exact Calls.regrown_of (M.out _))))
  refine wpQuiet_nil ?_
  intro _ hw'
  obtain ⟨⟨dq, osq⟩, hw''⟩ := hw'
  subst hw''
  clear g0 g1 g2 g3 g4 g5 g6 g7
  go_wp2_with fail
  go_ret
  exact ⟨rfl, next HB.out (below_regrown _ _ _)⟩

theorem index0 (a b c d : Int) (w : World) : (Instr.index 24 (.agg #[.int .u64 a, .int .u64 b, .int .u64 c, .int .u64 d]) (.int .i64 0)).run Tryd.prog w = .ok (.int .u64 a) w := by kernel_rfl
theorem index1 (a b c d : Int) (w : World) : (Instr.index 24 (.agg #[.int .u64 a, .int .u64 b, .int .u64 c, .int .u64 d]) (.int .i64 1)).run Tryd.prog w = .ok (.int .u64 b) w := by kernel_rfl
theorem index2 (a b c d : Int) (w : World) : (Instr.index 24 (.agg #[.int .u64 a, .int .u64 b, .int .u64 c, .int .u64 d]) (.int .i64 2)).run Tryd.prog w = .ok (.int .u64 c) w := by kernel_rfl
theorem index3 (a b c d : Int) (w : World) : (Instr.index 24 (.agg #[.int .u64 a, .int .u64 b, .int .u64 c, .int .u64 d]) (.int .i64 3)).run Tryd.prog w = .ok (.int .u64 d) w := by kernel_rfl
theorem index_set (w : World) (s : CSet) (k : Nat) (hk : k < 4) : (Instr.index 24 (.agg #[.int .u64 (word s 0 : Int), .int .u64 (word s 1 : Int), .int .u64 (word s 2 : Int), .int .u64 (word s 3 : Int)]) (.int .i64 (k : Int))).run Tryd.prog w = .ok (.int .u64 (word s k : Int)) w := by
  match k, hk with
  | 0, _ => exact index0 _ _ _ _ w
  | 1, _ => exact index1 _ _ _ _ w
  | 2, _ => exact index2 _ _ _ _ w
  | 3, _ => exact index3 _ _ _ _ w
def cntB (s : CSet) (n : Nat) : Nat := (List.range n).countP (hasB s)
theorem cntB_step (s : CSet) (j : Nat) : cntB s (64 * (j + 1)) = cntB s (64 * j) + popN (word s j) 64 := by
  unfold cntB popN
  rw [Nat.mul_add, Nat.mul_one, List.range_add, List.countP_append, List.countP_map]
  congr 1
  apply List.countP_congr
  intro i hi
  have hi := List.mem_range.1 hi
  simp only [Function.comp_apply]
  rw [word_testBit s j i hi]
  rfl
theorem cntB_le (s : CSet) (n : Nat) : cntB s n ≤ n := by
  unfold cntB
  have := List.countP_le_length (p := hasB s) (l := List.range n)
  simpa using this
set_option maxRecDepth 100000 in
set_option maxHeartbeats 1000000 in
theorem count_p (s : CSet) (w : World) : Calls Tryd.prog 34 #[setV s] w fun e w' => e = .returned (.int .i64 (cntB s 256 : Int)) ∧ Below w.heap.size w w' := by
  have hb := (Below.refl w.heap.size w).alloc (Nat.le_refl _) (.cells (setC s) 24)
  have HB := Lib.hid hb
  clear hb
  unfold setV setC at *
  go_enter Tryd.func34, Tryd.ntmps34
  go_wp2_with fail
  go_loop [3, 7] (fun nv iv => ∃ i n : Nat, i ≤ 4 ∧ n = cntB s (64 * i) ∧ nv = .int .i64 (n : Nat) ∧ iv = .int .i64 (i : Nat)) (fun _ iv => 4 - (intOf iv).toNat)
  case atStart => exact ⟨0, 0, by omega, rfl, rfl, rfl⟩
  case round =>
    obtain ⟨i, n, hi, hn, rfl, rfl⟩ := hrel
    have hle := cntB_le s (64 * i)
    have hn256 : n ≤ 256 := by omega
    have HN := Lib.hid hn
    have i0 : (0 : Int) ≤ (i : Int) := by omega
    clear hn hle
    by_cases hlt : i < 4
    · have hst := cntB_step s i
      have hpl : popN (word s i) 64 ≤ 64 := by
        unfold popN
        have := List.countP_le_length (p := fun j => (word s i).testBit j) (l := List.range 64)
        simpa using this
      have HST := Lib.hid hst
      have i1 : (i : Int) < 4 := by omega
      have hix := fun w => index_set w s i hlt
      clear hst
      go_wp2_with fail
      refine (ones_p (word s i) (word_lt s i) _).mono ?_
      rintro e w1 ⟨rfl, rfl⟩
      generalize hp : popN (word s i) 64 = p at *
      clear hix
      go_wp2_with fail
      go_round
      case rel => exact ⟨i + 1, n + p, by omega, by rw [HST.out, ← HN.out], by go_num, by go_num⟩
      case measure => simp [intOf]; omega
    · obtain rfl : i = 4 := by omega
      go_wp2_with fail
      go_ret
      exact ⟨by rw [show (256 : Nat) = 64 * 4 from rfl, ← HN.out]; rfl, HB.out⟩
end Go.Proofs.YtooiegejchcbhaaDoor
