/- Equality of patterns. -/
import Derived.Test.YtllkohjmghoipaaPaMatR
namespace Go.Proofs.Ytllkohjmghoipaa
open Go.RowKit Go.Sort

theorem eq_wordsd (n : Nat) (a b c d a' b' c' d' : Int) (w : World) : (Op.equalIn (n + 1 + 1) 45 (.agg #[.int .u64 a, .int .u64 b, .int .u64 c, .int .u64 d]) (.agg #[.int .u64 a', .int .u64 b', .int .u64 c', .int .u64 d'])).run Try.prog w = .ok (a == a' && (b == b' && (c == c' && d == d'))) w := by
  have u3 := Try.underlying43
  have a3 := Try.isAgg43
  have z3 := Try.sizeOf43
  rw [Op.equalIn]
  simp only [Sem.run_bind, run_underlying Try.underlying45, Result.andThen_ok]
  simp only [Std.Legacy.Range.forIn_eq_forIn_range', Std.Legacy.Range.size, Nat.sub_zero, Nat.add_sub_cancel, Nat.div_one, List.range'_succ, List.range'_zero, List.forIn_cons, List.forIn_nil]
  go_simp
  by_cases h1 : a = a' <;> by_cases h2 : b = b' <;> by_cases h3 : c = c' <;> by_cases h4 : d = d' <;> simp [h1, h2, h3, h4]
theorem eq_el (n : Nat) (g g' : Bool) (l h l' h' a b c d a' b' c' d' : Int) (w : World) : (Op.equalIn (n + 1 + 1 + 1) 47 (.agg #[.bool g, .int .u64 a, .int .u64 b, .int .u64 c, .int .u64 d, .int .i64 l, .int .i64 h])
    (.agg #[.bool g', .int .u64 a', .int .u64 b', .int .u64 c', .int .u64 d', .int .i64 l', .int .i64 h'])).run Try.prog w = .ok (g == g' && ((a == a' && (b == b' && (c == c' && d == d'))) && (l == l' && h == h'))) w := by
  have u1 := Try.underlying4
  have u2 := Try.underlying3
  have a1 := Try.isAgg4
  have a2 := Try.isAgg3
  have a4 := Try.isAgg45
  have z1 := Try.sizeOf4
  have z2 := Try.sizeOf3
  have z4 := Try.sizeOf45
  have hs := fun w => eq_wordsd n a b c d a' b' c' d' w
  rw [Op.equalIn]
  simp only [Sem.run_bind, run_underlying Try.underlying47, Result.andThen_ok]
  go_simp
  by_cases hg : g = g' <;> by_cases h1 : a = a' <;> by_cases h2 : b = b' <;> by_cases h3 : c = c' <;> by_cases h4 : d = d' <;> by_cases h5 : l = l' <;> by_cases h6 : h = h' <;> simp [hg, h1, h2, h3, h4, h5, h6]
def elW (x : El) : Value := .agg #[.bool x.gap, .int .u64 (word x.cls 0 : Int), .int .u64 (word x.cls 1 : Int), .int .u64 (word x.cls 2 : Int), .int .u64 (word x.cls 3 : Int), .int .i64 x.low, .int .i64 x.high]
theorem el_iff (x y : El) : (x.gap == y.gap && (((word x.cls 0 : Int) == (word y.cls 0 : Int) && ((word x.cls 1 : Int) == (word y.cls 1 : Int) && ((word x.cls 2 : Int) == (word y.cls 2 : Int) && (word x.cls 3 : Int) == (word y.cls 3 : Int)))) && (x.low == y.low && x.high == y.high))) = decide (x = y) := by
  rw [Bool.eq_iff_iff]
  simp only [Bool.and_eq_true, beq_iff_eq, decide_eq_true_eq]
  constructor
  · rintro ⟨hg, ⟨h0, h1, h2, h3⟩, hl, hh⟩
    have hc : x.cls = y.cls := by
      apply word_ext
      intro i hi
      match i, hi with
      | 0, _ => exact_mod_cast h0
      | 1, _ => exact_mod_cast h1
      | 2, _ => exact_mod_cast h2
      | 3, _ => exact_mod_cast h3
    cases x; cases y
    simp only at hg hc hl hh
    subst hg hc hl hh
    rfl
  · rintro rfl
    exact ⟨rfl, ⟨rfl, rfl, rfl, rfl⟩, rfl, rfl⟩
theorem run_ne_el (w : World) (x y : El) : (binOp .neq 47 (.agg #[.bool x.gap, .int .u64 (word x.cls 0 : Int), .int .u64 (word x.cls 1 : Int), .int .u64 (word x.cls 2 : Int), .int .u64 (word x.cls 3 : Int), .int .i64 x.low, .int .i64 x.high])
    (.agg #[.bool y.gap, .int .u64 (word y.cls 0 : Int), .int .u64 (word y.cls 1 : Int), .int .u64 (word y.cls 2 : Int), .int .u64 (word y.cls 3 : Int), .int .i64 y.low, .int .i64 y.high])).run Try.prog w = .ok (.bool (!decide (x = y))) w := by
  have h := eq_el 9997 x.gap y.gap x.low x.high y.low y.high (word x.cls 0) (word x.cls 1) (word x.cls 2) (word x.cls 3) (word y.cls 0) (word y.cls 1) (word y.cls 2) (word y.cls 3) w
  rw [el_iff] at h
  simp [go_sem, h]
set_option maxRecDepth 100000 in
set_option maxHeartbeats 4000000 in
theorem same_r (va vb : Value) (la lb : List El) (w : World) (ha : Pats w va la) (hb : Pats w vb lb) :
    Calls Try.prog 25 #[va, vb] w fun e w' => e = .returned (.bool (decide (la = lb))) ∧ Below w.heap.size w w' := by
  obtain ⟨a, capa, rfl⟩ := Row.form2 ha
  obtain ⟨b, capb, rfl⟩ := Row.form2 hb
  have hm1 : la.length ≤ 9223372036854775807 := by have := ha.2.1; unfold maxLen at this; omega
  have HA := Lib.hid ha
  have HB := Lib.hid hb
  clear ha hb
  go_enter Try.func25, Try.ntmps25
  go_wp2_with fail
  go_loopw [5] (fun iv wr => ∃ k : Nat, k ≤ la.length ∧ k ≤ lb.length ∧ iv = .int .i64 (k : Nat) ∧ la.take k = lb.take k ∧ Below w.heap.size w wr) (fun iv _ => la.length - (intOf iv).toNat)
  case atStart => exact ⟨0, by omega, by omega, rfl, rfl, Below.refl _ _⟩
  case round =>
    obtain ⟨k, hk, hk2, rfl, heq, hBl⟩ := hrel
    have HE := Lib.hid heq
    have HW := Lib.hid hBl
    clear heq hBl
    by_cases hlt : k < la.length
    · have i1 : (0 : Int) ≤ (k : Int) := by omega
      have i2 : (k : Int) < (la.length : Int) := by omega
      by_cases hlt' : k < lb.length
      · obtain ⟨g, o, hga, hg, c0, c1, c2, c3, c4, c5, c6⟩ := Pats.at (Row.below HA.out HW.out) hlt
        obtain ⟨g2, o2, hgb, hg2, d0, d1, d2, d3, d4, d5, d6⟩ := Pats.at (Row.below HB.out HW.out) hlt'
        subst hga
        subst hgb
        have i3 : (k : Int) < (lb.length : Int) := by omega
        have p0 := fun d os => cell_regrown c0 d os
        have p1 := fun d os => cell_regrown c1 d os
        have p2 := fun d os => cell_regrown c2 d os
        have p3 := fun d os => cell_regrown c3 d os
        have p4 := fun d os => cell_regrown c4 d os
        have p5 := fun d os => cell_regrown c5 d os
        have p6 := fun d os => cell_regrown c6 d os
        have q0 := fun d os => cell_regrown d0 d os
        have q1 := fun d os => cell_regrown d1 d os
        have q2 := fun d os => cell_regrown d2 d os
        have q3 := fun d os => cell_regrown d3 d os
        have q4 := fun d os => cell_regrown d4 d os
        have q5 := fun d os => cell_regrown d5 d os
        have q6 := fun d os => cell_regrown d6 d os
        have wi1 : IntKind.i64.wrap ((k : Int) + 1) = (k : Int) + 1 := IntWalk.i64_in _ (by omega)
        have hne := fun w => run_ne_el w la[k] lb[k]
        clear hg hg2 c0 c1 c2 c3 c4 c5 c6 d0 d1 d2 d3 d4 d5 d6
        by_cases hpq : la[k] = lb[k]
        · have hdec : decide (la[k] = lb[k]) = true := decide_eq_true hpq
          rw [hdec] at hne
          have HT := Lib.hid (take_eq hlt hlt' HE.out hpq)
          clear hpq hdec
          generalize la[k] = x at *
          generalize lb[k] = y at *
          go_wp2_with fail
          refine wp_region_quiet_below (by kernel_rfl) (by kernel_rfl) ?_
          repeat (go_big_quiet_step (fail))
          refine wpQuiet_nil ?_
          intro _ hw'
          obtain ⟨⟨dq, osq⟩, hw''⟩ := hw'
          subst hw''
          have HB2 := Lib.hid (next HW.out (below_regrown _ dq osq))
          clear p0 p1 p2 p3 p4 p5 p6 q0 q1 q2 q3 q4 q5 q6
          go_wp2_with fail
          exact ⟨⟨k + 1, by omega, by omega, by go_num, HT.out, HB2.out⟩, by simp [intOf]; omega⟩
        · have hdec : decide (la[k] = lb[k]) = false := decide_eq_false hpq
          rw [hdec] at hne
          have HNO := Lib.hid (show decide (la = lb) = false by
            simp only [decide_eq_false_iff_not]; intro e; subst e; exact hpq rfl)
          clear hpq hdec
          generalize la[k] = x at *
          generalize lb[k] = y at *
          go_wp2_with fail
          refine wp_region_quiet_below (by kernel_rfl) (by kernel_rfl) ?_
          repeat (go_big_quiet_step (fail))
          refine wpQuiet_nil ?_
          intro _ hw'
          obtain ⟨⟨dq, osq⟩, hw''⟩ := hw'
          subst hw''
          have HB2 := Lib.hid (next HW.out (below_regrown _ dq osq))
          clear p0 p1 p2 p3 p4 p5 p6 q0 q1 q2 q3 q4 q5 q6
          go_wp2_with fail
          go_ret
          exact ⟨by rw [HNO.out]; rfl, HB2.out⟩
      · have i3 : ¬ (k : Int) < (lb.length : Int) := by omega
        have tl : ((la.length : Int) == (lb.length : Int)) = false := beq_eq_false_iff_ne.2 (by omega)
        have HNO := Lib.hid (show decide (la = lb) = false by
          simp only [decide_eq_false_iff_not]; intro e; subst e; omega)
        go_wp2_with fail
        go_ret
        exact ⟨by rw [HNO.out]; rfl, HW.out⟩
    · obtain rfl : la.length = k := by omega
      have i1 : ¬ ((la.length : Int) < (la.length : Int)) := by omega
      by_cases hl : la.length = lb.length
      · have tl : ((la.length : Int) == (lb.length : Int)) = true := beq_iff_eq.2 (by omega)
        have e : la = lb := by
          have h1 := HE.out
          rwa [List.take_of_length_le (Nat.le_refl _), List.take_of_length_le (by omega)] at h1
        have HD := Lib.hid (decide_eq_true e)
        clear e hl
        go_wp2_with fail
        go_ret
        exact ⟨by rw [HD.out]; rfl, HW.out⟩
      · have tl : ((la.length : Int) == (lb.length : Int)) = false := beq_eq_false_iff_ne.2 (by omega)
        have HNO := Lib.hid (show decide (la = lb) = false by
          simp only [decide_eq_false_iff_not]; intro e; exact hl (by rw [e]))
        clear hl
        go_wp2_with fail
        go_ret
        exact ⟨by rw [HNO.out]; rfl, HW.out⟩
end Go.Proofs.Ytllkohjmghoipaa
