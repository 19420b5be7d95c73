/- The comparisons of regions and rows. -/
import Derived.Test.YtomjefplacgoeaaDoorArFind
import Derived.Lib.QuietBelow
namespace Go.Proofs.YtomjefplacgoeaaDoor
open Go.RowKit Go.Sort

theorem run_neq_reg (w : World) (p q : Reg) :
    (binOp .neq 43 (.agg #[.string (str p.1), .int .i64 p.2.1, .int .i64 p.2.2]) (.agg #[.string (str q.1), .int .i64 q.2.1, .int .i64 q.2.2])).run Tryd.prog w = .ok (.bool (decide (p ≠ q))) w := by
  obtain ⟨a, x, y⟩ := p
  obtain ⟨b, x2, y2⟩ := q
  by_cases h1 : a = b
  · by_cases h2 : x = x2
    · by_cases h3 : y = y2
      · simp [go_sem, h1, h2, h3]
      · simp [go_sem, h1, h2, h3]
    · simp [go_sem, h1, h2]
  · have h0 : ¬ str a = str b := fun e => h1 (by have := congrArg ByteArray.toList e; rwa [toL_str, toL_str] at this)
    have h00 : ¬ (str a).toList = (str b).toList := fun e => h1 (by rwa [toL_str, toL_str] at e)
    simp [go_sem, h1, h0, h00]
theorem ccells_at (l : List Nat) (i : Nat) (h : i < l.length) : (ccells l)[i * 1]? = some (.int .u64 (l[i] : Int)) := by
  simp [ccells, List.getElem?_eq_getElem h]
abbrev Us (w : World) (v : Value) (l : List Nat) : Prop := Row w 1 v l.length (ccells l)
theorem Us.at {w : World} {a : Option Addr} {n cap : Nat} {l : List Nat} (h : Us w (.slice a n cap) l) {i : Nat} (hi : i < l.length) :
    ∃ g o, a = some ⟨g, o, none⟩ ∧ g < w.heap.size ∧ w.cell? ⟨g, o + i, none⟩ = some (.int .u64 (l[i] : Int)) := by
  obtain ⟨g, o, cap', e, hg, hc⟩ := Row.cellAt2 h hi (by omega)
  cases e
  have e0 := ccells_at l i hi
  have h0 := (hc 0 (by omega)).trans e0
  rw [Nat.mul_one, Nat.add_zero] at h0
  exact ⟨g, o, rfl, hg, h0⟩

set_option maxRecDepth 100000 in
set_option maxHeartbeats 2000000 in
theorem same_reg (va vb : Value) (la lb : List Reg) (w : World) (ha : Regs w va la) (hb : Regs w vb lb) :
    Calls Tryd.prog 31 #[va, vb] w fun e w' => e = .returned (.bool (decide (la = lb))) ∧ Below w.heap.size w w' := by
  obtain ⟨a, capa, rfl⟩ := Row.form2 ha
  obtain ⟨b, capb, rfl⟩ := Row.form2 hb
  have hm1 : la.length ≤ 9223372036854775807 := by have := ha.2.1; unfold maxLen at this; omega
  have HA := Lib.hid ha
  have HB := Lib.hid hb
  clear ha hb
  by_cases hl : la.length = lb.length
  · have HL := Lib.hid hl
    have tl : ((la.length : Int) != (lb.length : Int)) = false := by rw [hl]; exact bne_self_eq_false _
    clear hl
    go_enter Tryd.func31, Tryd.ntmps31
    go_wp2_with fail
    go_loopw [5] (fun iv wr => ∃ k : Nat, k ≤ la.length ∧ iv = .int .i64 (k : Nat) ∧ la.take k = lb.take k ∧ Below w.heap.size w wr) (fun iv _ => la.length - (intOf iv).toNat)
    case atStart => exact ⟨0, by omega, rfl, rfl, Below.refl _ _⟩
    case round =>
      obtain ⟨k, hk, rfl, heq, hBl⟩ := hrel
      have HE := Lib.hid heq
      have HW := Lib.hid hBl
      clear heq hBl
      by_cases hlt : k < la.length
      · have hlt' : k < lb.length := by have := HL.out; omega
        obtain ⟨g, o, hga, hg, hc0, hc1, hc2⟩ := Regs.at (Row.below HA.out HW.out) hlt
        obtain ⟨g2, o2, hgb, hg2, hd0, hd1, hd2⟩ := Regs.at (Row.below HB.out HW.out) hlt'
        subst hga
        subst hgb
        have i1 : (0 : Int) ≤ (k : Int) := by omega
        have i2 : (k : Int) < (la.length : Int) := by omega
        have i3 : (k : Int) < (lb.length : Int) := by omega
        have hne := run_neq_reg
        have q0 := fun d os => cell_regrown hc0 d os
        have q1 := fun d os => cell_regrown hc1 d os
        have q2 := fun d os => cell_regrown hd0 d os
        have q3 := fun d os => cell_regrown hd1 d os
        have q4 := fun d os => cell_regrown hc2 d os
        have q5 := fun d os => cell_regrown hd2 d os
        have wi1 : IntKind.i64.wrap ((k : Int) + 1) = (k : Int) + 1 := IntWalk.i64_in _ (by omega)
        clear hc0 hc1 hc2 hd0 hd1 hd2 hg hg2
        by_cases hpq : la[k] = lb[k]
        · have hdec : decide (la[k] ≠ lb[k]) = false := by simp [hpq]
          have HPQ := Lib.hid hpq
          clear hpq
          go_wp2_with fail
          refine wp_region_quiet_below (by kernel_rfl) (by kernel_rfl) ?_
          repeat (go_big_quiet_step (fail))
          refine wpQuiet_nil ?_
          intro _ hw'
          obtain ⟨⟨dq, osq⟩, hw''⟩ := hw'
          subst hw''
          clear q0 q1 q2 q3 q4 q5
          go_wp2_with fail
          exact ⟨⟨k + 1, by omega, by go_num, take_eq hlt hlt' HE.out HPQ.out, next HW.out (below_regrown _ _ _)⟩, by simp [intOf]; omega⟩
        · have hdec : decide (la[k] ≠ lb[k]) = true := by simp [hpq]
          have hno : decide (la = lb) = false := by
            simp only [decide_eq_false_iff_not]; intro e; subst e; exact hpq rfl
          have HNO := Lib.hid hno
          clear hpq hno
          go_wp2_with fail
          refine wp_region_quiet_below (by kernel_rfl) (by kernel_rfl) ?_
          repeat (go_big_quiet_step (fail))
          refine wpQuiet_nil ?_
          intro _ hw'
          obtain ⟨⟨dq, osq⟩, hw''⟩ := hw'
          subst hw''
          clear q0 q1 q2 q3 q4 q5
          go_wp2_with fail
          go_ret
          exact ⟨by rw [HNO.out]; rfl, next HW.out (below_regrown _ _ _)⟩
      · obtain rfl : la.length = k := by omega
        have i1 : ¬ ((la.length : Int) < (la.length : Int)) := by omega
        have e : la = lb := by
          have h1 := HE.out
          have h2 := HL.out
          rwa [List.take_of_length_le (Nat.le_refl _), List.take_of_length_le (by omega)] at h1
        have HD := Lib.hid (decide_eq_true e)
        clear e
        go_wp2_with fail
        go_ret
        exact ⟨by rw [HD.out]; rfl, HW.out⟩
  · have tl : ((la.length : Int) != (lb.length : Int)) = true := bne_iff_ne.2 (by omega)
    have hno : decide (la = lb) = false := by
      simp only [decide_eq_false_iff_not]; intro e; exact hl (by rw [e])
    rw [hno]
    clear hl hno
    go_enter Tryd.func31, Tryd.ntmps31
    go_wp2_with fail
    go_ret
    exact ⟨rfl, Below.refl _ _⟩

set_option maxRecDepth 100000 in
set_option maxHeartbeats 2000000 in
theorem same_u (va vb : Value) (la lb : List Nat) (w : World) (ha : Us w va la) (hb : Us w vb lb) :
    Calls Tryd.prog 15 #[va, vb] w fun e w' => e = .returned (.bool (decide (la = lb))) ∧ Below w.heap.size w w' := by
  obtain ⟨a, capa, rfl⟩ := Row.form2 ha
  obtain ⟨b, capb, rfl⟩ := Row.form2 hb
  have hm1 : la.length ≤ 9223372036854775807 := by have := ha.2.1; unfold maxLen at this; omega
  have HA := Lib.hid ha
  have HB := Lib.hid hb
  clear ha hb
  by_cases hl : la.length = lb.length
  · have HL := Lib.hid hl
    have tl : ((la.length : Int) != (lb.length : Int)) = false := by rw [hl]; exact bne_self_eq_false _
    clear hl
    go_enter Tryd.func15, Tryd.ntmps15
    go_wp2_with fail
    go_loopw [5] (fun iv wr => ∃ k : Nat, k ≤ la.length ∧ iv = .int .i64 (k : Nat) ∧ la.take k = lb.take k ∧ Below w.heap.size w wr) (fun iv _ => la.length - (intOf iv).toNat)
    case atStart => exact ⟨0, by omega, rfl, rfl, Below.refl _ _⟩
    case round =>
      obtain ⟨k, hk, rfl, heq, hBl⟩ := hrel
      have HE := Lib.hid heq
      have HW := Lib.hid hBl
      clear heq hBl
      by_cases hlt : k < la.length
      · have hlt' : k < lb.length := by have := HL.out; omega
        obtain ⟨g, o, hga, hg, hc0⟩ := Us.at (Row.below HA.out HW.out) hlt
        obtain ⟨g2, o2, hgb, hg2, hd0⟩ := Us.at (Row.below HB.out HW.out) hlt'
        subst hga
        subst hgb
        have i1 : (0 : Int) ≤ (k : Int) := by omega
        have i2 : (k : Int) < (la.length : Int) := by omega
        have i3 : (k : Int) < (lb.length : Int) := by omega
        have q0 := fun d os => cell_regrown hc0 d os
        have q2 := fun d os => cell_regrown hd0 d os
        have wi1 : IntKind.i64.wrap ((k : Int) + 1) = (k : Int) + 1 := IntWalk.i64_in _ (by omega)
        clear hc0 hd0 hg hg2
        by_cases hpq : la[k] = lb[k]
        · have hdec : ((la[k] : Int) != (lb[k] : Int)) = false := by rw [hpq]; exact bne_self_eq_false _
          have HPQ := Lib.hid hpq
          clear hpq
          go_wp2_with fail
          refine wp_region_quiet_below (by kernel_rfl) (by kernel_rfl) ?_
          repeat (go_big_quiet_step (fail))
          refine wpQuiet_nil ?_
          intro _ hw'
          obtain ⟨⟨dq, osq⟩, hw''⟩ := hw'
          subst hw''
          clear q0 q2
          go_wp2_with fail
          exact ⟨⟨k + 1, by omega, by go_num, take_eq hlt hlt' HE.out HPQ.out, next HW.out (below_regrown _ _ _)⟩, by simp [intOf]; omega⟩
        · have hdec : ((la[k] : Int) != (lb[k] : Int)) = true := bne_iff_ne.2 (by omega)
          have hno : decide (la = lb) = false := by
            simp only [decide_eq_false_iff_not]; intro e; subst e; exact hpq rfl
          have HNO := Lib.hid hno
          clear hpq hno
          go_wp2_with fail
          refine wp_region_quiet_below (by kernel_rfl) (by kernel_rfl) ?_
          repeat (go_big_quiet_step (fail))
          refine wpQuiet_nil ?_
          intro _ hw'
          obtain ⟨⟨dq, osq⟩, hw''⟩ := hw'
          subst hw''
          clear q0 q2
          go_wp2_with fail
          go_ret
          exact ⟨by rw [HNO.out]; rfl, next HW.out (below_regrown _ _ _)⟩
      · obtain rfl : la.length = k := by omega
        have i1 : ¬ ((la.length : Int) < (la.length : Int)) := by omega
        have e : la = lb := by
          have h1 := HE.out
          have h2 := HL.out
          rwa [List.take_of_length_le (Nat.le_refl _), List.take_of_length_le (by omega)] at h1
        have HD := Lib.hid (decide_eq_true e)
        clear e
        go_wp2_with fail
        go_ret
        exact ⟨by rw [HD.out]; rfl, HW.out⟩
  · have tl : ((la.length : Int) != (lb.length : Int)) = true := bne_iff_ne.2 (by omega)
    have hno : decide (la = lb) = false := by
      simp only [decide_eq_false_iff_not]; intro e; exact hl (by rw [e])
    rw [hno]
    clear hl hno
    go_enter Tryd.func15, Tryd.ntmps15
    go_wp2_with fail
    go_ret
    exact ⟨rfl, Below.refl _ _⟩
end Go.Proofs.YtomjefplacgoeaaDoor
