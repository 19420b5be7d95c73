/- The comparisons of traces and rows. -/
import Derived.Test.YtomjefplacgoeaaDoorArMake
import Derived.Lib.QuietBelow
namespace Go.Proofs.YtomjefplacgoeaaDoor
open Go.RowKit Go.Sort

theorem Row.cellAt2 {w : World} {size n : Nat} {v : Value} {xs : List Value} (h : Row w size v n xs) {i : Nat} (hi : i < n) (hs : 0 < size) :
    ∃ g o cap, v = .slice (some ⟨g, o, none⟩) n cap ∧ g < w.heap.size ∧ ∀ j, j < size → w.cell? ⟨g, o + i * size + j, none⟩ = xs[i * size + j]? := by
  obtain ⟨h1, _, a, cap, rfl, _, h2⟩ := h
  rcases h2 with h0 | ⟨g, o, rfl, hc⟩
  · omega
  · have hm : ∀ j, j < size → i * size + j < n * size := fun j hj => by
      have : (i + 1) * size ≤ n * size := Nat.mul_le_mul_right _ hi
      rw [Nat.add_mul] at this; omega
    have e0 := hc (i * size + 0) (hm 0 hs)
    have hx : (xs[i * size + 0]?) = some (xs[i * size + 0]'(by rw [h1]; exact hm 0 hs)) := List.getElem?_eq_getElem _
    refine ⟨g, o, cap, rfl, World.block_lt_of_cell? w _ (e0.trans hx), fun j hj => ?_⟩
    rw [Nat.add_assoc]
    exact hc _ (hm j hj)
theorem Row.form2 {w : World} {size n : Nat} {v : Value} {xs : List Value} (h : Row w size v n xs) : ∃ a cap, v = .slice a n cap := by
  obtain ⟨_, _, a, cap, e, _⟩ := h
  exact ⟨a, cap, e⟩
theorem ecells_at : ∀ (l : List Ev) (i : Nat) (h : i < l.length), (ecells l)[i * 2]? = some (.int .i32 (l[i].1 : Int)) ∧ (ecells l)[i * 2 + 1]? = some (.int .i32 (l[i].2 : Int))
  | [], i, h => by simp at h
  | e :: l, 0, _ => by simp [ecells, ecell]
  | e :: l, i + 1, h => by
    have ih := ecells_at l i (by simpa using h)
    rw [show ecells (e :: l) = ecell e ++ ecells l from rfl, List.getElem?_append_right (by simp [ecell]; omega), List.getElem?_append_right (by simp [ecell]; omega)]
    simp only [ecell, List.length_cons, List.length_nil, List.getElem_cons_succ]
    rw [show (i + 1) * 2 - (0 + 1 + 1) = i * 2 by omega, show (i + 1) * 2 + 1 - (0 + 1 + 1) = i * 2 + 1 by omega]
    exact ih
abbrev Evs (w : World) (v : Value) (l : List Ev) : Prop := Row w 2 v l.length (ecells l)
theorem Evs.at {w : World} {a : Option Addr} {n cap : Nat} {l : List Ev} (h : Evs w (.slice a n cap) l) {i : Nat} (hi : i < l.length) :
    ∃ g o, a = some ⟨g, o, none⟩ ∧ g < w.heap.size ∧ w.cell? ⟨g, o + i * 2, none⟩ = some (.int .i32 (l[i].1 : Int)) ∧ w.cell? ⟨g, o + i * 2 + 1, none⟩ = some (.int .i32 (l[i].2 : Int)) := by
  obtain ⟨g, o, cap', e, hg, hc⟩ := Row.cellAt2 h hi (by omega)
  cases e
  obtain ⟨e0, e1⟩ := ecells_at l i hi
  exact ⟨g, o, rfl, hg, (hc 0 (by omega)).trans e0, (hc 1 (by omega)).trans e1⟩
theorem run_neq_ev (w : World) (p q : Ev) :
    (binOp .neq 54 (.agg #[.int .i32 (p.1 : Int), .int .i32 (p.2 : Int)]) (.agg #[.int .i32 (q.1 : Int), .int .i32 (q.2 : Int)])).run Tryd.prog w = .ok (.bool (decide (p ≠ q))) w := by
  obtain ⟨a, x⟩ := p
  obtain ⟨b, y⟩ := q
  by_cases h1 : a = b
  · by_cases h2 : x = y
    · simp [go_sem, h1, h2]
    · have : ¬ (x : Int) = (y : Int) := by omega
      simp [go_sem, h1, h2, this]
  · have : ¬ (a : Int) = (b : Int) := by omega
    simp [go_sem, h1, this]
theorem take_eq {α : Type} {la lb : List α} {k : Nat} (h1 : k < la.length) (h2 : k < lb.length) (h : la.take k = lb.take k) (e : la[k] = lb[k]) : la.take (k + 1) = lb.take (k + 1) := by
  rw [List.take_succ_eq_append_getElem h1, List.take_succ_eq_append_getElem h2, h, e]

set_option maxRecDepth 100000 in
set_option maxHeartbeats 2000000 in
theorem same_ev (va vb : Value) (la lb : List Ev) (w : World) (ha : Evs w va la) (hb : Evs w vb lb) :
    Calls Tryd.prog 22 #[va, vb] w fun e w' => e = .returned (.bool (decide (la = lb))) ∧ Below w.heap.size w w' := by
  obtain ⟨a, capa, rfl⟩ := Row.form2 ha
  obtain ⟨b, capb, rfl⟩ := Row.form2 hb
  have hm1 : la.length ≤ 9223372036854775807 := by have := ha.2.1; unfold maxLen at this; omega
  have HA := Lib.hid ha
  have HB := Lib.hid hb
  clear ha hb
  by_cases hl : la.length = lb.length
  · have HL := Lib.hid hl
    have tl : ((la.length : Int) != (lb.length : Int)) = false := by rw [hl]; exact bne_self_eq_false _
    clear hl
    go_enter Tryd.func22, Tryd.ntmps22
    go_wp2_with fail
    go_loopw [5] (fun iv wr => ∃ k : Nat, k ≤ la.length ∧ iv = .int .i64 (k : Nat) ∧ la.take k = lb.take k ∧ Below w.heap.size w wr) (fun iv _ => la.length - (intOf iv).toNat)
    case atStart => exact ⟨0, by omega, rfl, rfl, Below.refl _ _⟩
    case round =>
      obtain ⟨k, hk, rfl, heq, hBl⟩ := hrel
      have HE := Lib.hid heq
      have HW := Lib.hid hBl
      clear heq hBl
      by_cases hlt : k < la.length
      · have hlt' : k < lb.length := by have := HL.out; omega
        obtain ⟨g, o, hga, hg, hc0, hc1⟩ := Evs.at (Row.below HA.out HW.out) hlt
        obtain ⟨g2, o2, hgb, hg2, hd0, hd1⟩ := Evs.at (Row.below HB.out HW.out) hlt'
        subst hga
        subst hgb
        have i1 : (0 : Int) ≤ (k : Int) := by omega
        have i2 : (k : Int) < (la.length : Int) := by omega
        have i3 : (k : Int) < (lb.length : Int) := by omega
        have hne := run_neq_ev
        have q0 := fun d os => cell_regrown hc0 d os
        have q1 := fun d os => cell_regrown hc1 d os
        have q2 := fun d os => cell_regrown hd0 d os
        have q3 := fun d os => cell_regrown hd1 d os
        have wi1 : IntKind.i64.wrap ((k : Int) + 1) = (k : Int) + 1 := IntWalk.i64_in _ (by omega)
        clear hc0 hc1 hd0 hd1 hg hg2
        by_cases hpq : la[k] = lb[k]
        · have hdec : decide (la[k] ≠ lb[k]) = false := by simp [hpq]
          have HPQ := Lib.hid hpq
          clear hpq
          go_wp2_with fail
          refine wp_region_quiet_below (by kernel_rfl) (by kernel_rfl) ?_
          repeat (go_big_quiet_step (fail))
          refine wpQuiet_nil ?_
          intro _ hw'
          obtain ⟨⟨dq, osq⟩, hw''⟩ := hw'
          subst hw''
          clear q0 q1 q2 q3
          go_wp2_with fail
          exact ⟨⟨k + 1, by omega, by go_num, take_eq hlt hlt' HE.out HPQ.out, next HW.out (below_regrown _ _ _)⟩, by simp [intOf]; omega⟩
        · have hdec : decide (la[k] ≠ lb[k]) = true := by simp [hpq]
          have hno : decide (la = lb) = false := by
            simp only [decide_eq_false_iff_not]; intro e; subst e; exact hpq rfl
          have HNO := Lib.hid hno
          clear hpq hno
          go_wp2_with fail
          refine wp_region_quiet_below (by kernel_rfl) (by kernel_rfl) ?_
          repeat (go_big_quiet_step (fail))
          refine wpQuiet_nil ?_
          intro _ hw'
          obtain ⟨⟨dq, osq⟩, hw''⟩ := hw'
          subst hw''
          clear q0 q1 q2 q3
          go_wp2_with fail
          go_ret
          exact ⟨by rw [HNO.out]; rfl, next HW.out (below_regrown _ _ _)⟩
      · obtain rfl : la.length = k := by omega
        have i1 : ¬ ((la.length : Int) < (la.length : Int)) := by omega
        have e : la = lb := by
          have h1 := HE.out
          have h2 := HL.out
          rwa [List.take_of_length_le (Nat.le_refl _), List.take_of_length_le (by omega)] at h1
        have HD := Lib.hid (decide_eq_true e)
        clear e
        go_wp2_with fail
        go_ret
        exact ⟨by rw [HD.out]; rfl, HW.out⟩
  · have tl : ((la.length : Int) != (lb.length : Int)) = true := bne_iff_ne.2 (by omega)
    have hno : decide (la = lb) = false := by
      simp only [decide_eq_false_iff_not]; intro e; exact hl (by rw [e])
    rw [hno]
    clear hl hno
    go_enter Tryd.func22, Tryd.ntmps22
    go_wp2_with fail
    go_ret
    exact ⟨rfl, Below.refl _ _⟩
end Go.Proofs.YtomjefplacgoeaaDoor
