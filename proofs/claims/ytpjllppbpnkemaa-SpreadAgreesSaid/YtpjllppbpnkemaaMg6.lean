/- Texts that the claims share, part 6. -/
import Derived.Test.YtpjllppbpnkemaaMg5
import Derived.Test.YtpjllppbpnkemaaMg1
import Derived.Deep.SlicePairs
import Derived.Lib.LazyBuf
import Derived.Shelf.SlicesQ.Reverse
import Derived.Ground.SlgnProg
import Derived.Test.YtpjllppbpnkemaaProg
import Derived.Shelf.GgSortFunc.RowK
import Derived.Lib.OwnBridge

/- Equality of lines, of lists of lines, of lists of choices; patterns that are not looked at. -/
namespace Go.Proofs.Ytpjllppbpnkemaa
open Go.RowKit Go.Sort

def longV (p : List El) : Bool := decide ((60 < p.length ∧ p.length ≤ 512) ∨ 520 < p.length)
theorem longV_no {p : List El} (h : longV p = false) : p.length ≤ 60 ∨ (512 < p.length ∧ p.length ≤ 520) := by
  unfold longV at h
  rw [decide_eq_false_iff_not] at h
  omega
set_option maxRecDepth 100000 in
theorem long_p (v : Value) (p : List El) (w : World) (h : Pats w v p) :
    Calls Try.prog 10 #[v] w fun e w' => e = .returned (.bool (longV p)) ∧ w = w' := by
  obtain ⟨a, cap, rfl⟩ := Row.form2 h
  clear h
  by_cases h1 : 60 < p.length
  · by_cases h2 : p.length ≤ 512
    · have HD := Lib.hid (show longV p = true by unfold longV; rw [decide_eq_true_eq]; omega)
      go_enter Try.func10, Try.ntmps10
      go_wp2_with fail
      go_ret
      exact ⟨by rw [HD.out]; rfl, rfl⟩
    · by_cases h3 : 520 < p.length
      · have HD := Lib.hid (show longV p = true by unfold longV; rw [decide_eq_true_eq]; omega)
        have e2 : decide ((p.length : Int) ≤ 512) = false := by rw [decide_eq_false_iff_not]; omega
        have e3 : decide (520 < (p.length : Int)) = true := by rw [decide_eq_true_eq]; omega
        go_enter Try.func10, Try.ntmps10
        go_wp2_with fail
        go_ret
        exact ⟨by rw [HD.out]; rfl, rfl⟩
      · have HD := Lib.hid (show longV p = false by unfold longV; rw [decide_eq_false_iff_not]; omega)
        have e2 : decide ((p.length : Int) ≤ 512) = false := by rw [decide_eq_false_iff_not]; omega
        have e3 : decide (520 < (p.length : Int)) = false := by rw [decide_eq_false_iff_not]; omega
        go_enter Try.func10, Try.ntmps10
        go_wp2_with fail
        go_ret
        exact ⟨by rw [HD.out]; rfl, rfl⟩
  · have HD := Lib.hid (show longV p = false by unfold longV; rw [decide_eq_false_iff_not]; omega)
    have e3 : decide (520 < (p.length : Int)) = false := by rw [decide_eq_false_iff_not]; omega
    go_enter Try.func10, Try.ntmps10
    go_wp2_with fail
    go_ret
    exact ⟨by rw [HD.out]; rfl, rfl⟩
theorem take_eqS {α : Type} {la lb : List α} {k : Nat} (h1 : k < la.length) (h2 : k < lb.length) (h : la.take k = lb.take k) (e : la[k] = lb[k]) : la.take (k + 1) = lb.take (k + 1) := by
  rw [List.take_succ_eq_append_getElem h1, List.take_succ_eq_append_getElem h2, h, e]
set_option maxRecDepth 100000 in
set_option maxHeartbeats 4000000 in
theorem intsS_r (va vb : Value) (la lb : List Int) (w : World) (ha : Nums w va la) (hb : Nums w vb lb) :
    Calls Try.prog 17 #[va, vb] w fun e w' => e = .returned (.bool (decide (la = lb))) ∧ Below w.heap.size w w' := by
  obtain ⟨a, capa, rfl⟩ := Row.form2 ha
  obtain ⟨b, capb, rfl⟩ := Row.form2 hb
  have hm1 : la.length ≤ 9223372036854775807 := by have := ha.2.1; unfold maxLen at this; omega
  have HA := Lib.hid ha
  have HB := Lib.hid hb
  clear ha hb
  go_enter Try.func17, Try.ntmps17
  go_wp2_with fail
  go_loopw [5] (fun iv wr => ∃ k : Nat, k ≤ la.length ∧ k ≤ lb.length ∧ iv = .int .i64 (k : Nat) ∧ la.take k = lb.take k ∧ Below w.heap.size w wr) (fun iv _ => la.length - (intOf iv).toNat)
  case atStart => exact ⟨0, by omega, by omega, rfl, rfl, Below.refl _ _⟩
  case round =>
    obtain ⟨k, hk, hk2, rfl, heq, hBl⟩ := hrel
    have HE := Lib.hid heq
    have HW := Lib.hid hBl
    clear heq hBl
    by_cases hlt : k < la.length
    · have i1 : (0 : Int) ≤ (k : Int) := by omega
      have i2 : (k : Int) < (la.length : Int) := by omega
      by_cases hlt' : k < lb.length
      · obtain ⟨g, o, hga, hg, hc⟩ := Nums.at' (Row.below HA.out HW.out) hlt hlt
        obtain ⟨g2, o2, hgb, hg2, hd⟩ := Nums.at' (Row.below HB.out HW.out) hlt' hlt'
        subst hga
        subst hgb
        have i3 : (k : Int) < (lb.length : Int) := by omega
        have q0 := fun d os => cell_regrown hc d os
        have q1 := fun d os => cell_regrown hd d os
        have wi1 : IntKind.i64.wrap ((k : Int) + 1) = (k : Int) + 1 := IntWalk.i64_in _ (by omega)
        clear hc hd hg hg2
        by_cases hpq : la[k] = lb[k]
        · have hdec : (la[k] != lb[k]) = false := by rw [hpq]; exact bne_self_eq_false _
          have HT := Lib.hid (take_eqS hlt hlt' HE.out hpq)
          clear hpq
          go_wp2_with fail
          refine wp_region_quiet_below (by kernel_rfl) (by kernel_rfl) ?_
          repeat (go_big_quiet_step (fail))
          refine wpQuiet_nil ?_
          intro _ hw'
          obtain ⟨⟨dq, osq⟩, hw''⟩ := hw'
          subst hw''
          have HB2 := Lib.hid (next HW.out (below_regrown _ dq osq))
          clear q0 q1
          go_wp2_with fail
          exact ⟨⟨k + 1, by omega, by omega, by go_num, HT.out, HB2.out⟩, by simp [intOf]; omega⟩
        · have hdec : (la[k] != lb[k]) = true := bne_iff_ne.2 hpq
          have HNO := Lib.hid (show decide (la = lb) = false by
            simp only [decide_eq_false_iff_not]; intro e; subst e; exact hpq rfl)
          clear hpq
          go_wp2_with fail
          refine wp_region_quiet_below (by kernel_rfl) (by kernel_rfl) ?_
          repeat (go_big_quiet_step (fail))
          refine wpQuiet_nil ?_
          intro _ hw'
          obtain ⟨⟨dq, osq⟩, hw''⟩ := hw'
          subst hw''
          have HB2 := Lib.hid (next HW.out (below_regrown _ dq osq))
          clear q0 q1
          go_wp2_with fail
          go_ret
          exact ⟨by rw [HNO.out]; rfl, HB2.out⟩
      · have i3 : ¬ (k : Int) < (lb.length : Int) := by omega
        have tl : ((la.length : Int) == (lb.length : Int)) = false := beq_eq_false_iff_ne.2 (by omega)
        have HNO := Lib.hid (show decide (la = lb) = false by
          simp only [decide_eq_false_iff_not]; intro e; subst e; omega)
        go_wp2_with fail
        go_ret
        exact ⟨by rw [HNO.out]; rfl, HW.out⟩
    · obtain rfl : la.length = k := by omega
      have i1 : ¬ ((la.length : Int) < (la.length : Int)) := by omega
      by_cases hl : la.length = lb.length
      · have tl : ((la.length : Int) == (lb.length : Int)) = true := beq_iff_eq.2 (by omega)
        have e : la = lb := by
          have h1 := HE.out
          rwa [List.take_of_length_le (Nat.le_refl _), List.take_of_length_le (by omega)] at h1
        have HD := Lib.hid (decide_eq_true e)
        clear e hl
        go_wp2_with fail
        go_ret
        exact ⟨by rw [HD.out]; rfl, HW.out⟩
      · have tl : ((la.length : Int) == (lb.length : Int)) = false := beq_eq_false_iff_ne.2 (by omega)
        have HNO := Lib.hid (show decide (la = lb) = false by
          simp only [decide_eq_false_iff_not]; intro e; exact hl (by rw [e]))
        clear hl
        go_wp2_with fail
        go_ret
        exact ⟨by rw [HNO.out]; rfl, HW.out⟩
set_option maxRecDepth 100000 in
set_option maxHeartbeats 4000000 in
theorem sameLine_r (va vb : Value) (la lb : List CSet) (w : World) (ha : Line w va la) (hb : Line w vb lb) :
    Calls Try.prog 29 #[va, vb] w fun e w' => e = .returned (.bool (decide (la = lb))) ∧ Below w.heap.size w w' := by
  obtain ⟨a, capa, rfl⟩ := Row.form2 ha
  obtain ⟨b, capb, rfl⟩ := Row.form2 hb
  have hm1 : la.length ≤ 9223372036854775807 := by have := ha.2.1; unfold maxLen at this; omega
  have HA := Lib.hid ha
  have HB := Lib.hid hb
  clear ha hb
  go_enter Try.func29, Try.ntmps29
  go_wp2_with fail
  go_loopw [5] (fun iv wr => ∃ k : Nat, k ≤ la.length ∧ k ≤ lb.length ∧ iv = .int .i64 (k : Nat) ∧ la.take k = lb.take k ∧ Below w.heap.size w wr) (fun iv _ => la.length - (intOf iv).toNat)
  case atStart => exact ⟨0, by omega, by omega, rfl, rfl, Below.refl _ _⟩
  case round =>
    obtain ⟨k, hk, hk2, rfl, heq, hBl⟩ := hrel
    have HE := Lib.hid heq
    have HW := Lib.hid hBl
    clear heq hBl
    by_cases hlt : k < la.length
    · have i1 : (0 : Int) ≤ (k : Int) := by omega
      have i2 : (k : Int) < (la.length : Int) := by omega
      by_cases hlt' : k < lb.length
      · obtain ⟨g, o, hga, hg, c0, c1, c2, c3⟩ := Line.at (HA.out.below HW.out) hlt
        obtain ⟨g2, o2, hgb, hg2, d0, d1, d2, d3⟩ := Line.at (HB.out.below HW.out) hlt'
        subst hga
        subst hgb
        have i3 : (k : Int) < (lb.length : Int) := by omega
        have q0 := fun d os => cell_regrown c0 d os
        have q1 := fun d os => cell_regrown c1 d os
        have q2 := fun d os => cell_regrown c2 d os
        have q3 := fun d os => cell_regrown c3 d os
        have q4 := fun d os => cell_regrown d0 d os
        have q5 := fun d os => cell_regrown d1 d os
        have q6 := fun d os => cell_regrown d2 d os
        have q7 := fun d os => cell_regrown d3 d os
        have hne := fun w => run_ne_set w la[k] lb[k]
        have wi1 : IntKind.i64.wrap ((k : Int) + 1) = (k : Int) + 1 := IntWalk.i64_in _ (by omega)
        clear c0 c1 c2 c3 d0 d1 d2 d3 hg hg2
        by_cases hpq : la[k] = lb[k]
        · rw [decide_eq_true hpq] at hne
          have HT := Lib.hid (take_eqS hlt hlt' HE.out hpq)
          clear hpq
          go_wp2_with fail
          refine wp_region_quiet_below (by kernel_rfl) (by kernel_rfl) ?_
          repeat (go_big_quiet_step (fail))
          refine wpQuiet_nil ?_
          intro _ hw'
          obtain ⟨⟨dq, osq⟩, hw''⟩ := hw'
          subst hw''
          have HB2 := Lib.hid (next HW.out (below_regrown _ dq osq))
          clear q0 q1 q2 q3 q4 q5 q6 q7 hne
          go_wp2_with fail
          exact ⟨⟨k + 1, by omega, by omega, by go_num, HT.out, HB2.out⟩, by simp [intOf]; omega⟩
        · rw [decide_eq_false hpq] at hne
          have HNO := Lib.hid (show decide (la = lb) = false by
            simp only [decide_eq_false_iff_not]; intro e; subst e; exact hpq rfl)
          clear hpq
          go_wp2_with fail
          refine wp_region_quiet_below (by kernel_rfl) (by kernel_rfl) ?_
          repeat (go_big_quiet_step (fail))
          refine wpQuiet_nil ?_
          intro _ hw'
          obtain ⟨⟨dq, osq⟩, hw''⟩ := hw'
          subst hw''
          have HB2 := Lib.hid (next HW.out (below_regrown _ dq osq))
          clear q0 q1 q2 q3 q4 q5 q6 q7 hne
          go_wp2_with fail
          go_ret
          exact ⟨by rw [HNO.out]; rfl, HB2.out⟩
      · have i3 : ¬ (k : Int) < (lb.length : Int) := by omega
        have tl : ((la.length : Int) == (lb.length : Int)) = false := beq_eq_false_iff_ne.2 (by omega)
        have HNO := Lib.hid (show decide (la = lb) = false by
          simp only [decide_eq_false_iff_not]; intro e; subst e; omega)
        go_wp2_with fail
        go_ret
        exact ⟨by rw [HNO.out]; rfl, HW.out⟩
    · obtain rfl : la.length = k := by omega
      have i1 : ¬ ((la.length : Int) < (la.length : Int)) := by omega
      by_cases hl : la.length = lb.length
      · have tl : ((la.length : Int) == (lb.length : Int)) = true := beq_iff_eq.2 (by omega)
        have e : la = lb := by
          have h1 := HE.out
          rwa [List.take_of_length_le (Nat.le_refl _), List.take_of_length_le (by omega)] at h1
        have HD := Lib.hid (decide_eq_true e)
        clear e hl
        go_wp2_with fail
        go_ret
        exact ⟨by rw [HD.out]; rfl, HW.out⟩
      · have tl : ((la.length : Int) == (lb.length : Int)) = false := beq_eq_false_iff_ne.2 (by omega)
        have HNO := Lib.hid (show decide (la = lb) = false by
          simp only [decide_eq_false_iff_not]; intro e; exact hl (by rw [e]))
        clear hl
        go_wp2_with fail
        go_ret
        exact ⟨by rw [HNO.out]; rfl, HW.out⟩
set_option maxRecDepth 100000 in
set_option maxHeartbeats 4000000 in
theorem sameLines_r (va vb : Value) (la lb : List (List CSet)) (w : World) (ha : Lines w va la) (hb : Lines w vb lb) :
    Calls Try.prog 26 #[va, vb] w fun e w' => e = .returned (.bool (decide (la = lb))) ∧ Below w.heap.size w w' := by
  obtain ⟨a, capa, rfl⟩ := ha.form
  obtain ⟨b, capb, rfl⟩ := hb.form
  have hm1 : la.length ≤ 9223372036854775807 := ha.max
  have HA := Lib.hid ha
  have HB := Lib.hid hb
  clear ha hb
  by_cases hl : la.length = lb.length
  · have tl : ((la.length : Int) != (lb.length : Int)) = false := by rw [hl]; exact bne_self_eq_false _
    have HLN := Lib.hid hl
    clear hl
    go_enter Try.func26, Try.ntmps26
    go_wp2_with fail
    go_loopw [5] (fun iv wr => ∃ k : Nat, k ≤ la.length ∧ iv = .int .i64 (k : Nat) ∧ la.take k = lb.take k ∧ Below w.heap.size w wr) (fun iv _ => la.length - (intOf iv).toNat)
    case atStart => exact ⟨0, by omega, rfl, rfl, Below.refl _ _⟩
    case round =>
      obtain ⟨k, hk, rfl, heq, hBl⟩ := hrel
      have HE := Lib.hid heq
      have HW := Lib.hid hBl
      clear heq hBl
      by_cases hlt : k < la.length
      · have i1 : (0 : Int) ≤ (k : Int) := by omega
        have i2 : (k : Int) < (la.length : Int) := by omega
        have hlt' : k < lb.length := by have := HLN.out; omega
        have i3 : (k : Int) < (lb.length : Int) := by omega
        have wi1 : IntKind.i64.wrap ((k : Int) + 1) = (k : Int) + 1 := IntWalk.i64_in _ (by omega)
        obtain ⟨g, o, xa, xc, hga, hg, hc, hx⟩ := (HA.out.below HW.out).at hlt
        obtain ⟨g2, o2, ya, yc, hgb, hg2, hd, hy⟩ := (HB.out.below HW.out).at hlt'
        subst hga
        subst hgb
        have q0 := fun d os => cell_regrown hc d os
        have q1 := fun d os => cell_regrown hd d os
        have M := Lib.hid (fun d os => sameLine_r _ _ la[k] lb[k] (Sort.grow (redrawn wr d) os) (Line.below hx (below_regrown wr d os)) (Line.below hy (below_regrown wr d os)))
        clear hc hd hg hg2 hx hy
        by_cases hpq : la[k] = lb[k]
        · have HT := Lib.hid (take_eqS hlt hlt' HE.out hpq)
          rw [decide_eq_true hpq] at M
          clear hpq
          go_wp2_with fail
          refine wp_region_quiet_below (by kernel_rfl) (by kernel_rfl) ?_
          repeat (go_big_quiet_step ((go_at_call 29; exact Calls.regrown_of (M.out _ _))))
          refine wpQuiet_nil ?_
          intro _ hw'
          obtain ⟨⟨dq, osq⟩, hw''⟩ := hw'
          subst hw''
          have HB2 := Lib.hid (next HW.out (below_regrown _ dq osq))
          clear q0 q1 M
          go_wp2_with fail
          exact ⟨⟨k + 1, by omega, by go_num, HT.out, HB2.out⟩, by simp [intOf]; omega⟩
        · have HNO := Lib.hid (show decide (la = lb) = false by
            simp only [decide_eq_false_iff_not]; intro e; subst e; exact hpq rfl)
          rw [decide_eq_false hpq] at M
          clear hpq
          go_wp2_with fail
          refine wp_region_quiet_below (by kernel_rfl) (by kernel_rfl) ?_
          repeat (go_big_quiet_step ((go_at_call 29; exact Calls.regrown_of (M.out _ _))))
          refine wpQuiet_nil ?_
          intro _ hw'
          obtain ⟨⟨dq, osq⟩, hw''⟩ := hw'
          subst hw''
          have HB2 := Lib.hid (next HW.out (below_regrown _ dq osq))
          clear q0 q1 M
          go_wp2_with fail
          go_ret
          exact ⟨by rw [HNO.out]; rfl, HB2.out⟩
      · obtain rfl : la.length = k := by omega
        have i1 : ¬ (la.length : Int) < (la.length : Int) := by omega
        have HYES := Lib.hid (show decide (la = lb) = true by
          have h1 := HE.out
          rw [List.take_length, List.take_of_length_le (by rw [HLN.out]; exact Nat.le_refl _)] at h1
          exact decide_eq_true h1)
        go_wp2_with fail
        go_ret
        exact ⟨by rw [HYES.out]; rfl, HW.out⟩
  · have tl : ((la.length : Int) != (lb.length : Int)) = true := bne_iff_ne.2 (by omega)
    have HNO := Lib.hid (show decide (la = lb) = false by
      simp only [decide_eq_false_iff_not]; intro e; subst e; exact hl rfl)
    clear hl
    go_enter Try.func26, Try.ntmps26
    go_wp2_with fail
    go_ret
    exact ⟨by rw [HNO.out]; rfl, Below.refl _ _⟩
/-- a list of lists of numbers, to be read -/
def NLists (w : World) (v : Value) (L : List (List Int)) : Prop :=
  ∃ hs : List Value, Row w 1 v L.length hs ∧ ∀ (i : Nat) (h : i < L.length), ∃ u, hs[i]? = some u ∧ Nums w u L[i]
theorem NLists.below {w w' : World} {v : Value} {L : List (List Int)} (h : NLists w v L) (hb : Below w.heap.size w w') : NLists w' v L := by
  obtain ⟨hs, h1, h2⟩ := h
  exact ⟨hs, h1.below hb, fun i hi => by obtain ⟨u, e, hu⟩ := h2 i hi; exact ⟨u, e, Row.below hu hb⟩⟩
theorem NLists.form {w : World} {v : Value} {L : List (List Int)} (h : NLists w v L) : ∃ a cap, v = .slice a L.length cap := by
  obtain ⟨hs, h1, _⟩ := h
  exact h1.form
theorem NLists.max {w : World} {v : Value} {L : List (List Int)} (h : NLists w v L) : L.length ≤ 9223372036854775807 := by
  obtain ⟨hs, h1, _⟩ := h
  exact h1.max
theorem NLists.at {w : World} {a : Option Addr} {n cap : Nat} {L : List (List Int)} (h : NLists w (.slice a n cap) L) {i : Nat} (hi : i < L.length) :
    ∃ g o b c, a = some ⟨g, o, none⟩ ∧ g < w.heap.size ∧ w.cell? ⟨g, o + i, none⟩ = some (.slice b L[i].length c) ∧ Nums w (.slice b L[i].length c) L[i] := by
  obtain ⟨hs, h1, h2⟩ := h
  obtain ⟨g, o, cap', e, hg, hc⟩ := Row.cellAt h1 hi (by omega)
  cases e
  obtain ⟨u, eu, hu⟩ := h2 i hi
  obtain ⟨b, c, rfl⟩ := Row.form2 hu
  have := hc 0 (by omega)
  rw [Nat.mul_one, Nat.add_zero, Nat.add_zero, eu] at this
  exact ⟨g, o, b, c, rfl, hg, this, hu⟩
theorem Lists.reads {w : World} {base B : Nat} {v : Value} {l : List (List Int)} (h : Lists w base B v l) : NLists w v l := by
  obtain ⟨vs, h1, h2, h3⟩ := h
  exact ⟨vs, Row.of_owns h1, fun i hi => ⟨vs[i]'(by omega), List.getElem?_eq_getElem _, Row.of_owns (h3 i hi (by omega))⟩⟩
set_option maxRecDepth 100000 in
set_option maxHeartbeats 4000000 in
theorem same_r (va vb : Value) (la lb : List (List Int)) (w : World) (ha : NLists w va la) (hb : NLists w vb lb) :
    Calls Try.prog 25 #[va, vb] w fun e w' => e = .returned (.bool (decide (la = lb))) ∧ Below w.heap.size w w' := by
  obtain ⟨a, capa, rfl⟩ := ha.form
  obtain ⟨b, capb, rfl⟩ := hb.form
  have hm1 : la.length ≤ 9223372036854775807 := ha.max
  have HA := Lib.hid ha
  have HB := Lib.hid hb
  clear ha hb
  by_cases hl : la.length = lb.length
  · have tl : ((la.length : Int) != (lb.length : Int)) = false := by rw [hl]; exact bne_self_eq_false _
    have HLN := Lib.hid hl
    clear hl
    go_enter Try.func25, Try.ntmps25
    go_wp2_with fail
    go_loopw [5] (fun iv wr => ∃ k : Nat, k ≤ la.length ∧ iv = .int .i64 (k : Nat) ∧ la.take k = lb.take k ∧ Below w.heap.size w wr) (fun iv _ => la.length - (intOf iv).toNat)
    case atStart => exact ⟨0, by omega, rfl, rfl, Below.refl _ _⟩
    case round =>
      obtain ⟨k, hk, rfl, heq, hBl⟩ := hrel
      have HE := Lib.hid heq
      have HW := Lib.hid hBl
      clear heq hBl
      by_cases hlt : k < la.length
      · have i1 : (0 : Int) ≤ (k : Int) := by omega
        have i2 : (k : Int) < (la.length : Int) := by omega
        have hlt' : k < lb.length := by have := HLN.out; omega
        have i3 : (k : Int) < (lb.length : Int) := by omega
        have wi1 : IntKind.i64.wrap ((k : Int) + 1) = (k : Int) + 1 := IntWalk.i64_in _ (by omega)
        obtain ⟨g, o, xa, xc, hga, hg, hc, hx⟩ := (HA.out.below HW.out).at hlt
        obtain ⟨g2, o2, ya, yc, hgb, hg2, hd, hy⟩ := (HB.out.below HW.out).at hlt'
        subst hga
        subst hgb
        have q0 := fun d os => cell_regrown hc d os
        have q1 := fun d os => cell_regrown hd d os
        have M := Lib.hid (fun d os => intsS_r _ _ la[k] lb[k] (Sort.grow (redrawn wr d) os) (Row.below hx (below_regrown wr d os)) (Row.below hy (below_regrown wr d os)))
        clear hc hd hg hg2 hx hy
        by_cases hpq : la[k] = lb[k]
        · have HT := Lib.hid (take_eqS hlt hlt' HE.out hpq)
          rw [decide_eq_true hpq] at M
          clear hpq
          go_wp2_with fail
          refine wp_region_quiet_below (by kernel_rfl) (by kernel_rfl) ?_
          repeat (go_big_quiet_step ((go_at_call 17; exact Calls.regrown_of (M.out _ _))))
          refine wpQuiet_nil ?_
          intro _ hw'
          obtain ⟨⟨dq, osq⟩, hw''⟩ := hw'
          subst hw''
          have HB2 := Lib.hid (next HW.out (below_regrown _ dq osq))
          clear q0 q1 M
          go_wp2_with fail
          exact ⟨⟨k + 1, by omega, by go_num, HT.out, HB2.out⟩, by simp [intOf]; omega⟩
        · have HNO := Lib.hid (show decide (la = lb) = false by
            simp only [decide_eq_false_iff_not]; intro e; subst e; exact hpq rfl)
          rw [decide_eq_false hpq] at M
          clear hpq
          go_wp2_with fail
          refine wp_region_quiet_below (by kernel_rfl) (by kernel_rfl) ?_
          repeat (go_big_quiet_step ((go_at_call 17; exact Calls.regrown_of (M.out _ _))))
          refine wpQuiet_nil ?_
          intro _ hw'
          obtain ⟨⟨dq, osq⟩, hw''⟩ := hw'
          subst hw''
          have HB2 := Lib.hid (next HW.out (below_regrown _ dq osq))
          clear q0 q1 M
          go_wp2_with fail
          go_ret
          exact ⟨by rw [HNO.out]; rfl, HB2.out⟩
      · obtain rfl : la.length = k := by omega
        have i1 : ¬ (la.length : Int) < (la.length : Int) := by omega
        have HYES := Lib.hid (show decide (la = lb) = true by
          have h1 := HE.out
          rw [List.take_length, List.take_of_length_le (by rw [HLN.out]; exact Nat.le_refl _)] at h1
          exact decide_eq_true h1)
        go_wp2_with fail
        go_ret
        exact ⟨by rw [HYES.out]; rfl, HW.out⟩
  · have tl : ((la.length : Int) != (lb.length : Int)) = true := bne_iff_ne.2 (by omega)
    have HNO := Lib.hid (show decide (la = lb) = false by
      simp only [decide_eq_false_iff_not]; intro e; subst e; exact hl rfl)
    clear hl
    go_enter Try.func25, Try.ntmps25
    go_wp2_with fail
    go_ret
    exact ⟨by rw [HNO.out]; rfl, Below.refl _ _⟩
end Go.Proofs.Ytpjllppbpnkemaa

/- Line of the reference. -/
namespace Go.Proofs.Ytpjllppbpnkemaa
open Go.RowKit Go.Sort Go.Shelf

theorem lineL_part {p : List El} {i : Nat} {c : List Int} (h : i < p.length) (hg : p[i].gap = true) (hk : (gapsV (p.take i)).length < c.length) {N : Nat} (hN : c[(gapsV (p.take i)).length] = (N : Int)) :
    lineL (p.take (i + 1)) c = lineL (p.take i) c ++ List.replicate N fullS := by rw [lineL_gap h hg hk, hN]; rfl
theorem rep_step (L : List CSet) (n : Nat) : (L ++ List.replicate n fullS) ++ [fullS] = L ++ List.replicate (n + 1) fullS := by rw [List.append_assoc, List.replicate_succ']
set_option maxRecDepth 100000 in
set_option maxHeartbeats 8000000 in
theorem line_r (v : Value) (ua : Option Addr) (ucap : Nat) (p : List El) (c : List Int) (w : World) (h : Pats w v p) (hc : Nums w (.slice ua c.length ucap) c) (hpl : p.length ≤ 1000) :
    Calls Try.prog 28 #[v, .slice ua c.length ucap] w (LineP p c w) := by
  have HP := Lib.hid h
  have HU := Lib.hid hc
  have KC := Lib.hid (check_r v p w h)
  have hmx : c.length ≤ maxLen := hc.2.1
  unfold maxLen at hmx
  have KG := Lib.hid (fun (w1 : World) (hb : Below w.heap.size w w1) => gaps_r _ p w1 (Row.below HP.out hb) hpl)
  obtain ⟨a, cap, rfl⟩ := Row.form2 h
  unfold LineP
  by_cases h0 : (checkV p).2 = 0
  · have hok := okP_of h0
    rw [checkV_ok h0] at KC
    have hle := hok.le
    have HOK := Lib.hid hok
    by_cases h1 : (gapsV p).length = c.length
    · have HL := Lib.hid h1
      have t1 : ((c.length : Int) != ((gapsV p).length : Int)) = false := by rw [h1]; simp
      have HCK := Lib.hid h0
      clear h hc h0 h1 hok
      go_enter Try.func28, Try.ntmps28
      go_wp2_with fail
      with_reducible refine KC.out.mono ?_
      rintro e w1 ⟨rfl, hb1⟩
      have HB1 := Lib.hid hb1
      have KG1 := Lib.hid (KG.out w1 hb1)
      clear hb1 KG KC
      go_wp2_with fail
      with_reducible refine KG1.out.mono ?_
      rintro e w2 ⟨gv, rfl, ho, hb2⟩
      have HB2 := Lib.hid (next HB1.out hb2)
      have HG := Lib.hid (Row.of_owns ho)
      obtain ⟨ga, gc, rfl⟩ := Row.form2 (Row.of_owns ho)
      clear hb2 ho KG1
      have hgc := HL.out
      go_wp2_with fail
      go_loopw [7, 9] (fun ev iv wr => ∃ (i : Nat) (E : Int), ev = .int .i64 E ∧ i ≤ c.length ∧ iv = .int .i64 (i : Nat) ∧ ((E = 0 ∧ inRange (gapsV p) c i) ∨ (E = 7 ∧ lineE p c = 7)) ∧ Below w2.heap.size w2 wr) (fun _ iv _ => c.length - (intOf iv).toNat)
      case atStart => exact ⟨0, 0, rfl, by omega, rfl, .inl ⟨rfl, fun j _ _ hj => absurd hj (by omega)⟩, Below.refl _ _⟩
      case round =>
        obtain ⟨i, E, rfl, hi, rfl, hE, hB⟩ := hrel
        have HB := Lib.hid hB
        have HBW := Lib.hid (next HB2.out hB)
        rcases hE with ⟨rfl, hir⟩ | ⟨rfl, hE7⟩
        · have HIR := Lib.hid hir
          clear hB hir
          by_cases hlt : i < c.length
          · have hlg : i < (gapsV p).length := by omega
            obtain ⟨g, o, hga, hg, d0, d1, d2, d3, d4, d5, d6⟩ := Pats.at (Row.below HG.out HB.out) hlg
            subst hga
            obtain ⟨gu, ou, hgu, hu, du⟩ := Nums.at' (Row.below HU.out HBW.out) hlt hlt
            subst hgu
            have i1 : (0 : Int) ≤ (i : Int) := by omega
            have i2 : (i : Int) < (c.length : Int) := by omega
            have wi1 : IntKind.i64.wrap ((i : Int) + 1) = (i : Int) + 1 := IntWalk.i64_in _ (by omega)
            have c5 := fun d os => cell_regrown d5 d os
            have c6 := fun d os => cell_regrown d6 d os
            have c7 := fun d os => cell_regrown du d os
            have HNX := Lib.hid (show inR (gapsV p)[i] c[i] = true → inRange (gapsV p) c (i + 1) from fun hq j h h' hj => by
              by_cases e : j = i
              · subst e; exact hq
              · exact HIR.out j h h' (by omega))
            have HBD := Lib.hid (show inR (gapsV p)[i] c[i] = false → lineE p c = 7 from fun hq => by
              refine lineE_rng HCK.out HL.out ?_
              cases hr : rngOk (gapsV p) c
              · rfl
              · rw [rngOk_at hr i hlg hlt] at hq; cases hq)
            have HIN := Lib.hid (show inR (gapsV p)[i] c[i] = (decide ((gapsV p)[i].low ≤ c[i]) && decide (c[i] ≤ (gapsV p)[i].high)) from rfl)
            clear d0 d1 d2 d3 d4 d5 d6 du
            generalize (gapsV p)[i] = x at *
            generalize c[i] = n at *
            by_cases q1 : n < x.low
            · have E7 := Lib.hid (HBD.out (by rw [HIN.out, decide_eq_false (by omega), Bool.false_and]))
              clear HNX HBD HIN
              go_wp2_with fail
              refine wp_region_quiet_below (by kernel_rfl) (by kernel_rfl) ?_
              repeat (go_big_quiet_step (fail))
              refine wpQuiet_nil ?_
              intro _ hw'
              obtain ⟨⟨dq, osq⟩, hw''⟩ := hw'
              subst hw''
              have HB3 := Lib.hid (HB.out.trans ((below_regrown wr dq osq).mono HB.out.size))
              clear c5 c6 c7
              go_wp2_with fail
              exact ⟨⟨i + 1, 7, rfl, by omega, by go_num, .inr ⟨rfl, E7.out⟩, HB3.out⟩, by simp [intOf] <;> omega⟩
            · have q1d : decide (n < x.low) = false := decide_eq_false q1
              by_cases q2 : x.high < n
              · have q2d : decide (x.high < n) = true := decide_eq_true q2
                have E7 := Lib.hid (HBD.out (by rw [HIN.out, decide_eq_true (by omega), decide_eq_false (by omega)]; rfl))
                clear HNX HBD HIN
                go_wp2_with fail
                refine wp_region_quiet_below (by kernel_rfl) (by kernel_rfl) ?_
                repeat (go_big_quiet_step (fail))
                refine wpQuiet_nil ?_
                intro _ hw'
                obtain ⟨⟨dq, osq⟩, hw''⟩ := hw'
                subst hw''
                have HB3 := Lib.hid (HB.out.trans ((below_regrown wr dq osq).mono HB.out.size))
                clear c5 c6 c7
                go_wp2_with fail
                exact ⟨⟨i + 1, 7, rfl, by omega, by go_num, .inr ⟨rfl, E7.out⟩, HB3.out⟩, by simp [intOf] <;> omega⟩
              · have q2d : decide (x.high < n) = false := decide_eq_false q2
                have HNX2 := Lib.hid (HNX.out (by rw [HIN.out, decide_eq_true (by omega), decide_eq_true (by omega)]; rfl))
                clear HNX HBD HIN
                go_wp2_with fail
                refine wp_region_quiet_below (by kernel_rfl) (by kernel_rfl) ?_
                repeat (go_big_quiet_step (fail))
                refine wpQuiet_nil ?_
                intro _ hw'
                obtain ⟨⟨dq, osq⟩, hw''⟩ := hw'
                subst hw''
                have HB3 := Lib.hid (HB.out.trans ((below_regrown wr dq osq).mono HB.out.size))
                clear c5 c6 c7
                go_wp2_with fail
                exact ⟨⟨i + 1, 0, rfl, by omega, by go_num, .inl ⟨rfl, HNX2.out⟩, HB3.out⟩, by simp [intOf] <;> omega⟩
          · obtain rfl : i = c.length := by omega
            have HRK := Lib.hid (rngOk_of fun j h h' => HIR.out j h h' h')
            have HE := Lib.hid (lineE_ok HCK.out HL.out HRK.out)
            have HV := Lib.hid (lineV_ok HE.out)
            clear HIR
            have i2 : ¬ (c.length : Int) < (c.length : Int) := by omega
            go_wp2_with fail
            obtain ⟨W2, rfl⟩ : ∃ W2, W2 = wr := ⟨_, rfl⟩
            go_loopw [10, 11, 12] (fun ov kv iv w3 => ∃ (i : Nat) (ow : Value), ow = ov ∧ kv = .int .i64 ((gapsV (p.take i)).length : Int) ∧ i ≤ p.length ∧ iv = .int .i64 (i : Nat) ∧
              (lineL (p.take i) c).length ≤ 16 * i ∧ w3.ownsRow W2.heap.size 61 4 ow (lineL (p.take i) c).length (ccells (lineL (p.take i) c)) ∧ Below W2.heap.size W2 w3) (fun _ _ iv _ => p.length - (intOf iv).toNat)
            case atStart => exact ⟨0, _, rfl, rfl, by omega, rfl, by simp [lineL], World.ownsRow_nil _ _ _ _, Below.refl _ _⟩
            case round =>
              obtain ⟨i, ow, rfl, rfl, hi, rfl, hll, hown, hB2⟩ := hrel
              have HO := Lib.hid hown
              have HB3 := Lib.hid hB2
              have HBW3 := Lib.hid (next HBW.out hB2)
              clear hown hB2
              by_cases hlt : i < p.length
              · obtain ⟨g, o, hga, hg, d0, d1, d2, d3, d4, d5, d6⟩ := Pats.at (Row.below HP.out HBW3.out) hlt
                subst hga
                have i1 : (0 : Int) ≤ (i : Int) := by omega
                have i3 : (i : Int) < (p.length : Int) := by omega
                have wi1 : IntKind.i64.wrap ((i : Int) + 1) = (i : Int) + 1 := IntWalk.i64_in _ (by omega)
                cases hg0 : p[i].gap
                · have HN := Lib.hid (lineL_one (c := c) hlt hg0)
                  have HGN := Lib.hid (gaps_no hlt hg0)
                  have hr := lit_cl wr p[i].cls
                  obtain ⟨aa, acc, wa, hra, hoa, hba⟩ := app_cl (HO.out.alloc (.cells (scells p[i].cls) 61)) hr (by simp only [List.length_cons, List.length_nil]; omega) (Nat.le_trans HB3.out.size (by simp))
                  rw [← HN.out] at hra hoa
                  generalize Value.slice aa _ acc = va at hra hoa
                  have HRA := Lib.hid hra
                  have HO4 := Lib.hid hoa
                  have HB4 := Lib.hid ((HB3.out.alloc HB3.out.size (.cells (scells p[i].cls) 61)).trans hba)
                  have HLL := Lib.hid (show (lineL (p.take (i + 1)) c).length ≤ 16 * (i + 1) by rw [HN.out, List.length_append, List.length_singleton]; omega)
                  unfold scells at HRA
                  rw [hg0] at d0
                  clear hg0 hra hoa hba hr
                  go_wp2_with (at_builtin; refine wpList_append_run rfl rfl rfl rfl HRA.out ?_)
                  refine ⟨⟨i + 1, _, rfl, by rw [HGN.out], by omega, by go_num, HLL.out, HO4.out, HB4.out⟩, by simp [intOf] <;> omega⟩
                · have hk : (gapsV (p.take i)).length < c.length := by rw [← HL.out]; exact gaps_take_lt hlt hg0
                  have hci := choice_in HOK.out HL.out HRK.out hlt hg0 hk
                  obtain ⟨N, hN⟩ : ∃ N : Nat, c[(gapsV (p.take i)).length] = (N : Int) := ⟨(c[(gapsV (p.take i)).length]).toNat, by omega⟩
                  have HN := Lib.hid (lineL_part hlt hg0 hk hN)
                  have HGN := Lib.hid (show (gapsV (p.take (i + 1))).length = (gapsV (p.take i)).length + 1 by rw [gaps_yes hlt hg0, List.length_append]; rfl)
                  have hN16 : N ≤ 16 := by omega
                  obtain ⟨gu, ou, hgu, hu, du⟩ := Nums.at' HU.out hk hk
                  subst hgu
                  rw [hN] at du
                  have HDU := Lib.hid (show ∀ W, Below w.heap.size w W → W.cell? ⟨gu, ou + (gapsV (p.take i)).length, none⟩ = some (.int .i64 (N : Int)) from fun W hb => (hb.cell (p := ⟨gu, ou + (gapsV (p.take i)).length, none⟩) hu).trans du)
                  have k0 : (0 : Int) ≤ ((gapsV (p.take i)).length : Int) := by omega
                  have k1 : ((gapsV (p.take i)).length : Int) < (c.length : Int) := by omega
                  have wk1 : IntKind.i64.wrap (((gapsV (p.take i)).length : Int) + 1) = ((gapsV (p.take i)).length : Int) + 1 := IntWalk.i64_in _ (by omega)
                  clear hk hci hN du hgc
                  generalize (gapsV (p.take i)).length = k at *
                  rw [hg0] at d0
                  clear hg0
                  go_wp2_with fail
                  go_loopw [10, 13] (fun ov nv w4 => ∃ (n : Nat) (ow2 : Value), ow2 = ov ∧ n ≤ N ∧ nv = .int .i64 (n : Nat) ∧ w4.ownsRow W2.heap.size 61 4 ow2 (lineL (p.take i) c ++ List.replicate n fullS).length (ccells (lineL (p.take i) c ++ List.replicate n fullS)) ∧ Below W2.heap.size W2 w4) (fun _ nv _ => N - (intOf nv).toNat)
                  case atStart => exact ⟨0, _, rfl, by omega, rfl, by simpa using HO.out, HB3.out⟩
                  case round =>
                    obtain ⟨n, ow2, rfl, hn, rfl, hown, hB4⟩ := hrel
                    have HO4 := Lib.hid hown
                    have HB4 := Lib.hid hB4
                    have du := HDU.out _ (next HBW.out hB4)
                    clear hown hB4
                    by_cases hnN : n < N
                    · have n1 : (n : Int) < (N : Int) := by omega
                      have wn1 : IntKind.i64.wrap ((n : Int) + 1) = (n : Int) + 1 := IntWalk.i64_in _ (by omega)
                      have KA := Lib.hid (all_r wr)
                      simp only [setV, setC] at KA
                      go_wp2_with fail
                      with_reducible refine KA.out.mono ?_
                      rintro e w5 ⟨rfl, hb5⟩
                      have hB5 := HB4.out.trans (hb5.mono HB4.out.size)
                      obtain ⟨aa, acc, wa, hra, hoa, hba⟩ := app_cl ((ownsRow_below HO4.out hb5).alloc (.cells (scells fullS) 61)) (lit_cl w5 fullS) (by simp only [List.length_append, List.length_replicate, List.length_cons, List.length_nil]; omega) (Nat.le_trans hB5.size (by simp))
                      rw [rep_step] at hra hoa
                      generalize Value.slice aa _ acc = va at hra hoa
                      have HRA := Lib.hid hra
                      have HO6 := Lib.hid hoa
                      have HB6 := Lib.hid ((hB5.alloc hB5.size (.cells (scells fullS) 61)).trans hba)
                      unfold scells at HRA
                      clear hb5 hB5 hra hoa hba KA du
                      go_wp2_with (at_builtin; refine wpList_append_run rfl rfl rfl rfl HRA.out ?_)
                      exact ⟨⟨n + 1, _, rfl, by omega, by go_num, HO6.out, HB6.out⟩, by simp [intOf] <;> omega⟩
                    · obtain rfl : n = N := by omega
                      have n1 : ¬ (n : Int) < (n : Int) := by omega
                      have HLL := Lib.hid (show (lineL (p.take (i + 1)) c).length ≤ 16 * (i + 1) by rw [HN.out, List.length_append, List.length_replicate]; omega)
                      rw [← HN.out] at HO4
                      go_wp2_with fail
                      refine ⟨⟨i + 1, _, rfl, by rw [HGN.out]; go_num, by omega, by go_num, HLL.out, HO4.out, HB4.out⟩, by simp [intOf] <;> omega⟩
              · obtain rfl : i = p.length := by omega
                rw [List.take_length] at HO
                have i3 : ¬ (p.length : Int) < (p.length : Int) := by omega
                have hs3 := HBW.out.size
                go_wp2_with fail
                go_ret2
                exact ⟨_, by rw [HE.out]; rfl, by rw [HV.out]; exact ownsRow_base HO.out hs3, HBW3.out⟩
        · have HE := Lib.hid hE7
          have HV := Lib.hid (lineV_bad hE7 (by decide))
          clear hB hE7
          go_wp2_with fail
          go_ret2
          exact ⟨_, by rw [HE.out]; rfl, by rw [HV.out]; exact World.ownsRow_nil _ _ _ _, HBW.out⟩
    · have HE := Lib.hid (lineE_len (c := c) h0 h1)
      have HV := Lib.hid (lineV_bad (lineE_len (c := c) h0 h1) (by decide))
      have t1 : ((c.length : Int) != ((gapsV p).length : Int)) = true := bne_iff_ne.2 (by omega)
      rw [HE.out, HV.out]
      clear h hc h0 h1 hok
      go_enter Try.func28, Try.ntmps28
      go_wp2_with fail
      with_reducible refine KC.out.mono ?_
      rintro e w1 ⟨rfl, hb1⟩
      have HB1 := Lib.hid hb1
      have KG1 := Lib.hid (KG.out w1 hb1)
      clear hb1 KG
      go_wp2_with fail
      with_reducible refine KG1.out.mono ?_
      rintro e w2 ⟨gv, rfl, ho, hb2⟩
      have HB2 := Lib.hid (next HB1.out hb2)
      obtain ⟨ga, gc, rfl⟩ := Row.form2 (Row.of_owns ho)
      clear hb2 ho KG1
      go_wp2_with fail
      go_loopw [7, 9] (fun ev iv wr => ev = .int .i64 6 ∧ iv = .int .i64 0 ∧ Below w.heap.size w wr) (fun _ _ _ => 0)
      case atStart => exact ⟨rfl, rfl, HB2.out⟩
      case round =>
        obtain ⟨rfl, rfl, hB⟩ := hrel
        have HB := Lib.hid hB
        clear hB
        go_wp2_with fail
        go_ret2
        exact ⟨_, rfl, World.ownsRow_nil _ _ _ _, HB.out⟩
  · have HE := Lib.hid (lineE_chk (c := c) rfl h0)
    have HV := Lib.hid (lineV_bad (lineE_chk (c := c) rfl h0) h0)
    have t1 : ((checkV p).2 != 0) = true := bne_iff_ne.2 h0
    have t2 : ((checkV p).2 == 0) = false := beq_eq_false_iff_ne.2 h0
    rw [HE.out, HV.out]
    clear h hc h0
    generalize (checkV p).2 = E at *
    generalize (checkV p).1 = E1 at *
    go_enter Try.func28, Try.ntmps28
    go_wp2_with fail
    with_reducible refine KC.out.mono ?_
    rintro e w1 ⟨rfl, hb1⟩
    have HB1 := Lib.hid hb1
    have KG1 := Lib.hid (KG.out w1 hb1)
    clear hb1 KG
    go_wp2_with fail
    with_reducible refine KG1.out.mono ?_
    rintro e w2 ⟨gv, rfl, ho, hb2⟩
    have HB2 := Lib.hid (next HB1.out hb2)
    obtain ⟨ga, gc, rfl⟩ := Row.form2 (Row.of_owns ho)
    clear hb2 ho KG1
    go_wp2_with fail
    go_loopw [7, 9] (fun ev iv wr => ev = .int .i64 E ∧ iv = .int .i64 0 ∧ Below w.heap.size w wr) (fun _ _ _ => 0)
    case atStart => exact ⟨rfl, rfl, HB2.out⟩
    case round =>
      obtain ⟨rfl, rfl, hB⟩ := hrel
      have HB := Lib.hid hB
      clear hB
      go_wp2_with fail
      go_ret2
      exact ⟨_, rfl, World.ownsRow_nil _ _ _ _, HB.out⟩
end Go.Proofs.Ytpjllppbpnkemaa

/- Arguments: patterns, bytes, lists of bytes. -/
namespace Go.Proofs.Ytpjllppbpnkemaa
open Go.RowKit Go.ChangeShapes Go.WideShapes Go.Deep

theorem flat_len {f : Nat → List Value} {size : Nat} : ∀ n, (∀ i, i < n → (f i).length = size) → ((List.range n).flatMap f).length = n * size
  | 0, _ => by simp
  | n + 1, h => by
    rw [List.range_succ, List.flatMap_append, List.length_append, flat_len n (fun i hi => h i (by omega)), List.flatMap_cons, List.flatMap_nil, List.append_nil, h n (by omega), Nat.add_mul]
    omega
theorem flat_get {f : Nat → List Value} {size : Nat} : ∀ n, (∀ i, i < n → (f i).length = size) → ∀ i r, i < n → r < size → ((List.range n).flatMap f)[i * size + r]? = (f i)[r]?
  | 0, _, i, r, hi, _ => by omega
  | n + 1, h, i, r, hi, hr => by
    have hl := flat_len (f := f) n (fun i hi => h i (by omega))
    rw [List.range_succ, List.flatMap_append, List.flatMap_cons, List.flatMap_nil, List.append_nil]
    by_cases e : i = n
    · subst e
      rw [List.getElem?_append_right (by omega), hl, show i * size + r - i * size = r by omega]
    · have : (i + 1) * size ≤ n * size := Nat.mul_le_mul_right _ (by omega)
      rw [Nat.add_mul] at this
      rw [List.getElem?_append_left (by omega)]
      exact flat_get n (fun i hi => h i (by omega)) i r (by omega) hr

theorem row_of {H : Type} {enc : TypeId × Value → H} {P : Program} {W : World} {fuel : Nat} {t e : TypeId} {size : Nat} {v : Value} {x : DataW H × List MemPlace} (ht : P.underlying t = some (.slice e)) (hC : P.cellsOf e = size) (hs : 0 < size)
    (h : DataW.trod enc P W 0 (fun _ => true) true fuel t [v] = some x) :
    ∃ (len : Nat) (f : Nat → List Value), (∀ i, i < len → (f i).length = size) ∧ Row W size v len ((List.range len).flatMap f) ∧ ∀ i, i < len → ∃ n y, DataW.trod enc P W 0 (fun _ => true) true n e (f i) = some y := by
  rcases open_slice ht h with ⟨e1, _⟩ | ⟨a, len, cap, m, n, D, Pl, e1, hb, hl, hm, hmm, _, hx⟩
  · obtain rfl : v = .slice none 0 0 := by simpa using e1
    exact ⟨0, fun _ => [], fun i hi => by omega, ⟨by simp, by simp, none, 0, rfl, fun _ => rfl, .inl rfl⟩, fun i hi => by omega⟩
  · obtain rfl : v = .slice (some a) len cap := by simpa using e1
    have hm' : m = cap := by simpa using hmm
    subst hm'
    have hx' : ∀ i, ∃ cs : List Value, i < m → (cs.length = size ∧ (∀ j (h : j < cs.length), W.cell? ((a.add (i * size)).add j) = some cs[j]) ∧ ∃ n y, DataW.trod enc P W 0 (fun _ => true) true n e cs = some y) := by
      intro i
      by_cases hi : i < m
      · obtain ⟨cs', hc, ht'⟩ := hx i hi
        rw [hC] at hc
        obtain ⟨_, hcl, hat⟩ := World.cells?_some hc
        refine ⟨cs', fun _ => ⟨by omega, fun j hj => ?_, _, _, ht'⟩⟩
        have := hat j (by omega)
        first | exact this | (rw [this]; exact List.getElem?_eq_getElem hj)
      · exact ⟨[], fun h => absurd h hi⟩
    obtain ⟨f, hf⟩ := Classical.axiomOfChoice hx'
    have hfl : ∀ i, i < len → (f i).length = size := fun i hi => (hf i (by omega)).1
    refine ⟨len, f, hfl, ⟨flat_len len hfl, by omega, some a, m, rfl, (by intro e; cases e), ?_⟩, fun i hi => (hf i (by omega)).2.2⟩
    by_cases h0 : len = 0
    · exact .inl h0
    · right
      obtain ⟨g, o, z⟩ := a
      have hc0 := (hf 0 (by omega)).2.1 0 (by rw [(hf 0 (by omega)).1]; exact hs)
      cases z with
      | some z => have := World.cell?_spot hc0; simp [Addr.add] at this
      | none =>
        refine ⟨g, o, rfl, fun j hj => ?_⟩
        have hjq : j / size < len := (Nat.div_lt_iff_lt_mul hs).2 hj
        have hjr : j % size < size := Nat.mod_lt _ hs
        have e2 := flat_get len hfl (j / size) (j % size) hjq hjr
        rw [Nat.mul_comm, Nat.div_add_mod] at e2
        rw [e2]
        have hl2 := (hf (j / size) (by omega)).1
        have hc := (hf (j / size) (by omega)).2.1 (j % size) (by omega)
        rw [List.getElem?_eq_getElem (by omega), ← hc, add_plain, add_plain]
        congr 2
        rw [Nat.add_assoc, Nat.mul_comm, Nat.div_add_mod]

theorem choose_list {α : Type} {f : Nat → List Value} {encz : α → List Value} : ∀ len, (∀ i, i < len → ∃ z, f i = encz z) → ∃ l : List α, l.length = len ∧ (List.range len).flatMap f = l.flatMap encz
  | 0, _ => ⟨[], rfl, by simp⟩
  | n + 1, h => by
    obtain ⟨l, h1, h2⟩ := choose_list n (fun i hi => h i (by omega))
    obtain ⟨z, hz⟩ := h n (by omega)
    exact ⟨l ++ [z], by simp [h1], by rw [List.range_succ, List.flatMap_append, h2, List.flatMap_append]; simp [hz]⟩

set_option maxRecDepth 100000 in
theorem class_cells {H : Type} {enc : TypeId × Value → H} {W : World} {n : Nat} {cs : List Value} {y : DataW H × List MemPlace}
    (h : DataW.trod enc Try.prog W 0 (fun _ => true) true n 61 cs = some y) : ∃ s : CSet, cs = (setC s).toList := by
  obtain ⟨xs, m, _, _, hcl, hxl, hf⟩ := DataW.trod_array Try.underlying61 h
  have hc : cs.length = 4 := hcl.trans (by kernel_rfl)
  have h1 : Try.prog.cellsOf 59 = 1 := by kernel_rfl
  match cs, hc, xs, hxl with
  | [c0, c1, c2, c3], _, [x0, x1, x2, x3], _ =>
    have g0 := hf 0 (by omega)
    have g1 := hf 1 (by omega)
    have g2 := hf 2 (by omega)
    have g3 := hf 3 (by omega)
    rw [h1] at g0 g1 g2 g3
    obtain ⟨a, e0, _, w0⟩ := DataW.trod_int Try.underlying59 (g0.trans rfl)
    obtain ⟨b, e1, _, w1⟩ := DataW.trod_int Try.underlying59 (g1.trans rfl)
    obtain ⟨c, e2, _, w2⟩ := DataW.trod_int Try.underlying59 (g2.trans rfl)
    obtain ⟨d, e3, _, w3⟩ := DataW.trod_int Try.underlying59 (g3.trans rfl)
    simp at e0 e1 e2 e3
    have hu : ∀ n : Int, (Lit.int .u64 n).wf = true → 0 ≤ n ∧ n ≤ 18446744073709551615 := fun n h => by
      simpa [Lit.wf, IntKind.min, IntKind.max, IntKind.signed, IntKind.bits] using h
    have ha := hu _ w0
    have hb := hu _ w1
    have hcc := hu _ w2
    have hd := hu _ w3
    obtain ⟨a, rfl⟩ : ∃ n : Nat, a = n := ⟨a.toNat, by omega⟩
    obtain ⟨b, rfl⟩ : ∃ n : Nat, b = n := ⟨b.toNat, by omega⟩
    obtain ⟨c, rfl⟩ : ∃ n : Nat, c = n := ⟨c.toNat, by omega⟩
    obtain ⟨d, rfl⟩ : ∃ n : Nat, d = n := ⟨d.toNat, by omega⟩
    refine ⟨BitVec.ofNat 256 (a + 2 ^ 64 * b + 2 ^ 128 * c + 2 ^ 192 * d), ?_⟩
    have h : a + 2 ^ 64 * b + 2 ^ 128 * c + 2 ^ 192 * d < 2 ^ 256 := by omega
    rw [e0, e1, e2, e3]
    unfold setC word
    rw [BitVec.toNat_ofNat, Nat.mod_eq_of_lt h]
    have e0 : (a + 2 ^ 64 * b + 2 ^ 128 * c + 2 ^ 192 * d) / 2 ^ (64 * 0) % 2 ^ 64 = a := by omega
    have e1 : (a + 2 ^ 64 * b + 2 ^ 128 * c + 2 ^ 192 * d) / 2 ^ (64 * 1) % 2 ^ 64 = b := by omega
    have e2 : (a + 2 ^ 64 * b + 2 ^ 128 * c + 2 ^ 192 * d) / 2 ^ (64 * 2) % 2 ^ 64 = c := by omega
    have e3 : (a + 2 ^ 64 * b + 2 ^ 128 * c + 2 ^ 192 * d) / 2 ^ (64 * 3) % 2 ^ 64 = d := by omega
    rw [e0, e1, e2, e3]


set_option maxRecDepth 100000 in
theorem elem_cells {H : Type} {enc : TypeId × Value → H} {W : World} {n : Nat} {cs : List Value} {y : DataW H × List MemPlace}
    (h : DataW.trod enc Try.prog W 0 (fun _ => true) true n 64 cs = some y) : ∃ x : El, cs = pcell x := by
  obtain ⟨xs, m, _, _, hcl, hxl, hf⟩ := DataW.trod_struct Try.underlying64 h
  have hc : cs.length = 7 := hcl.trans (by kernel_rfl)
  have h1 : Try.prog.cellsOf 3 = 1 := by kernel_rfl
  have h2 : Try.prog.cellsOf 4 = 1 := by kernel_rfl
  have h3 : Try.prog.cellsOf 61 = 4 := by kernel_rfl
  match cs, hc, xs, hxl with
  | [c0, c1, c2, c3, c4, c5, c6], _, [x0, x1, x2, x3], _ =>
    have g0 : DataW.trod enc Try.prog W 0 (fun _ => true) true m 4 (([c0, c1, c2, c3, c4, c5, c6].drop 0).take (Try.prog.cellsOf 4)) = _ := hf 0 _ rfl
    have g1 : DataW.trod enc Try.prog W 0 (fun _ => true) true m 61 (([c0, c1, c2, c3, c4, c5, c6].drop 1).take (Try.prog.cellsOf 61)) = _ := hf 1 _ rfl
    have g2 : DataW.trod enc Try.prog W 0 (fun _ => true) true m 3 (([c0, c1, c2, c3, c4, c5, c6].drop 5).take (Try.prog.cellsOf 3)) = _ := hf 2 _ rfl
    have g3 : DataW.trod enc Try.prog W 0 (fun _ => true) true m 3 (([c0, c1, c2, c3, c4, c5, c6].drop 6).take (Try.prog.cellsOf 3)) = _ := hf 3 _ rfl
    rw [h2] at g0
    rw [h3] at g1
    rw [h1] at g2 g3
    obtain ⟨a, e0, _⟩ := DataW.trod_bool Try.underlying4 (g0.trans rfl)
    obtain ⟨s, e1⟩ := class_cells (g1.trans rfl)
    obtain ⟨b, e2, _⟩ := DataW.trod_int Try.underlying3 (g2.trans rfl)
    obtain ⟨c, e3, _⟩ := DataW.trod_int Try.underlying3 (g3.trans rfl)
    simp [setC] at e0 e1 e2 e3
    obtain ⟨e4, e5, e6, e7⟩ := e1
    exact ⟨⟨a, s, b, c⟩, by rw [e0, e2, e3, e4, e5, e6, e7]; rfl⟩
/-- an argument that is a pattern -/
theorem pats_of {H : Type} {enc : TypeId × Value → H} {W : World} {n : Nat} {v : Value} {y : DataW H × List MemPlace}
    (h : DataW.trod enc Try.prog W 0 (fun _ => true) true n 22 [v] = some y) : ∃ l, Pats W v l := by
  obtain ⟨len, f, _, hr, hf⟩ := row_of Try.underlying22 (size := 7) (by kernel_rfl) (by omega) h
  obtain ⟨l, h1, h2⟩ := choose_list (encz := pcell) len (fun i hi => by obtain ⟨_, _, ht⟩ := hf i hi; exact elem_cells ht)
  refine ⟨l, ?_⟩
  unfold Pats pcells
  rw [h1, ← h2]
  exact hr
theorem byte_cell {H : Type} {enc : TypeId × Value → H} {W : World} {n : Nat} {cs : List Value} {y : DataW H × List MemPlace}
    (h : DataW.trod enc Try.prog W 0 (fun _ => true) true n 5 cs = some y) (hl : cs.length = 1) : ∃ z : UInt8, cs = [.int .u8 (z.toNat : Int)] := by
  match cs, hl with
  | [c], _ =>
    obtain ⟨a, e0, _, w0⟩ := DataW.trod_int Try.underlying5 h
    have h0 : 0 ≤ a ∧ a ≤ 255 := by simpa [Lit.wf, IntKind.min, IntKind.max, IntKind.signed, IntKind.bits] using w0
    simp at e0
    exact ⟨UInt8.ofNat a.toNat, by rw [e0, UInt8.toNat_ofNat']; congr 3; omega⟩
/-- a slice of bytes -/
theorem bytes_of {H : Type} {enc : TypeId × Value → H} {W : World} {n : Nat} {v : Value} {y : DataW H × List MemPlace}
    (h : DataW.trod enc Try.prog W 0 (fun _ => true) true n 23 [v] = some y) : ∃ l : List UInt8, Row W 1 v l.length (bcells l) := by
  obtain ⟨len, f, h1, h2, h3⟩ := row_of Try.underlying23 (size := 1) (by kernel_rfl) (by omega) h
  obtain ⟨l, hl, he⟩ := choose_list (α := UInt8) (encz := fun z => [.int .u8 (z.toNat : Int)]) len (fun i hi => by
    obtain ⟨n, y, hy⟩ := h3 i hi
    exact byte_cell hy (h1 i hi))
  have e : ∀ l : List UInt8, l.flatMap (fun z => [Value.int .u8 (z.toNat : Int)]) = bcells l := fun l => by
    unfold bcells
    induction l with
    | nil => rfl
    | cons a l ih => rw [List.flatMap_cons, ih]; rfl
  rw [he, e l, ← hl] at h2
  exact ⟨l, h2⟩
end Go.Proofs.Ytpjllppbpnkemaa

/- Arguments: choices, sets of patterns. -/
namespace Go.Proofs.Ytpjllppbpnkemaa
open Go.RowKit Go.ChangeShapes Go.WideShapes Go.Deep

/-- a slice within its capacity -/
def CapOkS (v : Value) : Prop := ∃ a n c, v = .slice a n c ∧ n ≤ c
theorem CapOkS.le {a : Option Addr} {n c : Nat} (h : CapOkS (.slice a n c)) : n ≤ c := by
  obtain ⟨_, _, _, e, h⟩ := h
  cases e; exact h
theorem cap_ofS {H : Type} {enc : TypeId × Value → H} {P : Program} {W : World} {fuel : Nat} {t e : TypeId} {v : Value} {x : DataW H × List MemPlace} (ht : P.underlying t = some (.slice e))
    (h : DataW.trod enc P W 0 (fun _ => true) true fuel t [v] = some x) : CapOkS v := by
  rcases open_slice ht h with ⟨e1, _⟩ | ⟨a, len, cap, m, n, D, Pl, e1, hb, hl, hm, hmm, _, hx⟩
  · obtain rfl : v = .slice none 0 0 := by simpa using e1
    exact ⟨_, _, _, rfl, Nat.le_refl _⟩
  · obtain rfl : v = .slice (some a) len cap := by simpa using e1
    exact ⟨_, _, _, rfl, hl⟩
theorem int_cell {H : Type} {enc : TypeId × Value → H} {W : World} {n : Nat} {cs : List Value} {y : DataW H × List MemPlace}
    (h : DataW.trod enc Try.prog W 0 (fun _ => true) true n 3 cs = some y) (hl : cs.length = 1) : ∃ z : Int, cs = [.int .i64 z] := by
  match cs, hl with
  | [c], _ =>
    obtain ⟨a, e0, _⟩ := DataW.trod_int Try.underlying3 h
    simp at e0
    exact ⟨a, by rw [e0]⟩
/-- a slice of numbers -/
theorem ints_of {H : Type} {enc : TypeId × Value → H} {W : World} {n : Nat} {v : Value} {y : DataW H × List MemPlace}
    (h : DataW.trod enc Try.prog W 0 (fun _ => true) true n 34 [v] = some y) : ∃ l : List Int, Nums W v l := by
  obtain ⟨len, f, h1, h2, h3⟩ := row_of Try.underlying34 (size := 1) (by kernel_rfl) (by omega) h
  obtain ⟨l, hl, he⟩ := choose_list (α := Int) (encz := fun z => [.int .i64 z]) len (fun i hi => by
    obtain ⟨n, y, hy⟩ := h3 i hi
    exact int_cell hy (h1 i hi))
  have e : ∀ l : List Int, l.flatMap (fun z => [Value.int .i64 z]) = l.map (Value.int .i64) := fun l => by
    induction l with
    | nil => rfl
    | cons a l ih => rw [List.flatMap_cons, ih]; rfl
  rw [he, e l, ← hl] at h2
  exact ⟨l, h2⟩
theorem choose_row {Q : Value → List El → Prop} {f : Nat → List Value} : ∀ len, (∀ i, i < len → ∃ v p, f i = [v] ∧ Q v p) → ∃ (vs : List Value) (L : List (List El)), vs.length = len ∧ L.length = len ∧ (List.range len).flatMap f = vs ∧ ∀ (i : Nat) (h : i < L.length) (h' : i < vs.length), Q vs[i] L[i]
  | 0, _ => ⟨[], [], rfl, rfl, by simp, fun i h => absurd h (by simp)⟩
  | n + 1, h => by
    obtain ⟨vs, L, h1, h2, h3, h4⟩ := choose_row n (fun i hi => h i (by omega))
    obtain ⟨v, p, hz, hq⟩ := h n (by omega)
    refine ⟨vs ++ [v], L ++ [p], by simp [h1], by simp [h2], by rw [List.range_succ, List.flatMap_append, h3]; simp [hz], fun i hi hi' => ?_⟩
    by_cases e : i < n
    · rw [List.getElem_append_left (by omega), List.getElem_append_left (by omega)]
      exact h4 i _ _
    · obtain rfl : i = n := by simp at hi; omega
      rw [List.getElem_append_right (by omega), List.getElem_append_right (by omega)]
      simpa [h1, h2] using hq
/-- an argument that is a set of patterns -/
theorem sets_of {H : Type} {enc : TypeId × Value → H} {W : World} {n : Nat} {v : Value} {y : DataW H × List MemPlace}
    (h : DataW.trod enc Try.prog W 0 (fun _ => true) true n 51 [v] = some y) : ∃ L, Sets W v L := by
  obtain ⟨len, f, h1, hr, hf⟩ := row_of Try.underlying51 (size := 1) (by kernel_rfl) (by omega) h
  obtain ⟨vs, L, h2, h3, h4, h5⟩ := choose_row (Q := fun v p => Pats W v p) (f := f) len (fun i hi => by
    obtain ⟨m, z, ht⟩ := hf i hi
    have hl := h1 i hi
    match hfi : f i, hl with
    | [u], _ =>
      rw [hfi] at ht
      obtain ⟨p, hp⟩ := pats_of ht
      exact ⟨u, p, rfl, hp⟩)
  rw [h4] at hr
  exact ⟨L, vs, by omega, by rw [h3]; exact hr, h5⟩
end Go.Proofs.Ytpjllppbpnkemaa

/- Lengths of patterns, and what is sought. -/
namespace Go.Proofs.Ytpjllppbpnkemaa
open Go.RowKit Go.Sort

theorem lowOf_in {p : List El} (h : OkP p) {i : Nat} (hi : i < p.length) : 0 ≤ lowOf p[i] ∧ lowOf p[i] ≤ 16 ∧ 0 ≤ highOf p[i] ∧ highOf p[i] ≤ 16 := by
  unfold lowOf highOf
  cases hg : p[i].gap
  · simp
  · obtain ⟨_, h1, h2, h3, _⟩ := h.gap hi hg
    simp only [if_true]
    omega
theorem sum_in {p : List El} (h : OkP p) (f : El → Int) (hf : ∀ i (hi : i < p.length), 0 ≤ f p[i] ∧ f p[i] ≤ 16) : ∀ i, i ≤ p.length → 0 ≤ ((p.take i).map f).sum ∧ ((p.take i).map f).sum ≤ 16 * (i : Int)
  | 0, _ => by simp
  | i + 1, hi => by
    have ih := sum_in h f hf i (by omega)
    have := hf i (by omega)
    rw [List.take_succ_eq_append_getElem (by omega), List.map_append, List.sum_append]
    simp only [List.map_cons, List.map_nil, List.sum_cons, List.sum_nil]
    omega
theorem sum_next {p : List El} (f : El → Int) {i : Nat} (hi : i < p.length) : ((p.take (i + 1)).map f).sum = ((p.take i).map f).sum + f p[i] := by
  rw [List.take_succ_eq_append_getElem hi, List.map_append, List.sum_append]
  simp
def lenV (p : List El) : Int × Int × Int := if (checkV p).2 = 0 then (leastV p, mostV p, 0) else (0, 0, (checkV p).2)
def seekE (p : List El) (b : List UInt8) : Int := if (checkV p).2 ≠ 0 then (checkV p).2 else if 4096 < b.length then 3 else 0

set_option maxRecDepth 100000 in
set_option maxHeartbeats 20000000 in
theorem lengths_p (v : Value) (p : List El) (w : World) (h : Pats w v p) :
    Calls Try.prog 32 #[v] w fun e w' => e = .returned (.tuple #[.int .i64 (lenV p).1, .int .i64 (lenV p).2.1, .int .i64 (lenV p).2.2]) ∧ Below w.heap.size w w' := by
  have KC := Lib.hid (check_p v p w h)
  have HP := Lib.hid h
  have hmax : p.length ≤ maxLen := h.2.1
  unfold maxLen at hmax
  obtain ⟨a, cap, rfl⟩ := Row.form2 h
  clear h
  unfold lenV
  by_cases h0 : (checkV p).2 = 0
  · have hk := okP_of h0
    rw [checkV_ok h0] at KC
    rw [if_pos h0]
    have HK := Lib.hid hk
    have hle := hk.le
    clear h0 hk
    go_enter Try.func32, Try.ntmps32
    go_wp2_with fail
    refine KC.out.mono ?_
    rintro e w1 ⟨rfl, hb1⟩
    have HB1 := Lib.hid hb1
    clear hb1
    go_wp2_with fail
    go_loopw [2, 3, 19] (fun lv mv iv wr => ∃ i : Nat, i ≤ p.length ∧ iv = .int .i64 (i : Nat) ∧ lv = .int .i64 ((p.take i).map lowOf).sum ∧ mv = .int .i64 ((p.take i).map highOf).sum ∧ Below w.heap.size w wr) (fun _ _ iv _ => p.length - (intOf iv).toNat)
    case atStart => exact ⟨0, by omega, rfl, rfl, rfl, HB1.out⟩
    case round =>
      obtain ⟨i, hi, rfl, rfl, rfl, hB⟩ := hrel
      have HB := Lib.hid hB
      clear hB
      by_cases hlt : i < p.length
      · obtain ⟨g, o, hga, hg, d0, d1, d2, d3, d4, d5, d6⟩ := Pats.at (Row.below HP.out HB.out) hlt
        subst hga
        have i1 : (0 : Int) ≤ (i : Int) := by omega
        have i2 : (i : Int) < (p.length : Int) := by omega
        have wi1 : IntKind.i64.wrap ((i : Int) + 1) = (i : Int) + 1 := IntWalk.i64_in _ (by omega)
        have hn1 := sum_next lowOf hlt
        have hn2 := sum_next highOf hlt
        have HN1 := Lib.hid hn1
        have HN2 := Lib.hid hn2
        have b1 := sum_in HK.out lowOf (fun i hi => ⟨(lowOf_in HK.out hi).1, (lowOf_in HK.out hi).2.1⟩) i hi
        have b2 := sum_in HK.out highOf (fun i hi => ⟨(lowOf_in HK.out hi).2.2.1, (lowOf_in HK.out hi).2.2.2⟩) i hi
        have b3 := lowOf_in HK.out hlt
        generalize ((p.take i).map lowOf).sum = L at *
        generalize ((p.take i).map highOf).sum = M at *
        clear hn1 hn2
        have HL := Lib.hid (show lowOf p[i] = if p[i].gap then p[i].low else 1 from rfl)
        have HM := Lib.hid (show highOf p[i] = if p[i].gap then p[i].high else 1 from rfl)
        cases hg0 : p[i].gap
        · rw [hg0] at d0
          have e1 := HL.out
          have e2 := HM.out
          rw [hg0] at e1 e2
          rw [if_neg (by decide)] at e1 e2
          rw [e1] at HN1
          rw [e2] at HN2
          have hal : (wr.alloc (.cells #[.bool false, .int .u64 (word p[i].cls 0 : Int), .int .u64 (word p[i].cls 1 : Int), .int .u64 (word p[i].cls 2 : Int), .int .u64 (word p[i].cls 3 : Int), .int .i64 p[i].low, .int .i64 p[i].high] 64)).heap[wr.heap.size]? = _ := heap_alloc_new _ _
          have HBA := Lib.hid (((HB.out.alloc HB.out.size (.cells #[.bool false, .int .u64 (word p[i].cls 0 : Int), .int .u64 (word p[i].cls 1 : Int), .int .u64 (word p[i].cls 2 : Int), .int .u64 (word p[i].cls 3 : Int), .int .i64 p[i].low, .int .i64 p[i].high] 64)).setCell (p := ⟨wr.heap.size, 5, none⟩) HB.out.size (.int .i64 1)).setCell (p := ⟨wr.heap.size, 6, none⟩) HB.out.size (.int .i64 1))
          have w1 : IntKind.i64.wrap (L + 1) = L + 1 := IntWalk.i64_in _ (by omega)
          have w2 : IntKind.i64.wrap (M + 1) = M + 1 := IntWalk.i64_in _ (by omega)
          clear e1 e2 HL HM b3
          go_wp2_with fail
          exact ⟨⟨i + 1, by omega, by go_num, by rw [HN1.out], by rw [HN2.out], by first | exact HBA.out | exact HB.out.alloc HB.out.size _⟩, by simp [intOf]; omega⟩
        · rw [hg0] at d0
          have e1 := HL.out
          have e2 := HM.out
          rw [hg0] at e1 e2
          rw [if_pos rfl] at e1 e2
          rw [e1] at HN1 b3
          rw [e2] at HN2 b3
          have HBA := Lib.hid (HB.out.alloc HB.out.size (.cells #[.bool true, .int .u64 (word p[i].cls 0 : Int), .int .u64 (word p[i].cls 1 : Int), .int .u64 (word p[i].cls 2 : Int), .int .u64 (word p[i].cls 3 : Int), .int .i64 p[i].low, .int .i64 p[i].high] 64))
          have w1 : IntKind.i64.wrap (L + p[i].low) = L + p[i].low := IntWalk.i64_in _ (by omega)
          have w2 : IntKind.i64.wrap (M + p[i].high) = M + p[i].high := IntWalk.i64_in _ (by omega)
          clear e1 e2 HL HM b3
          go_wp2_with fail
          exact ⟨⟨i + 1, by omega, by go_num, by rw [HN1.out], by rw [HN2.out], HBA.out⟩, by simp [intOf]; omega⟩
      · obtain rfl : p.length = i := by omega
        have i1 : ¬ ((p.length : Int) < (p.length : Int)) := by omega
        rw [List.take_of_length_le (Nat.le_refl _)]
        have HL := Lib.hid (show leastV p = (p.map lowOf).sum from rfl)
        have HM := Lib.hid (show mostV p = (p.map highOf).sum from rfl)
        generalize (p.map lowOf).sum = L at *
        generalize (p.map highOf).sum = M at *
        go_wp2_with fail
        go_ret3
        exact ⟨by rw [HL.out, HM.out]; rfl, HB.out⟩
  · rw [if_neg h0]
    have t1 : ((checkV p).2 != 0) = true := bne_iff_ne.2 h0
    generalize checkV p = E at *
    obtain ⟨E1, E2⟩ := E
    simp only at *
    clear h0
    go_enter Try.func32, Try.ntmps32
    go_wp2_with fail
    refine KC.out.mono ?_
    rintro e w1 ⟨rfl, hb1⟩
    have HB1 := Lib.hid hb1
    clear hb1
    go_wp2_with fail
    go_ret3
    exact ⟨rfl, HB1.out⟩

set_option maxRecDepth 100000 in
set_option maxHeartbeats 20000000 in
theorem sought_p (v u : Value) (p : List El) (b : List UInt8) (w : World) (h : Pats w v p) (hb : Row w 1 u b.length (bcells b)) :
    Calls Try.prog 39 #[v, u] w fun e w' => e = .returned (.int .i64 (seekE p b)) ∧ Below w.heap.size w w' := by
  have KC := Lib.hid (check_p v p w h)
  obtain ⟨a, cap, rfl⟩ := Row.form2 hb
  unfold seekE
  clear h hb
  generalize checkV p = E at *
  obtain ⟨E1, E2⟩ := E
  simp only at *
  by_cases h0 : E2 = 0
  · subst h0
    rw [if_neg (by simp)]
    by_cases h1 : 4096 < b.length
    · rw [if_pos h1]
      have t1 : (4096 : Int) < (b.length : Int) := by omega
      go_enter Try.func39, Try.ntmps39
      go_wp2_with fail
      refine KC.out.mono ?_
      rintro e w1 ⟨rfl, hb1⟩
      have HB1 := Lib.hid hb1
      clear hb1
      go_wp2_with fail
      go_ret
      exact ⟨rfl, HB1.out⟩
    · rw [if_neg h1]
      have t1 : ¬ (4096 : Int) < (b.length : Int) := by omega
      go_enter Try.func39, Try.ntmps39
      go_wp2_with fail
      refine KC.out.mono ?_
      rintro e w1 ⟨rfl, hb1⟩
      have HB1 := Lib.hid hb1
      clear hb1
      go_wp2_with fail
      go_ret
      exact ⟨rfl, HB1.out⟩
  · rw [if_pos h0]
    have t1 : (E2 != 0) = true := bne_iff_ne.2 h0
    clear h0
    go_enter Try.func39, Try.ntmps39
    go_wp2_with fail
    refine KC.out.mono ?_
    rintro e w1 ⟨rfl, hb1⟩
    have HB1 := Lib.hid hb1
    clear hb1
    go_wp2_with fail
    go_ret
    exact ⟨rfl, HB1.out⟩
end Go.Proofs.Ytpjllppbpnkemaa

/- Lengths of lines, plainly. -/
namespace Go.Proofs.Ytpjllppbpnkemaa
open Go.RowKit Go.Sort

theorem lineL_length : ∀ (p : List El) (c : List Int), (gapsV p).length = c.length → (∀ x ∈ c, 0 ≤ x) → ((lineL p c).length : Int) = ((p.length : Int) - ((gapsV p).length : Int)) + c.sum
  | [], c, h, _ => by
    obtain rfl : c = [] := List.eq_nil_of_length_eq_zero (by simpa [gapsV] using h.symm)
    simp [lineL, gapsV]
  | x :: p, c, h, h0 => by
    cases hx : x.gap
    · have e : gapsV (x :: p) = gapsV p := by unfold gapsV; rw [List.filter_cons_of_neg (by simp [hx])]
      rw [e] at h ⊢
      have ih := lineL_length p c h h0
      simp only [lineL, hx, Bool.false_eq_true, if_false, List.length_cons, Int.natCast_add, ih]
      omega
    · have e : gapsV (x :: p) = x :: gapsV p := by unfold gapsV; rw [List.filter_cons_of_pos hx]
      rw [e] at h ⊢
      cases c with
      | nil => simp at h
      | cons n c =>
        have ih := lineL_length p c (by simpa using h) (fun y hy => h0 y (List.mem_cons_of_mem _ hy))
        have hn := h0 n (by simp)
        simp only [lineL, hx, if_true, List.headD_cons, List.tail_cons, List.length_append, List.length_replicate, List.length_cons, Int.natCast_add, ih, List.sum_cons]
        omega
theorem sortL_perm (l : List (List Int)) : (sortL l).Perm l := by
  unfold sortL
  have h := (ordN_perm l).map fun i => l.getD i []
  refine h.trans (List.Perm.of_eq ?_)
  apply List.ext_getElem
  · simp
  · intro i h1 h2
    simp [List.getD_eq_getElem?_getD, h2]
theorem sortL_sorted (l : List (List Int)) : (sortL l).Pairwise fun a b => a.sum ≤ b.sum := by
  have h : (ordN l).Pairwise fun x y => (!ltR l y x) = true := by
    refine List.pairwise_mergeSort (fun a b c h1 h2 => ?_) (fun a b => ?_) _
    · simp only [Bool.not_eq_true'] at *
      exact (ltR_swo l).ntrans _ _ _ h2 h1
    · cases h : ltR l b a
      · simp
      · have : ltR l a b = false := by
          unfold ltR at *
          rw [decide_eq_true_eq] at h
          rw [decide_eq_false_iff_not]; omega
        simp [this]
  unfold sortL
  rw [List.pairwise_map]
  refine h.imp fun {x y} hxy => ?_
  simp only [Bool.not_eq_true'] at hxy
  unfold ltR at hxy
  rw [decide_eq_false_iff_not] at hxy
  have : keyN l x ≤ keyN l y := by omega
  exact this
theorem lexN_of : ∀ (g : List El) (c s : List Int), s.length = g.length → rngOk g s = true → c ++ s ∈ lexN g c
  | [], c, s, h, _ => by
    obtain rfl : s = [] := List.eq_nil_of_length_eq_zero (by simpa using h)
    simp [lexN]
  | x :: g, c, [], h, _ => by simp at h
  | x :: g, c, n :: s, h, hr => by
    simp only [rngOk, Bool.and_eq_true] at hr
    have hin := hr.1
    simp only [inR, Bool.and_eq_true, decide_eq_true_eq] at hin
    refine List.mem_flatMap.2 ⟨n, ?_, ?_⟩
    · unfold rangeI widthN
      refine List.mem_map.2 ⟨(n - x.low).toNat, List.mem_range.2 (by omega), by omega⟩
    · have := lexN_of g (c ++ [n]) s (by simpa using h) hr.2
      simpa using this
theorem rng_sum : ∀ {g : List El} {c : List Int}, g.length = c.length → rngOk g c = true → (g.map El.low).sum ≤ c.sum ∧ c.sum ≤ (g.map El.high).sum
  | [], [], _, _ => by simp
  | x :: g, n :: c, h, hr => by
    simp only [rngOk, Bool.and_eq_true] at hr
    have hin := hr.1
    simp only [inR, Bool.and_eq_true, decide_eq_true_eq] at hin
    have ih := rng_sum (by simpa using h) hr.2
    simp only [List.map_cons, List.sum_cons]
    omega
theorem rng_low : ∀ {g : List El}, (∀ x ∈ g, x.low ≤ x.high) → rngOk g (g.map El.low) = true ∧ rngOk g (g.map El.high) = true
  | [], _ => by simp [rngOk]
  | x :: g, h => by
    have ih := rng_low (g := g) fun y hy => h y (List.mem_cons_of_mem _ hy)
    have := h x (by simp)
    simp [rngOk, inR, ih.1, ih.2, this]
theorem least_own : ∀ p : List El, leastV p = ((p.length : Int) - ((gapsV p).length : Int)) + ((gapsV p).map El.low).sum ∧ mostV p = ((p.length : Int) - ((gapsV p).length : Int)) + ((gapsV p).map El.high).sum
  | [] => by simp [leastV, mostV, gapsV]
  | x :: p => by
    have ih := least_own p
    unfold leastV mostV at *
    cases hx : x.gap
    · have e : gapsV (x :: p) = gapsV p := by unfold gapsV; rw [List.filter_cons_of_neg (by simp [hx])]
      rw [e]
      simp only [List.map_cons, List.sum_cons, lowOf, highOf, hx, List.length_cons, Int.natCast_add, Bool.false_eq_true, if_false] at ih ⊢
      omega
    · have e : gapsV (x :: p) = x :: gapsV p := by unfold gapsV; rw [List.filter_cons_of_pos hx]
      rw [e]
      simp only [List.map_cons, List.sum_cons, lowOf, highOf, hx, List.length_cons, Int.natCast_add, if_true] at ih ⊢
      omega
theorem chosL_ok {p : List El} (h : posE p = 0) : chosL p = sortL (lexN (gapsV p) []) := if_pos h
theorem chosL_len {p : List El} (h : posE p = 0) : ((chosL p).length : Int) = cntV p ∧ 0 < (chosL p).length := by
  have hc := (posE_ok h).1
  obtain ⟨hok, _⟩ := cntE_ok hc
  have e : ((chosL p).length : Int) = prodTo (gapsV p) (gapsV p).length := by rw [chosL_ok h, sortL_len, lexN_count hok.gaps]
  have h1 := (prodTo_mono hok.gaps (Nat.zero_le (gapsV p).length) (Nat.le_refl _))
  refine ⟨by rw [e]; unfold cntV; rw [if_pos hc], by omega⟩
theorem chosL_each {p : List El} (h : posE p = 0) {c : List Int} (hc : c ∈ chosL p) : ((lineL p c).length : Int) = ownOf p + c.sum ∧ (gapsV p).length = c.length ∧ rngOk (gapsV p) c = true := by
  rw [chosL_ok h] at hc
  have hm := sortL_mem hc
  obtain ⟨h1, h2⟩ := lexN_rng hm
  obtain ⟨hok, _⟩ := cntE_ok (posE_ok h).1
  exact ⟨lineL_length p c h1 (fun x hx => ((lexN_small hok.gaps hm).1.2 x hx).1), h1, h2⟩
theorem chosL_le {p : List El} (h : posE p = 0) {i j : Nat} (hij : i < j) (hj : j < (chosL p).length) : (chosL p)[i].sum ≤ (chosL p)[j].sum := by
  have hs : (chosL p).Pairwise fun a b => a.sum ≤ b.sum := by rw [chosL_ok h]; exact sortL_sorted _
  exact List.pairwise_iff_getElem.1 hs i j (by omega) hj hij
theorem lines_asc {p : List El} (h : posE p = 0) {i j : Nat} (hij : i < j) (hj : j < (chosL p).length) : (lineL p (chosL p)[i]).length ≤ (lineL p (chosL p)[j]).length := by
  have h1 := (chosL_each h (List.getElem_mem (show i < (chosL p).length by omega))).1
  have h2 := (chosL_each h (List.getElem_mem hj)).1
  have := chosL_le h hij hj
  omega
theorem in_chosL {p : List El} (h : posE p = 0) {s : List Int} (hl : s.length = (gapsV p).length) (hr : rngOk (gapsV p) s = true) : s ∈ chosL p := by
  rw [chosL_ok h]
  refine (sortL_perm _).mem_iff.2 ?_
  have := lexN_of (gapsV p) [] s hl hr
  simpa using this
theorem lines_ends {p : List El} (h : posE p = 0) (h0 : 0 < (chosL p).length) (h1 : (chosL p).length - 1 < (chosL p).length) : ((lineL p (chosL p)[0]).length : Int) = leastV p ∧ ((lineL p (chosL p)[(chosL p).length - 1]).length : Int) = mostV p := by
  obtain ⟨hok, _⟩ := cntE_ok (posE_ok h).1
  have hlh : ∀ x ∈ gapsV p, x.low ≤ x.high := fun x hx => by
    have := (hok.gaps.2 x hx).2
    omega
  obtain ⟨l1, l2⟩ := rng_low hlh
  have m1 := in_chosL h (by simp) l1
  have m2 := in_chosL h (by simp) l2
  have e0 := chosL_each h (List.getElem_mem h0)
  have e1 := chosL_each h (List.getElem_mem h1)
  have r0 := rng_sum e0.2.1 e0.2.2
  have r1 := rng_sum e1.2.1 e1.2.2
  obtain ⟨i, hi, hi2⟩ := List.mem_iff_getElem.1 m1
  obtain ⟨j, hj, hj2⟩ := List.mem_iff_getElem.1 m2
  have a1 : (chosL p)[0].sum ≤ ((gapsV p).map El.low).sum := by
    rw [← hi2]
    by_cases e : i = 0
    · subst e; omega
    · exact chosL_le h (by omega) hi
  have a2 : ((gapsV p).map El.high).sum ≤ (chosL p)[(chosL p).length - 1].sum := by
    rw [← hj2]
    by_cases e : j = (chosL p).length - 1
    · subst e; omega
    · exact chosL_le h (by omega) h1
  obtain ⟨b1, b2⟩ := least_own p
  have ho : ownOf p = (p.length : Int) - ((gapsV p).length : Int) := rfl
  omega
theorem sumI_perm {l m : List Int} (h : l.Perm m) : l.sum = m.sum := by
  induction h with
  | nil => rfl
  | cons x _ ih => simp only [List.sum_cons, ih]
  | swap x y l => simp only [List.sum_cons]; omega
  | trans _ _ h1 h2 => exact h1.trans h2
theorem sumTo_perm {k : Int} {l m : List (List Int)} (h : l.Perm m) : sumTo k l = sumTo k m := by
  unfold sumTo
  exact sumI_perm (h.map _)
theorem lens_sum {p : List El} (h : posE p = 0) : sumTo (ownOf p) (chosL p) = posV p := by
  have e : posV p = posSum p := by unfold posV; rw [if_pos h]
  rw [e, chosL_ok h]
  exact sumTo_perm (sortL_perm _)
theorem sumTo_app (k : Int) (a b : List (List Int)) : sumTo k (a ++ b) = sumTo k a + sumTo k b := by simp [sumTo]
theorem chosL_small {p : List El} (h : posE p = 0) : ∀ c ∈ chosL p, Small c := fun c hc => by
  rw [chosL_ok h] at hc
  exact (lexN_small (cntE_ok (posE_ok h).1).1.gaps (sortL_mem hc)).1
/-- what is left to be counted from the choice i on -/
def restV (p : List El) (i : Nat) : Int := sumTo (ownOf p) ((chosL p).drop i)
theorem restV_zero {p : List El} (h : posE p = 0) : restV p 0 = posV p := by unfold restV; rw [List.drop_zero, lens_sum h]
theorem restV_end (p : List El) : restV p (chosL p).length = 0 := by unfold restV; rw [List.drop_length]; rfl
theorem restV_in {p : List El} (h : posE p = 0) (i : Nat) : 0 ≤ restV p i ∧ restV p i ≤ 256 := by
  have hs := chosL_small h
  have ho := ownOf_in (cntE_ok (posE_ok h).1).1
  have h1 := (sumTo_in ho (l := (chosL p).drop i) fun c hc => hs c (List.mem_of_mem_drop hc)).1
  have h2 := (sumTo_in ho (l := (chosL p).take i) fun c hc => hs c (List.mem_of_mem_take hc)).1
  have h3 := lens_sum h
  have h4 := (posV_in p).2
  rw [← List.take_append_drop i (chosL p), sumTo_app] at h3
  unfold restV
  omega
theorem restV_step {p : List El} (h : posE p = 0) {i : Nat} (hi : i < (chosL p).length) : restV p i - ((lineL p (chosL p)[i]).length : Int) = restV p (i + 1) := by
  have h1 := (chosL_each h (List.getElem_mem hi)).1
  unfold restV
  rw [List.drop_eq_getElem_cons hi, h1]
  have : sumTo (ownOf p) ((chosL p)[i] :: (chosL p).drop (i + 1)) = (ownOf p + (chosL p)[i].sum) + sumTo (ownOf p) ((chosL p).drop (i + 1)) := by unfold sumTo; rw [List.map_cons, List.sum_cons]
  omega
end Go.Proofs.Ytpjllppbpnkemaa

/- slices.Clone of a pattern. -/
namespace Go.Proofs.Ytpjllppbpnkemaa
open Go.RowKit Go.Sort

set_option maxRecDepth 100000 in
set_option maxHeartbeats 4000000 in
theorem clone_p (v : Value) (p : List El) (w : World) (h : Pats w v p) (h0 : 0 < p.length) (h1 : p.length ≤ 1000) :
    Calls Try.prog 60 #[v] w fun e w' => ∃ u, e = .returned u ∧ w'.ownsRow w.heap.size 64 7 u p.length (pcells p) ∧ Below w.heap.size w w' := by
  obtain ⟨a, cap, rfl⟩ := Row.form2 h
  obtain ⟨g, o, rfl, _⟩ := Pats.at h h0
  have q22 : ∀ (w : World) (a : Option Addr) (n c : Nat), (binOp .eql 22 (.slice a n c) (.slice none 0 0)).run Try.prog w = .ok (.bool a.isNone) w := fun w a n c => Go.run_eql_slice_nil w _ _ a n c Try.underlying22
  have o0 : (w.alloc (.cells #[] 64)).ownsRow w.heap.size 64 7 (.slice (some ⟨w.heap.size, 0, none⟩) 0 0) ([] : List El).length (pcells []) := World.ownsRow_lit w #[] 0 (Nat.le_refl _) (by decide) rfl
  have al : Below w.heap.size w (w.alloc (.cells #[] 64)) := (Below.refl _ _).alloc (Nat.le_refl _) _
  obtain ⟨aa, ca, wa, hra, hoa, hba⟩ := app_el o0 (Row.below h al) (by simp; omega) al.size
  have HRA := Lib.hid hra
  have HBA := Lib.hid (al.trans hba)
  rw [List.nil_append] at hoa
  have HOA := Lib.hid hoa
  clear hoa hba hra al o0 h
  go_enter Try.func60, Try.ntmps60
  go_wp2_with (at_builtin; refine wpList_append_run rfl rfl rfl rfl HRA.out ?_)
  go_ret
  exact ⟨_, rfl, HOA.out, HBA.out⟩
end Go.Proofs.Ytpjllppbpnkemaa

/- Library functions at this seat: the shelf layings in plain words (printed by wip/tools/lay.sh; the numbers are this seat's). -/
namespace Go.Proofs.Ytpjllppbpnkemaa
open Go.Shelf
def reverseL_ren : Go.Shelf.Ren := ⟨fun | 35 => 61 | n => n, fun | 22 => 22 | 23 => 64 | 3 => 3 | 4 => 4 | 0 => 0 | n => n, fun | n => n⟩
theorem reverseL : Go.Proofs.SlLaysE0.n35 Try.prog reverseL_ren := {
  mixed := by kernel_rfl
  f35 := ⟨Try.f61.name, by decide, Try.func61.trans (congrArg some (by kernel_rfl))⟩
  t0 := Try.underlying0
  a0 := Try.isAgg0
  z0 := Try.sizeOf0
  v0 := Try.zeroValue0
  t3 := Try.underlying3
  a3 := Try.isAgg3
  z3 := Try.sizeOf3
  v3 := Try.zeroValue3
  t4 := Try.underlying4
  a4 := Try.isAgg4
  z4 := Try.sizeOf4
  v4 := Try.zeroValue4
  t22 := Try.underlying22
  a22 := Try.isAgg22
  z22 := Try.sizeOf22
  v22 := Try.zeroValue22 }
end Go.Proofs.Ytpjllppbpnkemaa

/- Rows of structs that the call owns, in the sort's words. -/
namespace Go.Proofs.Ytpjllppbpnkemaa
open Go.RowKit Go.Sort Go.Lib

variable {α : Type}

theorem fmap_len {enc : α → List Value} {k : Nat} (hk : ∀ x, (enc x).length = k) : ∀ l : List α, (l.flatMap enc).length = l.length * k
  | [] => by simp
  | x :: l => by rw [List.flatMap_cons, List.length_append, fmap_len hk l, hk, List.length_cons, Nat.add_mul]; omega
theorem fmap_at {enc : α → List Value} {k : Nat} (hk : ∀ x, (enc x).length = k) : ∀ (l : List α) (i c : Nat) (h : i < l.length), c < k → (l.flatMap enc)[i * k + c]? = (enc l[i])[c]?
  | x :: l, 0, c, _, hc => by
    rw [List.flatMap_cons, Nat.zero_mul, Nat.zero_add, List.getElem?_append_left (by rw [hk]; exact hc)]; rfl
  | x :: l, i + 1, c, h, hc => by
    have e : (i + 1) * k + c = (enc x).length + (i * k + c) := by rw [hk, Nat.add_mul, Nat.one_mul]; omega
    rw [List.flatMap_cons, e, List.getElem?_append_right (Nat.le_add_right _ _), Nat.add_sub_cancel_left]
    exact fmap_at hk l i c (by simpa using h) hc
theorem flat_cell [Inhabited α] {enc : α → List Value} {k : Nat} (hk : ∀ x, (enc x).length = k) (l : List α) {t : Nat} (h : t < l.length * k) : (l.flatMap enc)[t]? = some (flatK enc k l.toArray)[t]! := by
  have k0 : 0 < k := by rcases Nat.eq_zero_or_pos k with rfl | h0; · simp at h
                        · exact h0
  have hi : t / k < l.length := Nat.div_lt_of_lt_mul (by rwa [Nat.mul_comm] at h)
  have hc : t % k < k := Nat.mod_lt _ k0
  have e : t = t / k * k + t % k := by rw [Nat.mul_comm]; exact (Nat.div_add_mod t k).symm
  rw [get_flatK enc k l.toArray t (by simpa using h)]
  conv => lhs; rw [e]
  rw [fmap_at hk l _ _ hi hc]
  have hh : t % k < (enc l[t / k]).length := by rw [hk]; exact hc
  rw [List.getElem?_eq_getElem hh]
  simp [getElem!_pos, hi, hh]
theorem holdsK_of_owns [Inhabited α] {enc : α → List Value} {k : Nat} (hk : ∀ x, (enc x).length = k) {w : World} {base : Nat} {e : TypeId} {g n cap : Nat} {l : List α}
    (h : w.ownsRow base e k (.slice (some ⟨g, 0, none⟩) n cap) n (l.flatMap enc)) : HoldsK enc k w g 0 l.toArray := by
  have hl := h.1
  rw [fmap_len hk] at hl
  rcases h.2 with ⟨e0, _⟩ | ⟨g', cap', cur, e0, hb, hg, hn, hm, hs, ht⟩
  · cases e0
  · injection e0 with e1 _ e3
    injection e1 with e1
    injection e1 with e1
    subst e1; subst e3
    intro j hj
    rw [size_flatK, List.size_toArray] at hj
    refine ⟨?_, by simp [World.frozen?, hg]⟩
    have hc := flat_cell hk l hj
    rw [← ht, List.getElem?_take, if_pos (by omega), Array.getElem?_toList] at hc
    simp only [World.cell?, hg, Nat.zero_add, Option.isSome_none, Bool.false_eq_true, if_false, id]
    exact hc
theorem owns_putRowK [Inhabited α] {enc : α → List Value} {k : Nat} (hk : ∀ x, (enc x).length = k) {w : World} {base : Nat} {e : TypeId} {g n cap q m : Nat} {xs : List Value} {ys : List α}
    (h : w.ownsRow base e k (.slice (some ⟨g, 0, none⟩) n cap) n xs) (hy : ys.length = n) (hm : m ≤ n) :
    (putRowK enc k (Sort.ahead w q) g 0 ys.toArray).ownsRow base e k (.slice (some ⟨g, 0, none⟩) m cap) m ((ys.take m).flatMap enc) := by
  rcases h.2 with ⟨e0, _⟩ | ⟨g', cap', cur, e0, hb, hg, hn, hmx, hs, ht⟩
  · cases e0
  · injection e0 with e1 _ e3
    injection e1 with e1
    injection e1 with e1
    subst e1; subst e3
    have hmk : m * k ≤ n * k := Nat.mul_le_mul_right _ hm
    have hnk : n * k ≤ cap * k := Nat.mul_le_mul_right _ hn
    have hlk : ((ys.take m).flatMap enc).length = m * k := by rw [fmap_len hk, List.length_take, Nat.min_eq_left (by omega)]
    refine ⟨hlk, .inr ⟨g, cap, putCells id 0 (flatK enc k ys.toArray) cur, rfl, hb, ?_, by omega, hmx, by simpa [putCells] using hs, ?_⟩⟩
    · simp [putRowK, putRow, mapBlock, Sort.ahead, Array.getElem?_modify, hg, onCells]
    · apply List.ext_getElem?
      intro j
      rw [List.getElem?_take, Array.getElem?_toList]
      by_cases hj : j < m * k
      · have hjc : j < cur.size := by omega
        simp only [if_pos hj, putCells, Array.getElem?_mapIdx, Array.getElem?_eq_getElem hjc, Option.map_some]
        rw [if_pos (by simp [hy]; omega)]
        have hc := flat_cell hk ys (t := j) (by rw [hy]; omega)
        have e2 : (ys.flatMap enc)[j]? = ((ys.take m).flatMap enc)[j]? := by
          conv => lhs; rw [← List.take_append_drop m ys, List.flatMap_append]
          rw [List.getElem?_append_left (by rw [hlk]; exact hj)]
        rw [← e2, hc]
        simp
      · rw [if_neg hj, List.getElem?_eq_none (by rw [hlk]; omega)]
theorem below_putRowK [Inhabited α] {enc : α → List Value} {k B : Nat} {w0 w : World} {g q : Nat} {d : Array α} (h : Below B w0 w) (hg : B ≤ g) : Below B w0 (putRowK enc k (Sort.ahead w q) g 0 d) := below_putRow h hg
end Go.Proofs.Ytpjllppbpnkemaa

/- Reverse of patterns. -/
namespace Go.Proofs.Ytpjllppbpnkemaa
open Go.RowKit Go.Sort

def revV (p : List El) : List El := if (checkV p).2 = 0 then p.reverse else []
theorem pcell_len (x : El) : (pcell x).length = 7 := rfl
theorem pcell_one (x : El) : ∀ v ∈ pcell x, v.oneCell' = true := fun v hv => pcells_one [x] v (by simpa [pcells] using hv)
instance : Inhabited El := ⟨⟨false, 0#256, 0, 0⟩⟩
theorem turn_p (g n cap base : Nat) (p : List El) (w : World) (h : w.ownsRow base 64 7 (.slice (some ⟨g, 0, none⟩) n cap) n (pcells p)) (hn : p.length = n) (hm : n ≤ 1000) :
    Calls Try.prog 61 #[.slice (some ⟨g, 0, none⟩) n cap] w fun e w' => e = .returned (.tuple #[]) ∧ w'.ownsRow base 64 7 (.slice (some ⟨g, 0, none⟩) n cap) n (pcells p.reverse) ∧ Below base w w' := by
  have hb : base ≤ g := (h.lt _ rfl).1
  have hH := holdsK_of_owns (enc := pcell) (k := 7) pcell_len h
  have := AnyQ.slices_Reverse reverseL 7 Try.isAgg64 Try.sizeOf64 pcell pcell_len pcell_one g 0 cap p.toArray w hH (by simp; omega)
  rw [List.size_toArray, hn] at this
  refine this.mono ?_
  rintro e w' ⟨rfl, q, rfl⟩
  refine ⟨rfl, ?_, below_putRowK (Below.refl _ _) hb⟩
  have := owns_putRowK (q := q) (ys := p.reverse) (m := n) pcell_len h (by simpa using hn) (Nat.le_refl _)
  rw [List.take_of_length_le (by simp; omega)] at this
  rw [List.reverse_toArray]
  exact this

set_option maxRecDepth 100000 in
set_option maxHeartbeats 4000000 in
theorem reverse_p (v : Value) (p : List El) (w : World) (h : Pats w v p) :
    Calls Try.prog 33 #[v] w (PatP w (revV p) (checkV p).2) := by
  have KS := Lib.hid (check_p v p w h)
  have HP := Lib.hid h
  unfold revV
  by_cases h0 : (checkV p).2 = 0
  · have hok := okP_of h0
    have hl : p.length ≤ 512 := hok.le
    have hp := hok.pos
    rw [if_pos h0, h0]
    rw [checkV_ok h0] at KS
    have KC := Lib.hid (fun w1 (hb : Below w.heap.size w w1) => clone_p v p w1 (Row.below h hb) hp (by omega))
    clear h h0 hok
    go_enter Try.func33, Try.ntmps33
    go_wp2_with fail
    refine KS.out.mono ?_
    rintro e w1 ⟨rfl, hb1⟩
    have K := Lib.hid (KC.out w1 hb1)
    have HB := Lib.hid hb1
    clear hb1 KS KC
    go_wp2_with fail
    refine K.out.mono ?_
    rintro e w2 ⟨u, rfl, ho, hb2⟩
    have hu : ∃ g cap, u = .slice (some ⟨g, 0, none⟩) p.length cap := by
      rcases ho.2 with ⟨_, e0⟩ | ⟨g, cap, _, e, _⟩
      · omega
      · exact ⟨g, cap, e⟩
    obtain ⟨g, cap, rfl⟩ := hu
    have K2 := Lib.hid (turn_p g p.length cap w1.heap.size p w2 ho rfl (by omega))
    have HB2 := Lib.hid hb2
    clear hb2 K ho
    go_wp2_with fail
    refine K2.out.mono ?_
    rintro e w3 ⟨rfl, ho3, hb3⟩
    have HO3 := Lib.hid ho3
    have HB3 := Lib.hid (next HB.out (HB2.out.trans hb3))
    clear hb3 K2 ho3
    go_wp2_with fail
    go_ret2
    exact show PatP _ _ _ _ _ from ⟨_, rfl, by rw [List.length_reverse]; exact ownsRow_base HO3.out HB.out.size, HB3.out⟩
  · rw [if_neg h0]
    have t1 : ((checkV p).2 != 0) = true := bne_iff_ne.2 h0
    generalize (checkV p).2 = E at *
    generalize (checkV p).1 = E' at *
    clear h h0
    go_enter Try.func33, Try.ntmps33
    go_wp2_with fail
    refine KS.out.mono ?_
    rintro e w1 ⟨rfl, hb1⟩
    have HB1 := Lib.hid hb1
    clear hb1
    go_wp2_with fail
    go_ret2
    exact show PatP _ _ _ _ _ from ⟨_, rfl, World.ownsRow_nil _ _ _ _, HB1.out⟩
end Go.Proofs.Ytpjllppbpnkemaa

/- Rows of truth values. -/
namespace Go.Proofs.Ytpjllppbpnkemaa
open Go.RowKit Go.Sort

/-- N truth values -/
def boolsOf (f : Nat → Bool) (N : Nat) : List Value := (List.range N).map fun m => Value.bool (f m)
/-- block g holds N truth values -/
def BRow (w : World) (g N : Nat) (f : Nat → Bool) : Prop := w.heap[g]? = some (.cells (boolsOf f N).toArray 4)
section
variable {w : World} {g N : Nat} {f : Nat → Bool}
theorem boolsOf_at {m : Nat} (hm : m < N) : (boolsOf f N)[m]? = some (.bool (f m)) := by
  unfold boolsOf
  rw [List.getElem?_map, List.getElem?_range hm]
  rfl
theorem BRow.lt (h : BRow w g N f) : g < w.heap.size := (Array.getElem?_eq_some_iff.1 h).1
theorem BRow.cell (h : BRow w g N f) {m : Nat} (hm : m < N) : w.cell? ⟨g, m, none⟩ = some (.bool (f m)) := cell_in h (by rw [List.getElem?_toArray]; exact boolsOf_at hm)
theorem BRow.free (h : BRow w g N f) (m : Nat) : w.frozen? ⟨g, m, none⟩ = false := free_inS h
theorem BRow.keep {w' : World} (h : BRow w g N f) (hk : w'.heap[g]? = w.heap[g]?) : BRow w' g N f := hk.trans h
theorem BRow.below {w' : World} (h : BRow w g N f) (hb : Below w.heap.size w w') : BRow w' g N f := h.keep (hb.block g h.lt)
theorem BRow.congr (h : BRow w g N f) {f' : Nat → Bool} (e : ∀ m, m < N → f m = f' m) : BRow w g N f' := by
  unfold BRow at h ⊢
  rw [h]
  congr 3
  unfold boolsOf
  apply List.map_congr_left
  intro m hm
  rw [e m (List.mem_range.1 hm)]
theorem BRow.set (h : BRow w g N f) (m : Nat) : BRow (w.setCell ⟨g, m, none⟩ (.bool true)) g N (fun j => decide (j = m) || f j) := by
  unfold BRow at h ⊢
  rw [heap_setCell_at _ h]
  congr 2
  apply Array.ext'
  apply List.ext_getElem?
  intro j
  rw [Array.toList_setIfInBounds, List.toList_toArray, List.getElem?_set]
  by_cases hj : j < N
  · rw [boolsOf_at hj, boolsOf_at hj]
    by_cases e : m = j
    · subst e
      have : m < (boolsOf f N).length := by simp [boolsOf]; exact hj
      simp [this]
    · simp [e, Ne.symm e]
  · have e1 : (boolsOf f N)[j]? = none := by rw [List.getElem?_eq_none_iff]; simp [boolsOf]; omega
    have e2 : (boolsOf (fun j => decide (j = m) || f j) N)[j]? = none := by rw [List.getElem?_eq_none_iff]; simp [boolsOf]; omega
    rw [e1, e2]
    by_cases e : m = j
    · subst e
      have : ¬ m < (boolsOf f N).length := by simp [boolsOf]; omega
      simp [this]
    · simp [e]
theorem bools_made {w' : World} {base n g : Nat} (hn : 1 ≤ n) (hown : w'.ownsRow base 4 1 (.slice (some ⟨g, 0, none⟩) n n) n (madeCells #[.bool false] (n * 1)).toList) : BRow w' g n (fun _ => false) := by
  rw [Nat.mul_one, toList_madeCells_one] at hown
  rcases hown.2 with ⟨_, h0⟩ | ⟨g1, cap, cur, he, hgb, hg, _, _, hs, ht⟩
  · omega
  · injection he with e1 e2 e3
    injection e1 with e1
    injection e1 with e1
    subst e1
    subst e3
    unfold BRow
    rw [hg]
    congr 2
    apply Array.ext'
    rw [Nat.mul_one, List.take_of_length_le (by rw [Array.length_toList]; omega)] at ht
    rw [ht]
    apply List.ext_getElem?
    intro j
    by_cases hj : j < n
    · simp [boolsOf, hj]
    · simp [boolsOf, hj]
end
theorem infoB : (Try.prog.info? 4).map (fun i => (i.zero, i.size, i.bytes)) = some (some (.bool false), 1, 1) := by kernel_rfl
end Go.Proofs.Ytpjllppbpnkemaa
