/- Matches, Ends of the reference; comparisons of numbers. -/
import Derived.Test.YtllkohjmghoipaaPaFrom
import Derived.Test.YtllkohjmghoipaaPaEnd
namespace Go.Proofs.Ytllkohjmghoipaa
open Go.RowKit Go.Sort

set_option maxRecDepth 100000 in
set_option maxHeartbeats 20000000 in
theorem matches_r (v u : Value) (p : List El) (b : List UInt8) (w : World) (h : Pats w v p) (hb : Bytes w u b) :
    Calls Try.prog 18 #[v, u] w fun e w' => e = .returned (.tuple #[.bool (matV p b), .int .i64 (seekE p b)]) ∧ Below w.heap.size w w' := by
  have KS := Lib.hid (sought_r v u p b w h hb)
  have HP := Lib.hid h
  have HBy := Lib.hid hb
  unfold matV
  by_cases h0 : seekE p b = 0
  · obtain ⟨hok, hl⟩ := seek_ok h0
    rw [if_pos h0, h0]
    rw [h0] at KS
    have KF := Lib.hid (fun w1 (hb1 : Below w.heap.size w w1) => from_r v u p b 0 w1 (Row.below HP.out hb1) (Row.below HBy.out hb1) hok hl (Nat.zero_le _))
    obtain ⟨ua, ucap, rfl⟩ := Row.form2 hb
    have i0 : (0 : Int) ≤ (b.length : Int) := by omega
    have i1 : (b.length : Int) < (b.length : Int) + 1 := by omega
    have HM := Lib.hid (show matchV p b = reachP b p (fun m => decide (m = 0)) b.length from rfl)
    clear h hb h0 hok
    go_enter Try.func18, Try.ntmps18
    go_wp2_with fail
    refine KS.out.mono ?_
    rintro e w1 ⟨rfl, hb1⟩
    have KW := Lib.hid (KF.out w1 hb1)
    have HB1 := Lib.hid hb1
    clear hb1 KS
    go_wp2_with fail
    refine KW.out.mono ?_
    rintro e w2 ⟨g, rfl, hR, -, hb2⟩
    have cr := hR.cell (m := b.length) (by omega)
    have HB2 := Lib.hid (next HB1.out hb2)
    clear hR hb2 KW
    generalize reachP b p (fun m => decide (m = 0)) b.length = r0 at *
    go_wp2_with fail
    go_ret2
    exact ⟨by rw [HM.out]; rfl, HB2.out⟩
  · rw [if_neg h0]
    have t1 : (seekE p b != 0) = true := bne_iff_ne.2 h0
    generalize seekE p b = E at *
    clear h hb h0
    go_enter Try.func18, Try.ntmps18
    go_wp2_with fail
    refine KS.out.mono ?_
    rintro e w1 ⟨rfl, hb1⟩
    have HB1 := Lib.hid hb1
    clear hb1
    go_wp2_with fail
    go_ret2
    exact ⟨rfl, HB1.out⟩

theorem Nats.at {w : World} {a : Option Addr} {n cap : Nat} {l : List Nat} (h : Nats w (.slice a n cap) l) {i : Nat} (hi : i < l.length) : ∃ g o, a = some ⟨g, o, none⟩ ∧ g < w.heap.size ∧ w.cell? ⟨g, o + i, none⟩ = some (.int .i64 (l[i] : Int)) := by
  obtain ⟨g, o, cp, e, hg, hc⟩ := Row.cellAt2 h hi (by omega)
  cases e
  have h0 := hc 0 (by omega)
  rw [Nat.mul_one, Nat.add_zero] at h0
  exact ⟨g, o, rfl, hg, h0.trans (by simp [ncells, List.getElem?_eq_getElem hi])⟩
theorem take_eq {α : Type} {la lb : List α} {k : Nat} (h1 : k < la.length) (h2 : k < lb.length) (h : la.take k = lb.take k) (e : la[k] = lb[k]) : la.take (k + 1) = lb.take (k + 1) := by
  rw [List.take_succ_eq_append_getElem h1, List.take_succ_eq_append_getElem h2, h, e]
set_option maxRecDepth 100000 in
set_option maxHeartbeats 4000000 in
theorem ints_r (va vb : Value) (la lb : List Nat) (w : World) (ha : Nats w va la) (hb : Nats w vb lb) :
    Calls Try.prog 21 #[va, vb] w fun e w' => e = .returned (.bool (decide (la = lb))) ∧ Below w.heap.size w w' := by
  obtain ⟨a, capa, rfl⟩ := Row.form2 ha
  obtain ⟨b, capb, rfl⟩ := Row.form2 hb
  have hm1 : la.length ≤ 9223372036854775807 := by have := ha.2.1; unfold maxLen at this; omega
  have HA := Lib.hid ha
  have HB := Lib.hid hb
  clear ha hb
  go_enter Try.func21, Try.ntmps21
  go_wp2_with fail
  go_loopw [5] (fun iv wr => ∃ k : Nat, k ≤ la.length ∧ k ≤ lb.length ∧ iv = .int .i64 (k : Nat) ∧ la.take k = lb.take k ∧ Below w.heap.size w wr) (fun iv _ => la.length - (intOf iv).toNat)
  case atStart => exact ⟨0, by omega, by omega, rfl, rfl, Below.refl _ _⟩
  case round =>
    obtain ⟨k, hk, hk2, rfl, heq, hBl⟩ := hrel
    have HE := Lib.hid heq
    have HW := Lib.hid hBl
    clear heq hBl
    by_cases hlt : k < la.length
    · have i1 : (0 : Int) ≤ (k : Int) := by omega
      have i2 : (k : Int) < (la.length : Int) := by omega
      by_cases hlt' : k < lb.length
      · obtain ⟨g, o, hga, hg, hc⟩ := Nats.at (Row.below HA.out HW.out) hlt
        obtain ⟨g2, o2, hgb, hg2, hd⟩ := Nats.at (Row.below HB.out HW.out) hlt'
        subst hga
        subst hgb
        have i3 : (k : Int) < (lb.length : Int) := by omega
        have q0 := fun d os => cell_regrown hc d os
        have q1 := fun d os => cell_regrown hd d os
        have wi1 : IntKind.i64.wrap ((k : Int) + 1) = (k : Int) + 1 := IntWalk.i64_in _ (by omega)
        clear hc hd hg hg2
        by_cases hpq : la[k] = lb[k]
        · have hdec : ((la[k] : Int) != (lb[k] : Int)) = false := by rw [hpq]; exact bne_self_eq_false _
          have HT := Lib.hid (take_eq hlt hlt' HE.out hpq)
          clear hpq
          go_wp2_with fail
          refine wp_region_quiet_below (by kernel_rfl) (by kernel_rfl) ?_
          repeat (go_big_quiet_step (fail))
          refine wpQuiet_nil ?_
          intro _ hw'
          obtain ⟨⟨dq, osq⟩, hw''⟩ := hw'
          subst hw''
          have HB2 := Lib.hid (next HW.out (below_regrown _ dq osq))
          clear q0 q1
          go_wp2_with fail
          exact ⟨⟨k + 1, by omega, by omega, by go_num, HT.out, HB2.out⟩, by simp [intOf]; omega⟩
        · have hdec : ((la[k] : Int) != (lb[k] : Int)) = true := bne_iff_ne.2 (by omega)
          have HNO := Lib.hid (show decide (la = lb) = false by
            simp only [decide_eq_false_iff_not]; intro e; subst e; exact hpq rfl)
          clear hpq
          go_wp2_with fail
          refine wp_region_quiet_below (by kernel_rfl) (by kernel_rfl) ?_
          repeat (go_big_quiet_step (fail))
          refine wpQuiet_nil ?_
          intro _ hw'
          obtain ⟨⟨dq, osq⟩, hw''⟩ := hw'
          subst hw''
          have HB2 := Lib.hid (next HW.out (below_regrown _ dq osq))
          clear q0 q1
          go_wp2_with fail
          go_ret
          exact ⟨by rw [HNO.out]; rfl, HB2.out⟩
      · have i3 : ¬ (k : Int) < (lb.length : Int) := by omega
        have tl : ((la.length : Int) == (lb.length : Int)) = false := beq_eq_false_iff_ne.2 (by omega)
        have HNO := Lib.hid (show decide (la = lb) = false by
          simp only [decide_eq_false_iff_not]; intro e; subst e; omega)
        go_wp2_with fail
        go_ret
        exact ⟨by rw [HNO.out]; rfl, HW.out⟩
    · obtain rfl : la.length = k := by omega
      have i1 : ¬ ((la.length : Int) < (la.length : Int)) := by omega
      by_cases hl : la.length = lb.length
      · have tl : ((la.length : Int) == (lb.length : Int)) = true := beq_iff_eq.2 (by omega)
        have e : la = lb := by
          have h1 := HE.out
          rwa [List.take_of_length_le (Nat.le_refl _), List.take_of_length_le (by omega)] at h1
        have HD := Lib.hid (decide_eq_true e)
        clear e hl
        go_wp2_with fail
        go_ret
        exact ⟨by rw [HD.out]; rfl, HW.out⟩
      · have tl : ((la.length : Int) == (lb.length : Int)) = false := beq_eq_false_iff_ne.2 (by omega)
        have HNO := Lib.hid (show decide (la = lb) = false by
          simp only [decide_eq_false_iff_not]; intro e; exact hl (by rw [e]))
        clear hl
        go_wp2_with fail
        go_ret
        exact ⟨by rw [HNO.out]; rfl, HW.out⟩
end Go.Proofs.Ytllkohjmghoipaa
