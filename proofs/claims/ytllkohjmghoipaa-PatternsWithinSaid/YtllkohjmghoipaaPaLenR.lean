/- Lengths of patterns, and what is sought: the reference. -/
import Derived.Test.YtllkohjmghoipaaPaLen
namespace Go.Proofs.Ytllkohjmghoipaa
open Go.RowKit Go.Sort

set_option maxRecDepth 100000 in
set_option maxHeartbeats 20000000 in
theorem lengths_r (v : Value) (p : List El) (w : World) (h : Pats w v p) :
    Calls Try.prog 16 #[v] w fun e w' => e = .returned (.tuple #[.int .i64 (lenV p).1, .int .i64 (lenV p).2.1, .int .i64 (lenV p).2.2]) ∧ Below w.heap.size w w' := by
  have KC := Lib.hid (check_r v p w h)
  have HP := Lib.hid h
  obtain ⟨a, cap, rfl⟩ := Row.form2 h
  clear h
  unfold lenV
  by_cases h0 : (checkV p).2 = 0
  · have hk := okP_of h0
    rw [checkV_ok h0] at KC
    rw [if_pos h0]
    have HK := Lib.hid hk
    have hle := hk.le
    clear h0 hk
    go_enter Try.func16, Try.ntmps16
    go_wp2_with fail
    refine KC.out.mono ?_
    rintro e w1 ⟨rfl, hb1⟩
    have HB1 := Lib.hid hb1
    clear hb1
    go_wp2_with fail
    go_loopw [7, 8, 9] (fun lv mv iv wr => ∃ i : Nat, i ≤ p.length ∧ iv = .int .i64 (i : Nat) ∧ lv = .int .i64 ((p.take i).map lowOf).sum ∧ mv = .int .i64 ((p.take i).map highOf).sum ∧ Below w.heap.size w wr) (fun _ _ iv _ => p.length - (intOf iv).toNat)
    case atStart => exact ⟨0, by omega, rfl, rfl, rfl, HB1.out⟩
    case round =>
      obtain ⟨i, hi, rfl, rfl, rfl, hB⟩ := hrel
      have HB := Lib.hid hB
      clear hB
      by_cases hlt : i < p.length
      · obtain ⟨g, o, hga, hg, d0, d1, d2, d3, d4, d5, d6⟩ := Pats.at (Row.below HP.out HB.out) hlt
        subst hga
        have i1 : (0 : Int) ≤ (i : Int) := by omega
        have i2 : (i : Int) < (p.length : Int) := by omega
        have wi1 : IntKind.i64.wrap ((i : Int) + 1) = (i : Int) + 1 := IntWalk.i64_in _ (by omega)
        have HN1 := Lib.hid (sum_next lowOf hlt)
        have HN2 := Lib.hid (sum_next highOf hlt)
        have b1 := sum_in HK.out lowOf (fun i hi => ⟨(lowOf_in HK.out hi).1, (lowOf_in HK.out hi).2.1⟩) i hi
        have b2 := sum_in HK.out highOf (fun i hi => ⟨(lowOf_in HK.out hi).2.2.1, (lowOf_in HK.out hi).2.2.2⟩) i hi
        have b3 := lowOf_in HK.out hlt
        generalize ((p.take i).map lowOf).sum = L at *
        generalize ((p.take i).map highOf).sum = M at *
        have HL := Lib.hid (show lowOf p[i] = if p[i].gap then p[i].low else 1 from rfl)
        have HM := Lib.hid (show highOf p[i] = if p[i].gap then p[i].high else 1 from rfl)
        cases hg0 : p[i].gap
        · rw [hg0] at d0
          have e1 := HL.out
          have e2 := HM.out
          rw [hg0] at e1 e2
          rw [if_neg (by decide)] at e1 e2
          rw [e1] at HN1
          rw [e2] at HN2
          have w1 : IntKind.i64.wrap (L + 1) = L + 1 := IntWalk.i64_in _ (by omega)
          have w2 : IntKind.i64.wrap (M + 1) = M + 1 := IntWalk.i64_in _ (by omega)
          clear e1 e2 HL HM b3
          go_wp2_with fail
          exact ⟨⟨i + 1, by omega, by go_num, by rw [HN1.out], by rw [HN2.out], HB.out⟩, by simp [intOf]; omega⟩
        · rw [hg0] at d0
          have e1 := HL.out
          have e2 := HM.out
          rw [hg0] at e1 e2
          rw [if_pos rfl] at e1 e2
          rw [e1] at HN1 b3
          rw [e2] at HN2 b3
          have w1 : IntKind.i64.wrap (L + p[i].low) = L + p[i].low := IntWalk.i64_in _ (by omega)
          have w2 : IntKind.i64.wrap (M + p[i].high) = M + p[i].high := IntWalk.i64_in _ (by omega)
          have q5 := fun d os => cell_regrown d5 d os
          have q6 := fun d os => cell_regrown d6 d os
          clear e1 e2 HL HM b3
          go_wp2_with fail
          refine wp_region_quiet_below (by kernel_rfl) (by kernel_rfl) ?_
          repeat (go_big_quiet_step (fail))
          refine wpQuiet_nil ?_
          intro _ hw'
          obtain ⟨⟨dq, osq⟩, hw''⟩ := hw'
          subst hw''
          have HB2 := Lib.hid (next HB.out (below_regrown _ dq osq))
          clear q5 q6 d0 d1 d2 d3 d4 d5 d6
          go_wp2_with fail
          exact ⟨⟨i + 1, by omega, by go_num, by rw [HN1.out], by rw [HN2.out], HB2.out⟩, by simp [intOf]; omega⟩
      · obtain rfl : p.length = i := by omega
        have i1 : ¬ ((p.length : Int) < (p.length : Int)) := by omega
        rw [List.take_of_length_le (Nat.le_refl _)]
        have HL := Lib.hid (show leastV p = (p.map lowOf).sum from rfl)
        have HM := Lib.hid (show mostV p = (p.map highOf).sum from rfl)
        generalize (p.map lowOf).sum = L at *
        generalize (p.map highOf).sum = M at *
        go_wp2_with fail
        go_ret3
        exact ⟨by rw [HL.out, HM.out]; rfl, HB.out⟩
  · rw [if_neg h0]
    have t1 : ((checkV p).2 != 0) = true := bne_iff_ne.2 h0
    generalize checkV p = E at *
    obtain ⟨E1, E2⟩ := E
    simp only at *
    clear h0
    go_enter Try.func16, Try.ntmps16
    go_wp2_with fail
    refine KC.out.mono ?_
    rintro e w1 ⟨rfl, hb1⟩
    have HB1 := Lib.hid hb1
    clear hb1
    go_wp2_with fail
    go_ret3
    exact ⟨rfl, HB1.out⟩

set_option maxRecDepth 100000 in
set_option maxHeartbeats 20000000 in
theorem sought_r (v u : Value) (p : List El) (b : List UInt8) (w : World) (h : Pats w v p) (hb : Row w 1 u b.length (bcells b)) :
    Calls Try.prog 38 #[v, u] w fun e w' => e = .returned (.int .i64 (seekE p b)) ∧ Below w.heap.size w w' := by
  have KC := Lib.hid (check_r v p w h)
  obtain ⟨a, cap, rfl⟩ := Row.form2 hb
  unfold seekE
  clear h hb
  generalize checkV p = E at *
  obtain ⟨E1, E2⟩ := E
  simp only at *
  by_cases h0 : E2 = 0
  · subst h0
    rw [if_neg (by simp)]
    by_cases h1 : 4096 < b.length
    · rw [if_pos h1]
      have t1 : (4096 : Int) < (b.length : Int) := by omega
      go_enter Try.func38, Try.ntmps38
      go_wp2_with fail
      refine KC.out.mono ?_
      rintro e w1 ⟨rfl, hb1⟩
      have HB1 := Lib.hid hb1
      clear hb1
      go_wp2_with fail
      go_ret
      exact ⟨rfl, HB1.out⟩
    · rw [if_neg h1]
      have t1 : ¬ (4096 : Int) < (b.length : Int) := by omega
      go_enter Try.func38, Try.ntmps38
      go_wp2_with fail
      refine KC.out.mono ?_
      rintro e w1 ⟨rfl, hb1⟩
      have HB1 := Lib.hid hb1
      clear hb1
      go_wp2_with fail
      go_ret
      exact ⟨rfl, HB1.out⟩
  · rw [if_pos h0]
    have t1 : (E2 == 0) = false := beq_eq_false_iff_ne.2 h0
    clear h0
    go_enter Try.func38, Try.ntmps38
    go_wp2_with fail
    refine KC.out.mono ?_
    rintro e w1 ⟨rfl, hb1⟩
    have HB1 := Lib.hid hb1
    clear hb1
    go_wp2_with fail
    go_ret
    exact ⟨rfl, HB1.out⟩
end Go.Proofs.Ytllkohjmghoipaa
