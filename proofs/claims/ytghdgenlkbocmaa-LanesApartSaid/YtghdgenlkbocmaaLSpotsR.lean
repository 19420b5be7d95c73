/- Layer 17: Rules; the reference's Spots and Rules. -/
import Derived.Test.YtghdgenlkbocmaaLSpots
namespace Go.Proofs.Ytghdgenlkbocmaa
open Go.RowKit

set_option maxRecDepth 100000 in
set_option maxHeartbeats 2000000 in
theorem rules_p (W : Int) (v : Value) (l : List Ln) (w : World) (hv : Lanes w v l) : Calls Try.prog 21 #[.agg #[.int .i64 W, v]] w fun e w' => e = .returned (.tuple #[.int .i64 (rulesV W l), .int .i64 (checkV W l).2]) ∧ Below w.heap.size w w' := by
  have K1 := Lib.hid (fun w h => check_p W v l w h)
  have K2 := Lib.hid (fun w h h0 => last_p W v l w h h0)
  have HM := Lib.hid (ChkM.start w W v)
  have HV := Lib.hid hv
  have hmx := Row.max hv
  obtain ⟨a, cap, rfl⟩ := hv.form
  clear hv
  by_cases h0 : (checkV W l).2 = 0
  · have hG := good_of h0
    rw [show rulesV W l = (lastL l).1 + 1 by unfold rulesV; rw [if_pos h0], h0]
    rw [check_zero h0] at K1
    obtain ⟨m1, m2, m3, m4, m5⟩ := hG.last
    have HP := Lib.hid hG.pos
    obtain ⟨k, hk⟩ : ∃ k, l.length = k + 1 := ⟨l.length - 1, by have := hG.pos; omega⟩
    have hla := lastL_at hk
    clear h0 hG
    clear hla hk
    generalize (lastL l).1 = x at *
    generalize (lastL l).2.1 = f at *
    generalize (lastL l).2.2 = m at *
    obtain ⟨c0, c1⟩ := HM.out.plan.cells
    go_enter Try.func21, Try.ntmps21
    go_wp2_with fail
    refine (K1.out _ (HV.out.below HM.out.bel)).mono ?_
    rintro e w1 ⟨rfl, hb⟩
    have HM1 := Lib.hid (HM.out.keep hb rfl)
    clear c0 c1 hb
    obtain ⟨c0, c1⟩ := HM1.out.plan.cells
    go_wp2_with fail
    refine (K2.out _ (HV.out.below HM1.out.bel) HP.out).mono ?_
    rintro e w2 ⟨rfl, hb⟩
    have HM2 := Lib.hid (HM1.out.keep hb rfl)
    clear c0 c1 hb
    go_wp2_with fail
    go_ret2
    exact ⟨rfl, HM2.out.bel⟩
  · rw [show rulesV W l = 0 by unfold rulesV; rw [if_neg h0]]
    have e1 : ((checkV W l).2 != 0) = true := bne_iff_ne.2 h0
    generalize checkV W l = V at *
    obtain ⟨c0, c1⟩ := HM.out.plan.cells
    clear h0
    go_enter Try.func21, Try.ntmps21
    go_wp2_with fail
    refine (K1.out _ (HV.out.below HM.out.bel)).mono ?_
    rintro e w1 ⟨rfl, hb⟩
    have HM1 := Lib.hid (HM.out.keep hb rfl)
    clear c0 c1 hb
    go_wp2_with fail
    go_ret2
    exact ⟨rfl, HM1.out.bel⟩

set_option maxRecDepth 100000 in
set_option maxHeartbeats 2000000 in
theorem spots_r (W : Int) (v : Value) (l : List Ln) (w : World) (hv : Lanes w v l) : Calls Try.prog 20 #[.agg #[.int .i64 W, v]] w fun e w' => e = .returned (.tuple #[.int .i64 (spotsV W l), .int .i64 (checkV W l).2]) ∧ Below w.heap.size w w' := by
  have K1 := Lib.hid (fun w h => check_r W v l w h)
  have K2 := Lib.hid (fun w h h0 => last_p W v l w h h0)
  have HM := Lib.hid (ChkM.start w W v)
  have HV := Lib.hid hv
  have hmx := Row.max hv
  obtain ⟨a, cap, rfl⟩ := hv.form
  clear hv
  by_cases h0 : (checkV W l).2 = 0
  · have hG := good_of h0
    rw [show spotsV W l = (lastL l).2.1 + (lastL l).2.2 by unfold spotsV; rw [if_pos h0], h0]
    rw [check_zero h0] at K1
    obtain ⟨m1, m2, m3, m4, m5⟩ := hG.last
    have HP := Lib.hid hG.pos
    obtain ⟨k, hk⟩ : ∃ k, l.length = k + 1 := ⟨l.length - 1, by have := hG.pos; omega⟩
    have hla := lastL_at hk
    clear h0 hG
    obtain ⟨g, o, rfl, hg, q0, q1, q2⟩ := HV.out.at (i := k) (by omega)
    rw [← hla] at q0 q1 q2
    clear hla
    rw [hk] at hmx
    generalize (lastL l).1 = x at *
    generalize (lastL l).2.1 = f at *
    generalize (lastL l).2.2 = m at *
    have HLEN := Lib.hid hk
    clear hk
    obtain ⟨c0, c1⟩ := HM.out.plan.cells
    go_enter Try.func20, Try.ntmps20
    go_wp2_with fail
    refine (K1.out _ (HV.out.below HM.out.bel)).mono ?_
    rintro e w1 ⟨rfl, hb⟩
    have HM1 := Lib.hid (HM.out.keep hb rfl)
    clear c0 c1 hb
    obtain ⟨c0, c1⟩ := HM1.out.plan.cells
    have r0 := (HM1.out.bel.cell (p := ⟨g, o + k * 3, none⟩) hg).trans q0
    have r1 := (HM1.out.bel.cell (p := ⟨g, o + k * 3 + 1, none⟩) hg).trans q1
    have r2 := (HM1.out.bel.cell (p := ⟨g, o + k * 3 + 2, none⟩) hg).trans q2
    clear q0 q1 q2
    have HB := Lib.hid HM1.out.bel
    clear HM HM1 K1 K2 HV
    have hk := HLEN.out
    clear HLEN
    generalize l.length = N at *
    subst hk
    go_wp2_with fail
    go_ret2
    exact ⟨rfl, HB.out.alloc HB.out.size _⟩
  · rw [show spotsV W l = 0 by unfold spotsV; rw [if_neg h0]]
    have e1 : ((checkV W l).2 != 0) = true := bne_iff_ne.2 h0
    generalize checkV W l = V at *
    obtain ⟨c0, c1⟩ := HM.out.plan.cells
    clear h0
    go_enter Try.func20, Try.ntmps20
    go_wp2_with fail
    refine (K1.out _ (HV.out.below HM.out.bel)).mono ?_
    rintro e w1 ⟨rfl, hb⟩
    have HM1 := Lib.hid (HM.out.keep hb rfl)
    clear c0 c1 hb
    go_wp2_with fail
    go_ret2
    exact ⟨rfl, HM1.out.bel⟩

set_option maxRecDepth 100000 in
set_option maxHeartbeats 2000000 in
theorem rules_r (W : Int) (v : Value) (l : List Ln) (w : World) (hv : Lanes w v l) : Calls Try.prog 22 #[.agg #[.int .i64 W, v]] w fun e w' => e = .returned (.tuple #[.int .i64 (rulesV W l), .int .i64 (checkV W l).2]) ∧ Below w.heap.size w w' := by
  have K1 := Lib.hid (fun w h => check_r W v l w h)
  have K2 := Lib.hid (fun w h h0 => last_p W v l w h h0)
  have HM := Lib.hid (ChkM.start w W v)
  have HV := Lib.hid hv
  have hmx := Row.max hv
  obtain ⟨a, cap, rfl⟩ := hv.form
  clear hv
  by_cases h0 : (checkV W l).2 = 0
  · have hG := good_of h0
    rw [show rulesV W l = (lastL l).1 + 1 by unfold rulesV; rw [if_pos h0], h0]
    rw [check_zero h0] at K1
    obtain ⟨m1, m2, m3, m4, m5⟩ := hG.last
    have HP := Lib.hid hG.pos
    obtain ⟨k, hk⟩ : ∃ k, l.length = k + 1 := ⟨l.length - 1, by have := hG.pos; omega⟩
    have hla := lastL_at hk
    clear h0 hG
    obtain ⟨g, o, rfl, hg, q0, q1, q2⟩ := HV.out.at (i := k) (by omega)
    rw [← hla] at q0 q1 q2
    clear hla
    rw [hk] at hmx
    generalize (lastL l).1 = x at *
    generalize (lastL l).2.1 = f at *
    generalize (lastL l).2.2 = m at *
    have HLEN := Lib.hid hk
    clear hk
    obtain ⟨c0, c1⟩ := HM.out.plan.cells
    go_enter Try.func22, Try.ntmps22
    go_wp2_with fail
    refine (K1.out _ (HV.out.below HM.out.bel)).mono ?_
    rintro e w1 ⟨rfl, hb⟩
    have HM1 := Lib.hid (HM.out.keep hb rfl)
    clear c0 c1 hb
    obtain ⟨c0, c1⟩ := HM1.out.plan.cells
    have r0 := (HM1.out.bel.cell (p := ⟨g, o + k * 3, none⟩) hg).trans q0
    have r1 := (HM1.out.bel.cell (p := ⟨g, o + k * 3 + 1, none⟩) hg).trans q1
    have r2 := (HM1.out.bel.cell (p := ⟨g, o + k * 3 + 2, none⟩) hg).trans q2
    clear q0 q1 q2
    have HB := Lib.hid HM1.out.bel
    clear HM HM1 K1 K2 HV
    have hk := HLEN.out
    clear HLEN
    generalize l.length = N at *
    subst hk
    go_wp2_with fail
    go_ret2
    exact ⟨rfl, HB.out⟩
  · rw [show rulesV W l = 0 by unfold rulesV; rw [if_neg h0]]
    have e1 : ((checkV W l).2 != 0) = true := bne_iff_ne.2 h0
    generalize checkV W l = V at *
    obtain ⟨c0, c1⟩ := HM.out.plan.cells
    clear h0
    go_enter Try.func22, Try.ntmps22
    go_wp2_with fail
    refine (K1.out _ (HV.out.below HM.out.bel)).mono ?_
    rintro e w1 ⟨rfl, hb⟩
    have HM1 := Lib.hid (HM.out.keep hb rfl)
    clear c0 c1 hb
    go_wp2_with fail
    go_ret2
    exact ⟨rfl, HM1.out.bel⟩
end Go.Proofs.Ytghdgenlkbocmaa
