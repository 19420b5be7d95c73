/- Layer 17, the reference: Find. -/
import Derived.Test.YtghdgenlkbocmaaLFind
namespace Go.Proofs.Ytghdgenlkbocmaa
open Go.RowKit

set_option maxRecDepth 100000 in
set_option maxHeartbeats 2000000 in
theorem find_r (W pos : Int) (v : Value) (l : List Ln) (w : World) (hv : Lanes w v l) : Calls Try.prog 24 #[.agg #[.int .i64 W, v], .int .i64 pos] w fun e w' => e = .returned (.tuple #[.int .i64 (findV W l pos).1, .int .i64 (findV W l pos).2.1, .int .i64 (findV W l pos).2.2]) ∧ Below w.heap.size w w' := by
  have K1 := Lib.hid (fun w h => spots_r W v l w h)
  have HM := Lib.hid (ChkM.start w W v)
  have HV := Lib.hid hv
  have hm := Row.max hv
  obtain ⟨V, hV⟩ : ∃ V, V = findV W l pos := ⟨_, rfl⟩
  rw [← hV]
  unfold findV at hV
  obtain ⟨a, cap, rfl⟩ := hv.form
  clear hv
  by_cases h0 : (checkV W l).2 = 0
  · have hG := good_of h0
    rw [if_neg (fun h => h h0)] at hV
    rw [show spotsV W l = (lastL l).2.1 + (lastL l).2.2 by unfold spotsV; rw [if_pos h0], h0] at K1
    obtain ⟨m1, m2, m3, m4, m5⟩ := hG.last
    have HG := Lib.hid hG
    have hs := hG.short
    have HFI := Lib.hid (fun h0 h1 => findI_at (pos := pos) hG h0 h1)
    have hn0 : 1 ≤ (lastL l).2.1 + (lastL l).2.2 := by omega
    generalize hend : (lastL l).2.1 + (lastL l).2.2 = n at *
    clear h0 hG hend
    obtain ⟨c0, c1⟩ := HM.out.plan.cells
    by_cases hp : pos < 0 ∨ n ≤ pos
    · rw [if_pos hp] at hV
      subst hV
      rcases hp with hp | hp
      · go_enter Try.func24, Try.ntmps24
        go_wp2_with fail
        refine (K1.out _ (HV.out.below HM.out.bel)).mono ?_
        rintro e w1 ⟨rfl, hb⟩
        have HM1 := Lib.hid (HM.out.keep hb rfl)
        clear c0 c1 hb
        go_wp2_with fail
        go_ret3
        exact ⟨rfl, HM1.out.bel⟩
      · have hp2 : ¬ pos < 0 := by omega
        go_enter Try.func24, Try.ntmps24
        go_wp2_with fail
        refine (K1.out _ (HV.out.below HM.out.bel)).mono ?_
        rintro e w1 ⟨rfl, hb⟩
        have HM1 := Lib.hid (HM.out.keep hb rfl)
        clear c0 c1 hb
        go_wp2_with fail
        go_ret3
        exact ⟨rfl, HM1.out.bel⟩
    · rw [if_neg hp] at hV
      have hp1 : ¬ pos < 0 := by omega
      have hp2 : ¬ n ≤ pos := by omega
      have hat := HFI.out (by omega) (by omega)
      generalize findI l pos = I at *
      obtain ⟨hI, f1, f2⟩ := hat
      have hV2 : V = (((I : Nat) : Int), pos - l[I].2.1, 0) := by
        rw [hV, List.getD_eq_getElem?_getD, List.getElem?_eq_getElem hI]
        rfl
      have HF1 := Lib.hid f1
      have HF2 := Lib.hid f2
      subst hV2
      clear hV hp f1 f2 HFI
      go_enter Try.func24, Try.ntmps24
      go_wp2_with fail
      refine (K1.out _ (HV.out.below HM.out.bel)).mono ?_
      rintro e w1 ⟨rfl, hb⟩
      have HM1 := Lib.hid (HM.out.keep hb rfl)
      clear c0 c1 hb
      go_wp2_with fail
      go_loopw [9] (fun iv wr => ∃ i : Nat, i ≤ I ∧ iv = .int .i64 (i : Nat) ∧ ChkM w W (.slice a l.length cap) wr) (fun iv _ => I - (intOf iv).toNat)
      case atStart => exact ⟨0, by omega, rfl, HM1.out⟩
      case round =>
        obtain ⟨i, hi, rfl, hM⟩ := hrel
        have HCM := Lib.hid hM
        have i0 : (0 : Int) ≤ (i : Int) := by omega
        have hil : i < l.length := by omega
        have i1 : (i : Int) < (l.length : Int) := by omega
        obtain ⟨g, o, rfl, hg, q0, q1, q2⟩ := HV.out.at hil
        have c1 := (hM.bel.cell (p := ⟨g, o + i * 3 + 1, none⟩) hg).trans q1
        have c2 := (hM.bel.cell (p := ⟨g, o + i * 3 + 2, none⟩) hg).trans q2
        obtain ⟨p0, p1⟩ := hM.plan.cells
        obtain ⟨b1, b2, b3, b4, b5⟩ := HG.out.chain.all i hil
        by_cases hlt : i < I
        · have hmono := HG.out.lt hlt hI
          have hge : l[i].2.1 + l[i].2.2 ≤ pos := by have := HF1.out; omega
          generalize l[i].2.1 = f at *
          generalize l[i].2.2 = m at *
          have ws : IntKind.i64.wrap (f + m) = f + m := IntWalk.i64_in _ (by omega)
          have hd : decide (f + m ≤ pos) = true := decide_eq_true hge
          clear q0 q1 q2 hM hmono hge
          go_wp2_with fail
          go_quiet (fail)
          clear ws
          go_wp2_with fail
          exact ⟨⟨i + 1, by omega, by go_num, HCM.out.drewN _⟩, by simp [intOf]; omega⟩
        · obtain rfl : i = I := by omega
          have hge : ¬ l[i].2.1 + l[i].2.2 ≤ pos := by have := HF2.out; omega
          have hf1 := HF1.out
          generalize hff : l[i].2.1 = f at *
          generalize l[i].2.2 = m at *
          have HFF := Lib.hid hff
          have ws : IntKind.i64.wrap (f + m) = f + m := IntWalk.i64_in _ (by omega)
          have hd : decide (f + m ≤ pos) = false := decide_eq_false hge
          have wd : IntKind.i64.wrap (pos - f) = pos - f := IntWalk.i64_in _ (by omega)
          clear q0 q1 q2 hM hge hff
          go_wp2_with fail
          go_quiet (fail)
          clear ws
          go_wp2_with fail
          go_quiet (fail)
          clear wd
          go_wp2_with fail
          go_ret3
          obtain rfl := HFF.out
          exact ⟨rfl, ((HCM.out.drewN _).drewN _).bel⟩
  · rw [if_pos h0] at hV
    rw [show spotsV W l = 0 by unfold spotsV; rw [if_neg h0]] at K1
    have e1 : ((checkV W l).2 != 0) = true := bne_iff_ne.2 h0
    have e2 : ((checkV W l).2 == 0) = false := beq_eq_false_iff_ne.2 h0
    generalize (checkV W l).2 = E at *
    subst hV
    obtain ⟨c0, c1⟩ := HM.out.plan.cells
    clear h0
    go_enter Try.func24, Try.ntmps24
    go_wp2_with fail
    refine (K1.out _ (HV.out.below HM.out.bel)).mono ?_
    rintro e w1 ⟨rfl, hb⟩
    have HM1 := Lib.hid (HM.out.keep hb rfl)
    clear c0 c1 hb
    go_wp2_with fail
    go_ret3
    exact ⟨rfl, HM1.out.bel⟩
end Go.Proofs.Ytghdgenlkbocmaa
