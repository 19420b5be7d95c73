/- SpreadLengths: the law returns true: lengths of lines. No conditions. -/
import Derived.Test.YtpjllppbpnkemaaMg6
import Derived.Test.YtpjllppbpnkemaaMg5
namespace Go.Proofs.Ytpjllppbpnkemaa.spreadLengths
open Go.ChangeShapes Go.WideShapes Go.ChangeAt Go.RowKit

set_option maxRecDepth 100000 in
set_option maxHeartbeats 20000000 in
theorem walkN (v : Value) (p : List El) (w : World) (h : Pats w v p) :
    Calls Try.prog 8 #[v] w fun e w' => e = .returned (.bool true) ∧ Below w.heap.size w w' := by
  have K0 := Lib.hid (long_p v p w h)
  have K1 := Lib.hid (fun w1 (hb : Below w.heap.size w w1) => lines_p v p w1 (Row.below h hb))
  have K2 := Lib.hid (fun w1 (hb : Below w.heap.size w w1) => choices_p v p w1 (Row.below h hb))
  have K3 := Lib.hid (fun w1 (hb : Below w.heap.size w w1) => lengths_p v p w1 (Row.below h hb))
  have K4 := Lib.hid (fun w1 (hb : Below w.heap.size w w1) => count_p v p w1 (Row.below h hb))
  have K5 := Lib.hid (fun w1 (hb : Below w.heap.size w w1) => positions_p v p w1 (Row.below h hb))
  have K6 := Lib.hid (fun w1 (hb : Below w.heap.size w w1) ua uc c hn hc => line_p v ua uc p c w1 (Row.below h hb) hn hc)
  unfold LinesP at K1
  unfold ChoP at K2
  unfold CntP at K4
  unfold PosP at K5
  obtain ⟨a, cap, rfl⟩ := Row.form2 h
  clear h
  generalize longV p = lg at *
  by_cases h0 : posE p = 0
  · have HE := Lib.hid h0
    rw [h0] at K1 K2 K5
    obtain ⟨n1, n2⟩ := chosL_len h0
    have hcl := @chos_len p
    have hok := (cntE_ok (posE_ok h0).1).1
    have e3 : lenV p = (leastV p, mostV p, 0) := by unfold lenV; rw [hok.check]; rfl
    have hN1 : (chosL p).length - 1 < (chosL p).length := by omega
    obtain ⟨b1, b2⟩ := lines_ends h0 n2 hN1
    rw [(posE_ok h0).1, ← n1] at K4
    rw [e3, ← b1, ← b2] at K3
    rw [← restV_zero h0] at K5
    have RS := Lib.hid (show ∀ i (hi : i < (chosL p).length), restV p i - ((lineL p (chosL p)[i]).length : Int) = restV p (i + 1) from fun i hi => restV_step h0 hi)
    have RI := Lib.hid (fun i => restV_in h0 i)
    have RE := Lib.hid (restV_end p)
    have AS := Lib.hid (show ∀ i (hi : i < (chosL p).length) (hj : i + 1 < (chosL p).length), (lineL p (chosL p)[i]).length ≤ (lineL p (chosL p)[i + 1]).length from fun i hi hj => lines_asc h0 (by omega) hj)
    have LE := Lib.hid (fun c (hc : c ∈ chosL p) => chosL_line hc)
    have LV := Lib.hid (show linesV p = (chosL p).map (lineL p) from rfl)
    clear h0 n1 hok e3 b1 b2
    generalize restV p = rv at *
    generalize chosL p = l at *
    go_enter Try.func8, Try.ntmps8
    go_wp2_with fail
    refine K0.out.mono ?_
    rintro e w1 ⟨rfl, rfl⟩
    cases lg with
    | true =>
      go_wp2_with fail
      refine (shown_p _).mono ?_
      rintro e w1 ⟨rfl, hb⟩
      have HB := Lib.hid hb
      clear hb
      go_wp2_with fail
      go_ret
      exact ⟨rfl, HB.out⟩
    | false =>
      go_wp2_with fail
      with_reducible refine (K1.out w (Below.refl _ _)).mono ?_
      rintro e w1 ⟨lv, rfl, hl1, hb1⟩
      have HB1 := Lib.hid hb1
      have HL := Lib.hid hl1.lines
      obtain ⟨la, lc, rfl⟩ := hl1.lines.form
      have eN : (linesV p).length = l.length := by rw [LV.out, List.length_map]
      rw [eN] at HL ⊢
      clear hl1 hb1 K1
      go_wp2_with fail
      with_reducible refine (K2.out w1 HB1.out).mono ?_
      rintro e w2 ⟨cv, rfl, hc2, hb2⟩
      have HB2 := Lib.hid (next HB1.out hb2)
      have HC := Lib.hid hc2
      replace HL := Lib.hid (HL.out.below hb2)
      obtain ⟨ca, cc, rfl⟩ := hc2.form
      clear hc2 hb2 K2
      go_wp2_with fail
      with_reducible refine (K3.out w2 HB2.out).mono ?_
      rintro e w3 ⟨rfl, hb3⟩
      have HB3 := Lib.hid (next HB2.out hb3)
      replace HL := Lib.hid (HL.out.below hb3)
      replace HC := Lib.hid (HC.out.below hb3)
      clear hb3 K3
      go_wp2_with fail
      with_reducible refine (K4.out w3 HB3.out).mono ?_
      rintro e w4 ⟨rfl, hb4⟩
      have HB4 := Lib.hid (next HB3.out hb4)
      replace HL := Lib.hid (HL.out.below hb4)
      replace HC := Lib.hid (HC.out.below hb4)
      clear hb4 K4
      go_wp2_with fail
      with_reducible refine (K5.out w4 HB4.out).mono ?_
      rintro e w5 ⟨rfl, hb5⟩
      have HB5 := Lib.hid (next HB4.out hb5)
      replace HL := Lib.hid (HL.out.below hb5)
      replace HC := Lib.hid (HC.out.below hb5)
      clear hb5 K5
      have hL := HL.out
      rw [LV.out] at hL
      have HL := Lib.hid hL
      obtain ⟨gl, ol, _, _, rfl, _, c0, z0⟩ := hL.at (i := 0) (by simpa using n2)
      obtain ⟨gl', ol', _, _, e', _, c1, z1⟩ := hL.at (i := l.length - 1) (by simpa using hN1)
      cases e'
      rw [List.getElem_map] at c0 c1
      obtain ⟨M, hM⟩ : ∃ M, M = l.length - 1 := ⟨_, rfl⟩
      generalize (lineL p l[0]).length = A0 at *
      generalize (lineL p l[l.length - 1]).length = A1 at *
      rw [← hM] at c1
      rw [Nat.add_zero] at c0
      have HM := Lib.hid (show l.length = M + 1 by omega)
      have m0 : (0 : Int) ≤ (M : Int) := by omega
      have m1 : (M : Int) < (l.length : Int) := by omega
      have n0 : (0 : Int) < (l.length : Int) := by omega
      have wN : IntKind.i64.wrap ((l.length : Int) - 1) = (M : Int) := by rw [show (l.length : Int) - 1 = (M : Int) by omega]; exact IntWalk.i64_in _ (by omega)
      have tN : ((l.length : Int) == 0) = false := beq_eq_false_iff_ne.2 (by omega)
      clear hL eN hM z0 z1
      go_wp2_with fail
      clear c0 c1
      go_loopw [11, 13] (fun mv iv wr => ∃ i : Nat, i ≤ l.length ∧ iv = .int .i64 (i : Nat) ∧ mv = .int .i64 (rv i) ∧ Below w5.heap.size w5 wr) (fun _ iv _ => l.length - (intOf iv).toNat)
      case atStart => exact ⟨0, by omega, rfl, rfl, Below.refl _ _⟩
      case round =>
        obtain ⟨i, hi, rfl, rfl, hB⟩ := hrel
        have HB := Lib.hid hB
        have HBW := Lib.hid (next HB5.out hB)
        clear hB
        by_cases hlt : i < l.length
        · obtain ⟨gc, oc, ua, uc, hgc, _, d0, hcap, hnum, _⟩ := (HC.out.below HB.out).atL hlt rfl
          subst hgc
          have i1 : (0 : Int) ≤ (i : Int) := by omega
          have i2 : (i : Int) < (l.length : Int) := by omega
          have wi1 : IntKind.i64.wrap ((i : Int) + 1) = (i : Int) + 1 := IntWalk.i64_in _ (by omega)
          have hE := LE.out l[i] (List.getElem_mem _)
          have KL := K6.out wr HBW.out ua uc l[i] hnum hcap
          unfold LineP at KL
          rw [hE, lineV_ok hE] at KL
          have KL := Lib.hid KL
          have hI0 := RI.out i
          have hI1 := RI.out (i + 1)
          have hst := RS.out i hlt
          have wm : IntKind.i64.wrap (rv i - ((lineL p l[i]).length : Int)) = rv (i + 1) := by rw [hst]; exact IntWalk.i64_in _ (by omega)
          clear hI0 hI1 hst hE hnum hcap
          go_wp2_with fail
          with_reducible refine KL.out.mono ?_
          rintro e w6 ⟨v6, rfl, ho6, hb6⟩
          have HB6 := Lib.hid (HB.out.trans (hb6.mono HB.out.size))
          have HL6 := Lib.hid (show Line w6 v6 (lineL p l[i]) from Row.of_owns ho6)
          obtain ⟨xa, xc, rfl⟩ := HL6.out.form
          have hLL := HL.out.below HB6.out
          obtain ⟨_, _, ya, yc, e', hgl, e1, hy⟩ := hLL.at (i := i) (by simpa using hlt)
          cases e'
          rw [List.getElem_map] at e1 hy
          have KS := Lib.hid (fun d os => sameLine_r _ _ (lineL p l[i]) (lineL p l[i]) (Sort.grow (Go.redrawn w6 d) os) (HL6.out.below (below_regrown w6 d os)) (hy.below (below_regrown w6 d os)))
          simp only [decide_true] at KS
          clear ho6 hb6 KL d0
          have q1 := fun d os => cell_regrown e1 d os
          by_cases hi0 : i = 0
          · have g0 : decide (0 < (i : Int)) = false := decide_eq_false (by omega)
            have g1 : decide (0 < i) = false := decide_eq_false (by omega)
            have g2 : ¬ 0 < i := by omega
            clear hi0
            go_wp2_with fail
            refine wp_region_quiet_below (by kernel_rfl) (by kernel_rfl) ?_
            repeat (go_big_quiet_step ((go_at_call 29; exact Calls.regrown_of (KS.out _ _))))
            refine wpQuiet_nil ?_
            intro _ hw'
            obtain ⟨⟨dq, osq⟩, hw''⟩ := hw'
            subst hw''
            have HB7 := Lib.hid (HB6.out.trans ((below_regrown w6 dq osq).mono HB6.out.size))
            have e7 := cell_regrown e1 dq osq
            clear q1 KS e1
            go_wp2_with fail
            exact ⟨⟨i + 1, by omega, by go_num, rfl, HB7.out⟩, by simp [intOf] <;> omega⟩
          · have g0 : decide (0 < (i : Int)) = true := decide_eq_true (by omega)
            obtain ⟨k, rfl⟩ : ∃ k, i = k + 1 := ⟨i - 1, by omega⟩
            obtain ⟨_, _, za, zc, e', _, e2, _⟩ := hLL.at (i := k) (by simp; omega)
            cases e'
            rw [List.getElem_map] at e2
            have q2 := fun d os => cell_regrown e2 d os
            have k0 : (0 : Int) ≤ (k : Int) := by omega
            have k1 : (k : Int) < (l.length : Int) := by omega
            have wk : IntKind.i64.wrap (((k + 1 : Nat) : Int) - 1) = (k : Int) := by rw [show ((k + 1 : Nat) : Int) - 1 = (k : Int) by omega]; exact IntWalk.i64_in _ (by omega)
            have hle := AS.out k (by omega) hlt
            have t9 : decide (((lineL p l[k + 1]).length : Int) < ((lineL p l[k]).length : Int)) = false := decide_eq_false (by omega)
            have t8 : ¬ (lineL p l[k + 1]).length < (lineL p l[k]).length := by omega
            clear hle
            go_wp2_with fail
            refine wp_region_quiet_below (by kernel_rfl) (by kernel_rfl) ?_
            repeat (go_big_quiet_step ((go_at_call 29; exact Calls.regrown_of (KS.out _ _))))
            refine wpQuiet_nil ?_
            intro _ hw'
            obtain ⟨⟨dq, osq⟩, hw''⟩ := hw'
            subst hw''
            have HB7 := Lib.hid (HB6.out.trans ((below_regrown w6 dq osq).mono HB6.out.size))
            have e7 := cell_regrown e1 dq osq
            clear q1 q2 KS e1 e2
            go_wp2_with fail
            exact ⟨⟨k + 1 + 1, by omega, by go_num, rfl, HB7.out⟩, by simp [intOf] <;> omega⟩
        · obtain rfl : i = l.length := by omega
          have i2 : ¬ (l.length : Int) < (l.length : Int) := by omega
          rw [RE.out]
          go_wp2_with fail
          refine (shown_p _).mono ?_
          rintro e w6 ⟨rfl, hb⟩
          have HB6 := Lib.hid (next HBW.out hb)
          clear hb
          go_wp2_with fail
          go_ret
          exact ⟨rfl, HB6.out⟩
  · have t1 : (posE p != 0) = true := bne_iff_ne.2 h0
    generalize posE p = E at *
    clear h0
    go_enter Try.func8, Try.ntmps8
    go_wp2_with fail
    refine K0.out.mono ?_
    rintro e w1 ⟨rfl, rfl⟩
    cases lg with
    | true =>
      go_wp2_with fail
      refine (shown_p _).mono ?_
      rintro e w1 ⟨rfl, hb⟩
      have HB := Lib.hid hb
      clear hb
      go_wp2_with fail
      go_ret
      exact ⟨rfl, HB.out⟩
    | false =>
      go_wp2_with fail
      with_reducible refine (K1.out w (Below.refl _ _)).mono ?_
      rintro e w1 ⟨lv, rfl, hl1, hb1⟩
      have HB1 := Lib.hid hb1
      obtain ⟨la, lc, rfl⟩ := hl1.lines.form
      clear hl1 hb1 K1
      go_wp2_with fail
      refine (shown_p _).mono ?_
      rintro e w2 ⟨rfl, hb⟩
      have HB := Lib.hid (next HB1.out hb)
      clear hb
      go_wp2_with fail
      go_ret
      exact ⟨rfl, HB.out⟩

set_option maxRecDepth 100000 in
theorem walk {H : Type} {enc : TypeId × Value → H} {d : DataW H} {p : List MemPlace} {base : Nat} (v : Value) (w : World)
    (hk : DataW.Trod enc Try.prog w 0 (fun _ => true) true 22 v d p) (hv : Value.okWide Try.prog w .any base 22 v) :
    Calls Try.prog 8 #[v] w fun e w' => e = .returned (.bool true) ∧ Below w.heap.size w w' := by
  obtain ⟨m, hm⟩ := hk
  obtain ⟨a, len, cap, rfl⟩ := okWide_slice Try.underlying22 hv
  obtain ⟨l, hl⟩ := pats_of hm
  exact walkN _ l w hl

theorem own : ownKnob Try.prog.godebug = none := by kernel_rfl
theorem laidOut : laidOutB Try.prog = true := by kernel_rfl

set_option maxRecDepth 100000 in
theorem lifted (os : Os) (started : os.Started) (H : Type) (enc : TypeId × Value → H) :
    ReturnsInHanded {} Try.checked os 8 .any (Rows.spreadLengthsSpec.pre6 enc Try.prog Try.f8 Rows.spreadLengthsRow.domain false) (Rows.spreadLengthsSpec.post enc Try.prog Try.f8 false true false false) := by
  refine returnsInHanded_of_change (C := Try.checked) own started (by kernel_rfl) Try.func8
    (ChangeSpec.witness6 (enc := enc) (C := Try.checked) false ⟨#[], #[.slice none 0 0], []⟩ 8 (by kernel_rfl) (by kernel_rfl) (by kernel_rfl) (by kernel_rfl)) ?_
  intro W base args ds gs before hval0 hW hcnd _
  have hval : ∀ (j : Nat) t v, Try.f8.params[j]? = some t → args[j]? = some v → Value.okWide Try.prog W .any base t v := hval0
  have hW' := hW
  obtain ⟨p, q, hA0, hV, rfl, hfz, hnd⟩ := hW
  have hA : DataW.TrodAll enc Try.prog W 0 (fun _ => true) true Try.f8.params.toList args.toList ds p := hA0
  rw [Try.params8] at hA hval
  obtain ⟨v0, vs0, d0, ds0, p0, q0, hargs, rfl, rfl, k0, r0⟩ := trodAll_cons hA
  obtain ⟨rfl, rfl, rfl⟩ := trodAll_nil r0
  obtain rfl : args = #[v0] := by cases args; simp_all
  obtain ⟨rfl, rfl⟩ := trodVars_none hV
  have lt0 : ∀ x ∈ p0, x.block < W.heap.size := by obtain ⟨m, hm⟩ := k0; exact DataW.trod_lt m _ _ _ hm
  clear hA0 hval0
  refine (walk v0 W k0 (hval 0 22 v0 rfl rfl)).mono fun e W' ⟨he, bel⟩ => ?_
  subst he
  exact ⟨_, rfl, _, _, _, [], _, [], hW', trodAll_mk1 (shut_bool Try.underlying4 _), (trodAll_cons_mk (Below.trod laidOut (by kernel_rfl) (of_decide_eq_true (by kernel_rfl)) k0 bel lt0) trodAll_mk0), rfl, bel.frame _, fun h => by cases h⟩

theorem over : Rows.spreadLengthsRow.holds Try.pinned (OpenSpec.ofChange Rows.spreadLengthsSpec) :=
  OpenClaim.holds_of_wide 8 Try.f8 rfl rfl rfl rfl rfl rfl rfl ⟨rfl, rfl, rfl, rfl, rfl⟩ rfl rfl rfl rfl rfl (by kernel_rfl) Try.func8 (by kernel_rfl)
    (of_decide_eq_true (by kernel_rfl)) (by unfold Func.isWrapper; first | (rw [if_pos (by decide +kernel)]; kernel_rfl) | (rw [if_neg (by decide +kernel)]; exact ⟨rfl, rfl⟩))
    (fun os started H enc _ => lifted os started H enc)

theorem proved : Rows.SpreadLengthsSaid := over
#print axioms proved
end Go.Proofs.Ytpjllppbpnkemaa.spreadLengths
