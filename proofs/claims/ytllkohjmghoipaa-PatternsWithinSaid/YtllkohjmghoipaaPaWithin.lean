/- PatternsWithin: the law returns true: what a pattern matches has a length between the shortest and the longest one; a pattern within which it is matches it, too; each end is one of something that is matched. No conditions. -/
import Derived.Test.YtllkohjmghoipaaPaLong
import Derived.Test.YtllkohjmghoipaaPaCut
import Derived.Test.YtllkohjmghoipaaPaWithV
import Derived.Test.YtllkohjmghoipaaPaInP
namespace Go.Proofs.Ytllkohjmghoipaa.patternsWithin
open Go.ChangeShapes Go.WideShapes Go.ChangeAt Go.RowKit Go.Sort

set_option maxRecDepth 100000 in
set_option maxHeartbeats 20000000 in
theorem walkN (v u x : Value) (p q : List El) (b : List UInt8) (w : World) (h : Pats w v p) (hq : Pats w u q) (hb : Bytes w x b) (hc : CapOk x) :
    Calls Try.prog 9 #[v, u, x] w fun e w' => e = .returned (.bool true) ∧ Below w.heap.size w w' := by
  have K0 := Lib.hid (long_p v p w h)
  have K1 := Lib.hid (long_p u q w hq)
  have K2 := Lib.hid (matches_p v x p b w h hb)
  have K3 := Lib.hid (fun w1 (hl : Below w.heap.size w w1) => lengths_p v p w1 (Row.below h hl))
  have K4 := Lib.hid (fun w1 (hl : Below w.heap.size w w1) => within_p v u p q w1 (Row.below h hl) (Row.below hq hl))
  have K5 := Lib.hid (fun w1 (hl : Below w.heap.size w w1) => matches_p u x q b w1 (Row.below hq hl) (Row.below hb hl))
  have K6 := Lib.hid (fun w1 (hl : Below w.heap.size w w1) => ends_p v x p b w1 (Row.below h hl) (Row.below hb hl))
  have HP := Lib.hid h
  have HBy := Lib.hid hb
  obtain ⟨a, cap, rfl⟩ := Row.form2 h
  obtain ⟨a2, cap2, rfl⟩ := Row.form2 hq
  obtain ⟨a3, cap3, rfl⟩ := Row.form2 hb
  have hcap := hc.le
  clear h hq hb hc
  generalize longV p = lg at *
  generalize longV q = lg2 at *
  cases lg with
  | true =>
    go_enter Try.func9, Try.ntmps9
    go_wp2_with fail
    refine K0.out.mono ?_
    rintro e w0 ⟨rfl, rfl⟩
    go_wp2_with fail
    refine (shown_p _).mono ?_
    rintro e w1 ⟨rfl, hb⟩
    have HB := Lib.hid hb
    clear hb
    go_wp2_with fail
    go_ret
    exact ⟨rfl, HB.out⟩
  | false =>
    cases lg2 with
    | true =>
      go_enter Try.func9, Try.ntmps9
      go_wp2_with fail
      refine K0.out.mono ?_
      rintro e w0 ⟨rfl, rfl⟩
      go_wp2_with fail
      refine K1.out.mono ?_
      rintro e w0 ⟨rfl, rfl⟩
      go_wp2_with fail
      refine (shown_p _).mono ?_
      rintro e w1 ⟨rfl, hb⟩
      have HB := Lib.hid hb
      clear hb
      go_wp2_with fail
      go_ret
      exact ⟨rfl, HB.out⟩
    | false =>
      by_cases hl : 30 < b.length
      · go_enter Try.func9, Try.ntmps9
        go_wp2_with fail
        refine K0.out.mono ?_
        rintro e w0 ⟨rfl, rfl⟩
        go_wp2_with fail
        refine K1.out.mono ?_
        rintro e w0 ⟨rfl, rfl⟩
        go_wp2_with fail
        refine (shown_p _).mono ?_
        rintro e w1 ⟨rfl, hb⟩
        have HB := Lib.hid hb
        clear hb
        go_wp2_with fail
        go_ret
        exact ⟨rfl, HB.out⟩
      · by_cases h0 : (checkV p).2 = 0
        · have hok := okP_of h0
          have hb4 : b.length ≤ 4096 := by omega
          have HOK := Lib.hid hok
          have HWO := Lib.hid (fun (h : pairE p q = 0) (hw : withinV p q = true) (hm : matchV p b = true) => with_ok hb4 h hw hm)
          have HLO := Lib.hid (fun (hm : matchV p b = true) => lens_ok hok hm)
          have HLE := Lib.hid (fun n (hn : n ≤ b.length) => some_listed (b := b) (p := p) hn)
          have hlv : lenV p = (leastV p, mostV p, 0) := by unfold lenV; rw [if_pos h0]
          rw [matV_ok hok hb4, seekE_ok hok hb4] at K2
          rw [hlv] at K3
          rw [endV_ok hok hb4, seekE_ok hok hb4] at K6
          have HLl := Lib.hid (show (endsV p b).length ≤ 31 by
            have : (endsTo b p b.length).length ≤ b.length + 1 := endsTo_len
            have e : endsV p b = endsTo b p b.length := rfl
            rw [e]; omega)
          generalize pairE p q = pe at *
          generalize withinV p q = wv at *
          generalize matV q b = mq at *
          generalize seekE q b = sq at *
          generalize endsV p b = l at *
          generalize leastV p = ls at *
          generalize mostV p = ms at *
          clear h0 hok hb4 hlv
          go_enter Try.func9, Try.ntmps9
          go_wp2_with fail
          refine K0.out.mono ?_
          rintro e w0 ⟨rfl, rfl⟩
          go_wp2_with fail
          refine K1.out.mono ?_
          rintro e w0 ⟨rfl, rfl⟩
          go_wp2_with fail
          refine K2.out.mono ?_
          rintro e w1 ⟨rfl, hb1⟩
          have HB1 := Lib.hid hb1
          clear hb1 K0 K1 K2
          go_wp2_with fail
          refine (K3.out _ HB1.out).mono ?_
          rintro e w2 ⟨rfl, hb2⟩
          have HB2 := Lib.hid (next HB1.out hb2)
          clear hb2 HB1 K3
          have hcase : (matchV p b = false) ∨ (matchV p b = true ∧ ls ≤ (b.length : Int) ∧ (b.length : Int) ≤ ms) := by
            cases hm : matchV p b
            · exact .inl rfl
            · exact .inr ⟨rfl, HLO.out hm⟩
          have hcase2 : pe ≠ 0 ∨ (pe = 0 ∧ wv = false) ∨ (pe = 0 ∧ wv = true ∧ matchV p b = false) ∨ (pe = 0 ∧ wv = true ∧ matchV p b = true ∧ sq = 0 ∧ mq = true) := by
            by_cases h1 : pe = 0
            · cases h2 : wv
              · exact .inr (.inl ⟨h1, rfl⟩)
              · cases h3 : matchV p b
                · exact .inr (.inr (.inl ⟨h1, rfl, rfl⟩))
                · obtain ⟨a, c⟩ := HWO.out h1 h2 h3
                  exact .inr (.inr (.inr ⟨h1, rfl, rfl, a, c⟩))
            · exact .inl h1
          generalize hmv : matchV p b = mv at *
          clear HWO HLO hmv
          rcases hcase with hmv | ⟨hmv, hl1, hl2⟩ <;> rcases hcase2 with hpe | ⟨hpe, hwv⟩ | ⟨hpe, hwv, hmv2⟩ | ⟨hpe, hwv, hmv2, hsq, hmq⟩
          all_goals
            subst hmv
            first
              | (exfalso; cases hmv2; done)
              | skip
          all_goals
            try (have tpe : (pe == 0) = false := beq_eq_false_iff_ne.2 hpe; clear hpe)
            try subst hpe
            try subst hwv
            try subst hsq hmq
            try clear hmv2
          all_goals
            go_wp2_with fail
            refine (K4.out _ HB2.out).mono ?_
            rintro e w3 ⟨rfl, hb3⟩
            have HB3 := Lib.hid (next HB2.out hb3)
            clear hb3 HB2 K4
            go_wp2_with fail
            refine (K5.out _ HB3.out).mono ?_
            rintro e w4 ⟨rfl, hb4⟩
            have HB4 := Lib.hid (next HB3.out hb4)
            clear hb4 HB3 K5
            go_wp2_with fail
            refine (K6.out _ HB4.out).mono ?_
            rintro e w5 ⟨v5, rfl, ho5, hb5⟩
            have HB5 := Lib.hid (next HB4.out hb5)
            have HL5 := Lib.hid (Row.of_owns ho5)
            obtain ⟨la, lc, rfl⟩ := Row.form2 HL5.out
            clear hb5 HB4 K6 ho5
            go_wp2_with fail
            go_loopw [15] (fun nv wr => ∃ n : Nat, n ≤ b.length + 1 ∧ nv = .int .i64 (n : Nat) ∧ Below w5.heap.size w5 wr) (fun nv _ => b.length + 1 - (intOf nv).toNat)
            case atStart => exact ⟨0, by omega, rfl, Below.refl _ _⟩
            case round =>
              obtain ⟨n, hn, rfl, hB⟩ := hrel
              have HO := Lib.hid hB
              clear hB
              by_cases hlt : n ≤ b.length
              · have n0 : (0 : Int) ≤ (n : Int) := by omega
                have n1 : (n : Int) ≤ (b.length : Int) := by omega
                have wn1 : IntKind.i64.wrap ((n : Int) + 1) = (n : Int) + 1 := IntWalk.i64_in _ (by omega)
                have HEQ := Lib.hid (HLE.out n hlt)
                obtain ⟨wo, rfl⟩ : ∃ wo : World, wo = wr := ⟨_, rfl⟩
                go_wp2_with fail
                go_loopw [16, 17] (fun sv fv wr => ∃ f : Nat, f ≤ n + 1 ∧ sv = .bool (someTo b p n f) ∧ fv = .int .i64 (f : Nat) ∧ Below w5.heap.size w5 wr) (fun _ fv _ => n + 1 - (intOf fv).toNat)
                case atStart => exact ⟨0, by omega, rfl, rfl, HO.out⟩
                case round =>
                  obtain ⟨f, hf, rfl, rfl, hB⟩ := hrel
                  have HI := Lib.hid hB
                  clear hB
                  have f0 : (0 : Int) ≤ (f : Int) := by omega
                  by_cases hft : f ≤ n
                  · have f1 : (f : Int) ≤ (n : Int) := by omega
                    have wf1 : IntKind.i64.wrap ((f : Int) + 1) = (f : Int) + 1 := IntWalk.i64_in _ (by omega)
                    have HBi := Lib.hid (Row.below HBy.out (next HB5.out HI.out))
                    obtain ⟨a6, c6, hcut, hby6⟩ := bytes_cut HBi.out hcap hft hlt (f : Int) (n : Int) rfl rfl
                    have hdl : ((b.take n).drop f).length = n - f := by rw [List.length_drop, List.length_take, Nat.min_eq_left hlt]
                    have K := Lib.hid (matches_p _ _ p ((b.take n).drop f) wr (Row.below HP.out (next HB5.out HI.out)) (show Bytes wr (.slice a6 ((b.take n).drop f).length c6) ((b.take n).drop f) by rw [hdl]; exact hby6))
                    have hln : ((b.take n).drop f).length ≤ 4096 := by omega
                    rw [matV_ok HOK.out hln, seekE_ok HOK.out hln, hdl] at K
                    have HS := Lib.hid (someTo_succ b p n f)
                    generalize matchV p ((b.take n).drop f) = mvf at *
                    generalize someTo b p n f = z at *
                    clear hdl hln hby6
                    go_wp2_with fail
                    with_reducible refine K.out.mono ?_
                    rintro e w7 ⟨rfl, hb7⟩
                    have HW7 := Lib.hid (HI.out.trans (hb7.mono HI.out.size))
                    clear hb7 K hcut
                    cases z with
                    | true =>
                      go_wp2_with fail
                      exact ⟨⟨f + 1, by omega, by rw [HS.out]; rfl, by go_num, HW7.out⟩, by simp [intOf]; omega⟩
                    | false =>
                      go_wp2_with fail
                      exact ⟨⟨f + 1, by omega, by rw [HS.out]; rfl, by go_num, HW7.out⟩, by simp [intOf]; omega⟩
                  · obtain rfl : f = n + 1 := by omega
                    have f1 : ¬ ((n + 1 : Nat) : Int) ≤ (n : Int) := by omega
                    rw [HEQ.out]
                    obtain ⟨wi, rfl⟩ : ∃ wi : World, wi = wr := ⟨_, rfl⟩
                    have HZ := Lib.hid (rfl : hasTo l n l.length = hasTo l n l.length)
                    go_wp2_with fail
                    go_loopw [20, 21] (fun hv iv wr => ∃ i : Nat, i ≤ l.length ∧ hv = .bool (hasTo l n i) ∧ iv = .int .i64 (i : Nat) ∧ Below w5.heap.size w5 wr) (fun _ iv _ => l.length - (intOf iv).toNat)
                    case atStart => exact ⟨0, by omega, rfl, rfl, HI.out⟩
                    case round =>
                      obtain ⟨i, hi, rfl, rfl, hB⟩ := hrel
                      have HJ := Lib.hid hB
                      clear hB
                      have hl31 := HLl.out
                      have i0 : (0 : Int) ≤ (i : Int) := by omega
                      by_cases hil : i < l.length
                      · obtain ⟨g, o, hla, hg, d0⟩ := Nats.at (Row.below HL5.out HJ.out) hil
                        subst hla
                        have i1 : (i : Int) < (l.length : Int) := by omega
                        have wi1 : IntKind.i64.wrap ((i : Int) + 1) = (i : Int) + 1 := IntWalk.i64_in _ (by omega)
                        have HS := Lib.hid (hasTo_succ (n := n) hil)
                        generalize hasTo l n i = z at *
                        cases z with
                        | true =>
                          go_wp2_with fail
                          exact ⟨⟨i + 1, by omega, by rw [HS.out]; rfl, by go_num, HJ.out⟩, by simp [intOf]; omega⟩
                        | false =>
                          by_cases hln : l[i] = n
                          · have tl : ((l[i] : Int) == (n : Int)) = true := by rw [hln]; exact beq_self_eq_true _
                            have HD := Lib.hid (decide_eq_true hln)
                            clear hln
                            go_wp2_with fail
                            exact ⟨⟨i + 1, by omega, by rw [HS.out, HD.out]; rfl, by go_num, HJ.out⟩, by simp [intOf]; omega⟩
                          · have tl : ((l[i] : Int) == (n : Int)) = false := beq_eq_false_iff_ne.2 (by omega)
                            have HD := Lib.hid (decide_eq_false hln)
                            clear hln
                            go_wp2_with fail
                            exact ⟨⟨i + 1, by omega, by rw [HS.out, HD.out]; rfl, by go_num, HJ.out⟩, by simp [intOf]; omega⟩
                      · obtain rfl : l.length = i := by omega
                        have i1 : ¬ ((l.length : Int) < (l.length : Int)) := by omega
                        generalize hasTo l n l.length = z at *
                        go_wp2_with fail
                        exact ⟨⟨n + 1, by omega, by go_num, HJ.out⟩, by simp [intOf]; omega⟩
              · obtain rfl : n = b.length + 1 := by omega
                have n1 : ¬ ((b.length + 1 : Nat) : Int) ≤ (b.length : Int) := by omega
                have HWW := Lib.hid (next HB5.out HO.out)
                go_wp2_with fail
                refine (shown_p _).mono ?_
                rintro e w9 ⟨rfl, hb9⟩
                have HB9 := Lib.hid (next HWW.out hb9)
                clear hb9
                go_wp2_with fail
                go_ret
                exact ⟨rfl, HB9.out⟩
        · have HE := Lib.hid (show seekE p b = (checkV p).2 by unfold seekE; rw [if_pos h0])
          have HE2 := Lib.hid (show (lenV p).2.2 = (checkV p).2 by unfold lenV; rw [if_neg h0])
          rw [HE.out] at K2
          rw [HE2.out] at K3
          have t1 : ((checkV p).2 != 0) = true := bne_iff_ne.2 h0
          generalize (checkV p).2 = E at *
          generalize (lenV p).1 = E1 at *
          generalize (lenV p).2.1 = E2 at *
          generalize matV p b = mp at *
          clear h0 HE HE2
          go_enter Try.func9, Try.ntmps9
          go_wp2_with fail
          refine K0.out.mono ?_
          rintro e w0 ⟨rfl, rfl⟩
          go_wp2_with fail
          refine K1.out.mono ?_
          rintro e w0 ⟨rfl, rfl⟩
          go_wp2_with fail
          refine K2.out.mono ?_
          rintro e w1 ⟨rfl, hb1⟩
          have HB1 := Lib.hid hb1
          clear hb1
          go_wp2_with fail
          refine (K3.out _ HB1.out).mono ?_
          rintro e w2 ⟨rfl, hb2⟩
          have HB2 := Lib.hid (next HB1.out hb2)
          clear hb2
          go_wp2_with fail
          refine (shown_p _).mono ?_
          rintro e w3 ⟨rfl, hb⟩
          have HB := Lib.hid (next HB2.out hb)
          clear hb
          go_wp2_with fail
          go_ret
          exact ⟨rfl, HB.out⟩

set_option maxRecDepth 100000 in
theorem walk {H : Type} {enc : TypeId × Value → H} {d1 d2 d3 : DataW H} {p1 p2 p3 : List MemPlace} {base1 base2 base3 : Nat} (v u x : Value) (w : World)
    (hk : DataW.Trod enc Try.prog w 0 (fun _ => true) true 22 v d1 p1) (hv : Value.okWide Try.prog w .any base1 22 v)
    (hk2 : DataW.Trod enc Try.prog w 0 (fun _ => true) true 22 u d2 p2) (hv2 : Value.okWide Try.prog w .any base2 22 u)
    (hk3 : DataW.Trod enc Try.prog w 0 (fun _ => true) true 30 x d3 p3) (hv3 : Value.okWide Try.prog w .any base3 30 x) :
    Calls Try.prog 9 #[v, u, x] w fun e w' => e = .returned (.bool true) ∧ Below w.heap.size w w' := by
  obtain ⟨m, hm⟩ := hk
  obtain ⟨m2, hm2⟩ := hk2
  obtain ⟨m3, hm3⟩ := hk3
  obtain ⟨a, len, cap, rfl⟩ := okWide_slice Try.underlying22 hv
  obtain ⟨a2, len2, cap2, rfl⟩ := okWide_slice Try.underlying22 hv2
  obtain ⟨a3, len3, cap3, rfl⟩ := okWide_slice Try.underlying30 hv3
  obtain ⟨l, hl⟩ := pats_of hm
  obtain ⟨l2, hl2⟩ := pats_of hm2
  obtain ⟨b, hb⟩ := bytes_of hm3
  exact walkN _ _ _ l l2 b w hl hl2 hb (cap_of Try.underlying30 hm3)

theorem own : ownKnob Try.prog.godebug = none := by kernel_rfl
theorem laidOut : laidOutB Try.prog = true := by kernel_rfl

set_option maxRecDepth 100000 in
theorem lifted (os : Os) (started : os.Started) (H : Type) (enc : TypeId × Value → H) :
    ReturnsInHanded {} Try.checked os 9 .any (Rows.patternsWithinSpec.pre6 enc Try.prog Try.f9 Rows.patternsWithinRow.domain false) (Rows.patternsWithinSpec.post enc Try.prog Try.f9 false true false false) := by
  refine returnsInHanded_of_change (C := Try.checked) own started (by kernel_rfl) Try.func9
    (ChangeSpec.witness6 (enc := enc) (C := Try.checked) false ⟨#[], #[.slice none 0 0, .slice none 0 0, .slice none 0 0], []⟩ 8 (by kernel_rfl) (by kernel_rfl) (by kernel_rfl) (by kernel_rfl)) ?_
  intro W base args ds gs before hval0 hW hcnd _
  have hval : ∀ (j : Nat) t v, Try.f9.params[j]? = some t → args[j]? = some v → Value.okWide Try.prog W .any base t v := hval0
  have hW' := hW
  obtain ⟨p, q, hA0, hV, rfl, hfz, hnd⟩ := hW
  have hA : DataW.TrodAll enc Try.prog W 0 (fun _ => true) true Try.f9.params.toList args.toList ds p := hA0
  rw [Try.params9] at hA hval
  obtain ⟨v0, vs0, d0, ds0, p0, q0, hargs, rfl, rfl, k0, r0⟩ := trodAll_cons hA
  obtain ⟨v1, vs1, d1, ds1, p1, q1, rfl, rfl, rfl, k1, r1⟩ := trodAll_cons r0
  obtain ⟨v2, vs2, d2, ds2, p2, q2, rfl, rfl, rfl, k2, r2⟩ := trodAll_cons r1
  obtain ⟨rfl, rfl, rfl⟩ := trodAll_nil r2
  obtain rfl : args = #[v0, v1, v2] := by cases args; simp_all
  obtain ⟨rfl, rfl⟩ := trodVars_none hV
  have lt0 : ∀ x ∈ p0, x.block < W.heap.size := by obtain ⟨m, hm⟩ := k0; exact DataW.trod_lt m _ _ _ hm
  have lt1 : ∀ x ∈ p1, x.block < W.heap.size := by obtain ⟨m, hm⟩ := k1; exact DataW.trod_lt m _ _ _ hm
  have lt2 : ∀ x ∈ p2, x.block < W.heap.size := by obtain ⟨m, hm⟩ := k2; exact DataW.trod_lt m _ _ _ hm
  clear hA0 hval0
  refine (walk v0 v1 v2 W k0 (hval 0 22 v0 rfl rfl) k1 (hval 1 22 v1 rfl rfl) k2 (hval 2 30 v2 rfl rfl)).mono fun e W' ⟨he, bel⟩ => ?_
  subst he
  exact ⟨_, rfl, _, _, _, [], _, [], hW', trodAll_mk1 (shut_bool Try.underlying4 _), (trodAll_cons_mk (Below.trod laidOut (by kernel_rfl) (of_decide_eq_true (by kernel_rfl)) k0 bel lt0) (trodAll_cons_mk (Below.trod laidOut (by kernel_rfl) (of_decide_eq_true (by kernel_rfl)) k1 bel lt1) (trodAll_cons_mk (Below.trod laidOut (by kernel_rfl) (of_decide_eq_true (by kernel_rfl)) k2 bel lt2) trodAll_mk0))), rfl, bel.frame _, fun h => by cases h⟩

theorem over : Rows.patternsWithinRow.holds Try.pinned (OpenSpec.ofChange Rows.patternsWithinSpec) :=
  OpenClaim.holds_of_wide 9 Try.f9 rfl rfl rfl rfl rfl rfl rfl ⟨rfl, rfl, rfl, rfl, rfl⟩ rfl rfl rfl rfl rfl (by kernel_rfl) Try.func9 (by kernel_rfl)
    (of_decide_eq_true (by kernel_rfl)) (by unfold Func.isWrapper; first | (rw [if_pos (by decide +kernel)]; kernel_rfl) | (rw [if_neg (by decide +kernel)]; exact ⟨rfl, rfl⟩))
    (fun os started H enc _ => lifted os started H enc)

theorem proved : Rows.PatternsWithinSaid := over
#print axioms proved
end Go.Proofs.Ytllkohjmghoipaa.patternsWithin
