/- OccurChunks: the law returns true: however bytes are cut into parts, the hits that end in them, one after the other, are all hits, and those of the first bytes alone are the hits up to their end. No conditions. -/
import Derived.Test.YtafdaiidnphbaaaMg8
import Derived.Test.YtafdaiidnphbaaaMg7
import Derived.Test.YtafdaiidnphbaaaMg4
import Derived.Test.YtafdaiidnphbaaaMg6
namespace Go.Proofs.Ytafdaiidnphbaaa.occurChunks
open Go.ChangeShapes Go.WideShapes Go.ChangeAt Go.RowKit

set_option maxRecDepth 100000 in
set_option maxHeartbeats 16000000 in
theorem walkN (v : Value) (ua : Option Addr) (ucap : Nat) (cv : Value) (L : List (List El)) (b cs : List UInt8) (w : World) (h : Sets w v L) (hb : Bytes w (.slice ua b.length ucap) b) (hcap : b.length ≤ ucap) (hc : Bytes w cv cs) :
    Calls Try.prog 6 #[v, .slice ua b.length ucap, cv] w fun e w' => e = .returned (.bool true) ∧ Below w.heap.size w w' := by
  have HS := Lib.hid h
  have HBY := Lib.hid hb
  have HCU := Lib.hid hc
  have K0 := Lib.hid (far_p v _ L b w h hb)
  have K1 := Lib.hid (all_p v _ L b w h hb)
  obtain ⟨a, cap, rfl⟩ := h.form
  obtain ⟨a3, cap3, rfl⟩ := Row.form2 hc
  clear h hb hc
  go_enter Try.func6, Try.ntmps6
  go_wp2_with fail
  refine K0.out.mono ?_
  rintro e w0 ⟨⟨c, rfl⟩, rfl⟩
  cases c with
  | true =>
    go_wp2_with fail
    refine (awake_p _).mono ?_
    rintro e w9 ⟨rfl, hb⟩
    have HB9 := Lib.hid (hb)
    clear hb
    go_wp2_with fail
    go_ret
    exact ⟨rfl, HB9.out⟩
  | false =>
    by_cases hl : 100 < cs.length
    · have hl2 : (100 : Int) < (cs.length : Int) := by omega
      go_wp2_with fail
      refine (awake_p _).mono ?_
      rintro e w9 ⟨rfl, hb⟩
      have HB9 := Lib.hid (hb)
      clear hb
      go_wp2_with fail
      go_ret
      exact ⟨rfl, HB9.out⟩
    · have hl2 : ¬ (100 : Int) < (cs.length : Int) := by omega
      go_wp2_with fail
      refine K1.out.mono ?_
      rintro e w1 ⟨v1, rfl, ho, hb⟩
      have HB1 := Lib.hid hb
      have HV1 := Lib.hid (Row.of_owns ho)
      obtain ⟨a1, cap1, rfl⟩ := Row.form2 HV1.out
      clear hb ho
      by_cases h0 : allE L b = 0
      · have HE := Lib.hid h0
        have hb4 := (okS_of_all h0).2
        rw [h0]
        clear h0
        go_wp2_with fail
        go_loopw [9, 10, 11] (fun gv fv iv wr => ∃ (i F : Nat), i ≤ cs.length + 1 ∧ F ≤ b.length ∧ (i = cs.length + 1 → F = b.length) ∧ fv = .int .i64 (F : Int) ∧ iv = .int .i64 (i : Int) ∧ wr.ownsRow w1.heap.size 38 2 gv (hitsTo L b F).length (hcells (hitsTo L b F)) ∧ Below w1.heap.size w1 wr) (fun _ _ iv _ => cs.length + 1 - (intOf iv).toNat)
        case atStart => exact ⟨0, 0, by omega, by omega, by omega, rfl, rfl, by rw [hitsTo_zero]; exact World.ownsRow_nil _ _ _ _, Below.refl _ _⟩
        case round =>
          obtain ⟨i, F, hi, hF, hend, rfl, rfl, hown, hB⟩ := hrel
          obtain ⟨oa, oc, rfl⟩ := Row.form2 (Row.of_owns hown)
          by_cases hlt : i ≤ cs.length
          · have HO := Lib.hid hown
            have HB := Lib.hid hB
            have i1 : (i : Int) ≤ (cs.length : Int) := by omega
            have wi1 : IntKind.i64.wrap ((i : Int) + 1) = (i : Int) + 1 := IntWalk.i64_in _ (by omega)
            clear hown hB hend
            by_cases hlt2 : i < cs.length
            · obtain ⟨g, o, hga, hg, c0⟩ := Bytes.at (Row.below HCU.out (next HB1.out HB.out)) hlt2
              subst hga
              have n0 : (0 : Int) ≤ (i : Int) := by omega
              have n1 : (i : Int) < (cs.length : Int) := by omega
              generalize cs[i] = x at *
              obtain ⟨m, hm⟩ : ∃ m : Nat, m = x.toNat % 9 := ⟨_, rfl⟩
              have t1 : (x.toNat : Int).tmod 9 = (m : Int) := by rw [Int.tmod_eq_emod_of_nonneg (by omega)]; omega
              have m9 : m < 9 := by omega
              have wm8 : IntKind.u8.wrap (m : Int) = (m : Int) := IntWalk.u8_in _ (by omega)
              have wm : IntKind.i64.wrap (m : Int) = (m : Int) := IntWalk.i64_in _ (by omega)
              have wf : IntKind.i64.wrap ((F : Int) + (m : Int)) = (F : Int) + (m : Int) := IntWalk.i64_in _ (by omega)
              obtain ⟨T, hT⟩ : ∃ T : Nat, T = min b.length (F + m) := ⟨_, rfl⟩
              have tT : min (b.length : Int) ((F : Int) + (m : Int)) = (T : Int) := by omega
              have hFT : F ≤ T := by omega
              have hTb : T ≤ b.length := by omega
              clear hT hm
              have HW := Lib.hid (next HB1.out HB.out)
              have K2 := Lib.hid (within_p _ _ L b (F : Int) (T : Int) wr (HS.out.below HW.out) (Row.below HBY.out HW.out))
              rw [withE_ok HE.out (by omega) (by omega) (by omega), withL_ok HE.out (by omega) (by omega) (by omega)] at K2
              obtain ⟨pa, pc, hcut, hcb⟩ := bytes_head HBY.out hcap hTb (T : Int) rfl
              have HCB := Lib.hid hcb
              clear hcb
              go_wp2_with fail
              with_reducible refine K2.out.mono ?_
              rintro e w2 ⟨v2, rfl, ho, hb⟩
              have HB2 := Lib.hid hb
              have HV2 := Lib.hid (Row.of_owns ho)
              have K3 := Lib.hid (all_p _ _ L (b.take T) w2 (HS.out.below (next HW.out hb)) (Row.below HCB.out (next HW.out hb)))
              rw [all_take HE.out hTb, allE_take HE.out] at K3
              clear ho hb K2
              go_wp2_with fail
              with_reducible refine K3.out.mono ?_
              rintro e w3 ⟨v3, rfl, ho, hb⟩
              have HB3 := Lib.hid (next HB2.out hb)
              have hs3 : w1.heap.size ≤ w3.heap.size := Nat.le_trans HB.out.size HB3.out.size
              obtain ⟨ga, gc, w4, happ, hown4, hgr4, hbl4⟩ := app_h (ownsRow_below HO.out HB3.out) (Row.below HV2.out hb) (by have := hitsTo_len HE.out F; have := Nat.le_trans (List.length_filter_le (inPart (F : Int) (T : Int)) _) (all_len HE.out); omega) hs3
              have hne : v3.ownBlock = none ∨ v3.ownBlock ≠ (Value.slice oa (hitsTo L b F).length oc).ownBlock := by
                cases hq : v3.ownBlock with
                | none => exact .inl rfl
                | some q =>
                  refine .inr fun e => ?_
                  have h1 := (ho.lt q hq).1
                  have h2 := (HO.out.lt q e.symm).2
                  have := HB2.out.size
                  omega
              have HV3 := Lib.hid (Row.of_owns (ho.kept hgr4 hne))
              rw [hitsTo_join L b hFT] at happ hown4
              have HA := Lib.hid happ
              have HO4 := Lib.hid hown4
              have HB4 := Lib.hid ((HB.out.trans (HB3.out.mono HB.out.size)).trans hbl4)
              have S4 := Lib.hid (same_r _ v3 _ _ w4 (Row.of_owns HO4.out) HV3.out)
              rw [decide_eq_true (rfl : hitsTo L b T = hitsTo L b T)] at S4
              clear ho hb K3 happ hown4 hgr4 hbl4 hne hcut
              go_wp2_with (at_builtin; refine wpList_append_run rfl rfl rfl rfl HA.out ?_)
              with_reducible refine S4.out.mono ?_
              rintro e w5 ⟨rfl, hb⟩
              have HO5 := Lib.hid (ownsRow_below HO4.out hb)
              have HB5 := Lib.hid (HB4.out.trans (hb.mono HB4.out.size))
              clear hb S4
              go_wp2_with fail
              exact ⟨⟨i + 1, T, by omega, hTb, by omega, rfl, by go_num, HO5.out, HB5.out⟩, by simp [intOf] <;> omega⟩
            · obtain rfl : i = cs.length := by omega
              have n1 : ¬ (cs.length : Int) < (cs.length : Int) := by omega
              have hFT : F ≤ b.length := hF
              have hTb : b.length ≤ b.length := Nat.le_refl _
              have HW := Lib.hid (next HB1.out HB.out)
              have K2 := Lib.hid (within_p _ _ L b (F : Int) (b.length : Int) wr (HS.out.below HW.out) (Row.below HBY.out HW.out))
              rw [withE_ok HE.out (by omega) (by omega) (by omega), withL_ok HE.out (by omega) (by omega) (by omega)] at K2
              obtain ⟨pa, pc, hcut, hcb⟩ := bytes_head HBY.out hcap hTb (b.length : Int) rfl
              have HCB := Lib.hid hcb
              clear hcb
              go_wp2_with fail
              with_reducible refine K2.out.mono ?_
              rintro e w2 ⟨v2, rfl, ho, hb⟩
              have HB2 := Lib.hid hb
              have HV2 := Lib.hid (Row.of_owns ho)
              have K3 := Lib.hid (all_p _ _ L (b.take b.length) w2 (HS.out.below (next HW.out hb)) (Row.below HCB.out (next HW.out hb)))
              rw [all_take HE.out hTb, allE_take HE.out] at K3
              clear ho hb K2
              go_wp2_with fail
              with_reducible refine K3.out.mono ?_
              rintro e w3 ⟨v3, rfl, ho, hb⟩
              have HB3 := Lib.hid (next HB2.out hb)
              have hs3 : w1.heap.size ≤ w3.heap.size := Nat.le_trans HB.out.size HB3.out.size
              obtain ⟨ga, gc, w4, happ, hown4, hgr4, hbl4⟩ := app_h (ownsRow_below HO.out HB3.out) (Row.below HV2.out hb) (by have := hitsTo_len HE.out F; have := Nat.le_trans (List.length_filter_le (inPart (F : Int) (b.length : Int)) _) (all_len HE.out); omega) hs3
              have hne : v3.ownBlock = none ∨ v3.ownBlock ≠ (Value.slice oa (hitsTo L b F).length oc).ownBlock := by
                cases hq : v3.ownBlock with
                | none => exact .inl rfl
                | some q =>
                  refine .inr fun e => ?_
                  have h1 := (ho.lt q hq).1
                  have h2 := (HO.out.lt q e.symm).2
                  have := HB2.out.size
                  omega
              have HV3 := Lib.hid (Row.of_owns (ho.kept hgr4 hne))
              rw [hitsTo_join L b hFT] at happ hown4
              have HA := Lib.hid happ
              have HO4 := Lib.hid hown4
              have HB4 := Lib.hid ((HB.out.trans (HB3.out.mono HB.out.size)).trans hbl4)
              have S4 := Lib.hid (same_r _ v3 _ _ w4 (Row.of_owns HO4.out) HV3.out)
              rw [decide_eq_true (rfl : hitsTo L b b.length = hitsTo L b b.length)] at S4
              clear ho hb K3 happ hown4 hgr4 hbl4 hne hcut
              go_wp2_with (at_builtin; refine wpList_append_run rfl rfl rfl rfl HA.out ?_)
              with_reducible refine S4.out.mono ?_
              rintro e w5 ⟨rfl, hb⟩
              have HO5 := Lib.hid (ownsRow_below HO4.out hb)
              have HB5 := Lib.hid (HB4.out.trans (hb.mono HB4.out.size))
              clear hb S4
              go_wp2_with fail
              exact ⟨⟨cs.length + 1, b.length, by omega, hTb, by omega, rfl, by go_num, HO5.out, HB5.out⟩, by simp [intOf] <;> omega⟩
          · obtain rfl : i = cs.length + 1 := by omega
            obtain rfl : F = b.length := hend rfl
            have i1 : ¬ (((cs.length + 1 : Nat) : Int)) ≤ (cs.length : Int) := by omega
            rw [hitsTo_all HE.out] at hown
            have HO := Lib.hid (Row.of_owns hown)
            have HB := Lib.hid hB
            have K5 := Lib.hid (sorted_p _ (allV L b) wr (Row.below HV1.out hB))
            rw [(all_okH HE.out).sorted] at K5
            rw [hitsTo_all HE.out]
            clear hown hB hend hlt
            go_wp2_with fail
            refine K5.out.mono ?_
            rintro e w5 ⟨rfl, hb⟩
            have HB5 := Lib.hid (HB.out.trans (hb.mono HB.out.size))
            have S5 := Lib.hid (same_r _ _ (allV L b) (allV L b) w5 (Row.below HO.out hb) (Row.below HV1.out HB5.out))
            rw [decide_eq_true (rfl : allV L b = allV L b)] at S5
            clear hb K5
            go_wp2_with fail
            refine S5.out.mono ?_
            rintro e w6 ⟨rfl, hb⟩
            have HB6 := Lib.hid (HB5.out.trans (hb.mono HB5.out.size))
            clear hb S5
            go_wp2_with fail
            refine (awake_p _).mono ?_
            rintro e w9 ⟨rfl, hb⟩
            have HB9 := Lib.hid (next (next HB1.out HB6.out) hb)
            clear hb
            go_wp2_with fail
            go_ret
            exact ⟨rfl, HB9.out⟩
      · have hv : allV L b = [] := by unfold allV; rw [if_neg h0]
        have t1 : (allE L b != 0) = true := bne_iff_ne.2 h0
        rw [hv]
        generalize allE L b = E at *
        clear h0
        go_wp2_with fail
        refine (awake_p _).mono ?_
        rintro e w9 ⟨rfl, hb⟩
        have HB9 := Lib.hid (next HB1.out hb)
        clear hb
        go_wp2_with fail
        go_ret
        exact ⟨rfl, HB9.out⟩

set_option maxRecDepth 100000 in
theorem walk {H : Type} {enc : TypeId × Value → H} {d d2 d3 : DataW H} {p p2 p3 : List MemPlace} {base base2 base3 : Nat} (v u x : Value) (w : World)
    (hk : DataW.Trod enc Try.prog w 0 (fun _ => true) true 25 v d p) (hv : Value.okWide Try.prog w .any base 25 v)
    (hk2 : DataW.Trod enc Try.prog w 0 (fun _ => true) true 23 u d2 p2) (hv2 : Value.okWide Try.prog w .any base2 23 u)
    (hk3 : DataW.Trod enc Try.prog w 0 (fun _ => true) true 23 x d3 p3) (hv3 : Value.okWide Try.prog w .any base3 23 x) :
    Calls Try.prog 6 #[v, u, x] w fun e w' => e = .returned (.bool true) ∧ Below w.heap.size w w' := by
  obtain ⟨m, hm⟩ := hk
  obtain ⟨m2, hm2⟩ := hk2
  obtain ⟨m3, hm3⟩ := hk3
  obtain ⟨a, len, cap, rfl⟩ := okWide_slice Try.underlying25 hv
  obtain ⟨a2, len2, cap2, rfl⟩ := okWide_slice Try.underlying23 hv2
  obtain ⟨a3, len3, cap3, rfl⟩ := okWide_slice Try.underlying23 hv3
  obtain ⟨l, hl⟩ := sets_of hm
  obtain ⟨b, hb⟩ := bytes_of hm2
  obtain ⟨c, hc⟩ := bytes_of hm3
  have hc2 := (cap_of Try.underlying23 hm2).le
  obtain ⟨_, _, e2⟩ := Row.form2 hb
  cases e2
  exact walkN _ _ _ _ l b c w hl hb hc2 hc

theorem own : ownKnob Try.prog.godebug = none := by kernel_rfl
theorem laidOut : laidOutB Try.prog = true := by kernel_rfl

set_option maxRecDepth 100000 in
theorem lifted (os : Os) (started : os.Started) (H : Type) (enc : TypeId × Value → H) :
    ReturnsInHanded {} Try.checked os 6 .any (Rows.occurChunksSpec.pre6 enc Try.prog Try.f6 Rows.occurChunksRow.domain false) (Rows.occurChunksSpec.post enc Try.prog Try.f6 false true false false) := by
  refine returnsInHanded_of_change (C := Try.checked) own started (by kernel_rfl) Try.func6
    (ChangeSpec.witness6 (enc := enc) (C := Try.checked) false ⟨#[], #[.slice none 0 0, .slice none 0 0, .slice none 0 0], []⟩ 8 (by kernel_rfl) (by kernel_rfl) (by kernel_rfl) (by kernel_rfl)) ?_
  intro W base args ds gs before hval0 hW hcnd _
  have hval : ∀ (j : Nat) t v, Try.f6.params[j]? = some t → args[j]? = some v → Value.okWide Try.prog W .any base t v := hval0
  have hW' := hW
  obtain ⟨p, q, hA0, hV, rfl, hfz, hnd⟩ := hW
  have hA : DataW.TrodAll enc Try.prog W 0 (fun _ => true) true Try.f6.params.toList args.toList ds p := hA0
  rw [Try.params6] at hA hval
  obtain ⟨v0, vs0, d0, ds0, p0, q0, hargs, rfl, rfl, k0, r0⟩ := trodAll_cons hA
  obtain ⟨v1, vs1, d1, ds1, p1, q1, rfl, rfl, rfl, k1, r1⟩ := trodAll_cons r0
  obtain ⟨v2, vs2, d2, ds2, p2, q2, rfl, rfl, rfl, k2, r2⟩ := trodAll_cons r1
  obtain ⟨rfl, rfl, rfl⟩ := trodAll_nil r2
  obtain rfl : args = #[v0, v1, v2] := by cases args; simp_all
  obtain ⟨rfl, rfl⟩ := trodVars_none hV
  have lt0 : ∀ x ∈ p0, x.block < W.heap.size := by obtain ⟨m, hm⟩ := k0; exact DataW.trod_lt m _ _ _ hm
  have lt1 : ∀ x ∈ p1, x.block < W.heap.size := by obtain ⟨m, hm⟩ := k1; exact DataW.trod_lt m _ _ _ hm
  have lt2 : ∀ x ∈ p2, x.block < W.heap.size := by obtain ⟨m, hm⟩ := k2; exact DataW.trod_lt m _ _ _ hm
  clear hA0 hval0
  refine (walk v0 v1 v2 W k0 (hval 0 25 v0 rfl rfl) k1 (hval 1 23 v1 rfl rfl) k2 (hval 2 23 v2 rfl rfl)).mono fun e W' ⟨he, bel⟩ => ?_
  subst he
  exact ⟨_, rfl, _, _, _, [], _, [], hW', trodAll_mk1 (shut_bool Try.underlying4 _), (trodAll_cons_mk (Below.trod laidOut (by kernel_rfl) (of_decide_eq_true (by kernel_rfl)) k0 bel lt0) (trodAll_cons_mk (Below.trod laidOut (by kernel_rfl) (of_decide_eq_true (by kernel_rfl)) k1 bel lt1) (trodAll_cons_mk (Below.trod laidOut (by kernel_rfl) (of_decide_eq_true (by kernel_rfl)) k2 bel lt2) trodAll_mk0))), rfl, bel.frame _, fun h => by cases h⟩

theorem over : Rows.occurChunksRow.holds Try.pinned (OpenSpec.ofChange Rows.occurChunksSpec) :=
  OpenClaim.holds_of_wide 6 Try.f6 rfl rfl rfl rfl rfl rfl rfl ⟨rfl, rfl, rfl, rfl, rfl⟩ rfl rfl rfl rfl rfl (by kernel_rfl) Try.func6 (by kernel_rfl)
    (of_decide_eq_true (by kernel_rfl)) (by unfold Func.isWrapper; first | (rw [if_pos (by decide +kernel)]; kernel_rfl) | (rw [if_neg (by decide +kernel)]; exact ⟨rfl, rfl⟩))
    (fun os started H enc _ => lifted os started H enc)

theorem proved : Rows.OccurChunksSaid := over
#print axioms proved
end Go.Proofs.Ytafdaiidnphbaaa.occurChunks
