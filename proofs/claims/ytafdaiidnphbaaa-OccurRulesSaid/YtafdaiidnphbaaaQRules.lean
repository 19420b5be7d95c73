/- OccurRules: the law returns true: all hits of a set are the hits of each rule alone, with its index, merged, and Counts says how many. No conditions. -/
import Derived.Test.YtafdaiidnphbaaaMg8
import Derived.Test.YtafdaiidnphbaaaMg5
import Derived.Test.YtafdaiidnphbaaaMg6
namespace Go.Proofs.Ytafdaiidnphbaaa.occurRules
open Go.ChangeShapes Go.WideShapes Go.ChangeAt Go.RowKit

set_option maxRecDepth 100000 in
set_option maxHeartbeats 16000000 in
theorem walkN (a : Option Addr) (cap : Nat) (u : Value) (L : List (List El)) (b : List UInt8) (w : World) (h : Sets w (.slice a L.length cap) L) (hcap : L.length ≤ cap) (hb : Bytes w u b) :
    Calls Try.prog 9 #[.slice a L.length cap, u] w fun e w' => e = .returned (.bool true) ∧ Below w.heap.size w w' := by
  have HS := Lib.hid h
  have HBY := Lib.hid hb
  have K0 := Lib.hid (far_p _ u L b w h hb)
  have K1 := Lib.hid (all_p _ u L b w h hb)
  obtain ⟨ua, ucap, rfl⟩ := Row.form2 hb
  clear h hb
  go_enter Try.func9, Try.ntmps9
  go_wp2_with fail
  refine K0.out.mono ?_
  rintro e wx ⟨⟨c, rfl⟩, rfl⟩
  cases c with
  | true =>
    go_wp2_with fail
    refine (awake_p _).mono ?_
    rintro e w9 ⟨rfl, hb⟩
    have HB9 := Lib.hid hb
    clear hb
    go_wp2_with fail
    go_ret
    exact ⟨rfl, HB9.out⟩
  | false =>
    go_wp2_with fail
    refine K1.out.mono ?_
    rintro e w1 ⟨v1, rfl, ho, hb⟩
    have HB1 := Lib.hid hb
    have HV1 := Lib.hid (Row.of_owns ho)
    obtain ⟨a1, cap1, rfl⟩ := Row.form2 HV1.out
    have K2 := Lib.hid (counts_p _ _ L b w1 (HS.out.below hb) (Row.below HBY.out hb))
    clear ho hb K1
    go_wp2_with fail
    refine K2.out.mono ?_
    rintro e w2 ⟨v2, rfl, ho, hb⟩
    have HB2 := Lib.hid (next HB1.out hb)
    have HU1 := Lib.hid (Row.below HV1.out hb)
    clear hb K2
    by_cases h0 : allE L b = 0
    · have HE := Lib.hid h0
      have HOK := Lib.hid (okS_of_all h0).1
      have hL := HOK.out.le
      have HV2 := Lib.hid (show Row w2 1 v2 L.length ((countsV L b).map (Value.int .i64)) by rw [← countsV_len h0]; exact Row.of_owns ho)
      obtain ⟨a2, cap2, rfl⟩ := Row.form2 HV2.out
      rw [h0]
      clear h0 ho
      go_wp2_with fail
      go_loopw [9, 10] (fun gv iv wr => ∃ i : Nat, i ≤ L.length ∧ iv = .int .i64 (i : Int) ∧ Hits wr gv (ruleTo L b i) ∧ Below w2.heap.size w2 wr) (fun _ iv _ => L.length - (intOf iv).toNat)
      case atStart => exact ⟨0, by omega, rfl, by rw [ruleTo_zero HE.out]; exact Row.of_owns (base := 0) (e := 38) (World.ownsRow_nil _ _ _ _), Below.refl _ _⟩
      case round =>
        obtain ⟨i, hi, rfl, hgot, hB⟩ := hrel
        obtain ⟨ga, gc, rfl⟩ := Row.form2 hgot
        have HG := Lib.hid hgot
        have HB := Lib.hid hB
        clear hgot hB
        by_cases hlt : i < L.length
        · have i1 : (0 : Int) ≤ (i : Int) := by omega
          have i2 : (i : Int) < (L.length : Int) := by omega
          have wi1 : IntKind.i64.wrap ((i : Int) + 1) = (i : Int) + 1 := IntWalk.i64_in _ (by omega)
          have hcn : i < (countsV L b).length := by rw [countsV_len HE.out]; exact hlt
          obtain ⟨pa, pc, hcut, hcs⟩ := sets_cut HS.out hcap hlt ((i : Int) + 1) (by omega)
          obtain ⟨cg, co, e2, hcg, hcc⟩ := nums_at (Row.below HV2.out HB.out) hlt hcn
          subst e2
          rw [countsV_at HE.out hlt hcn] at hcc
          have HW := Lib.hid (next HB2.out HB.out)
          have K3 := Lib.hid (all_p _ _ [L[i]] b wr (hcs.below HW.out) (Row.below HBY.out HW.out))
          rw [allE_one HE.out hlt] at K3
          have HM := Lib.hid (rule_merge HE.out hlt)
          have hll : (allV [L[i]] b).length ≤ 70000 := all_len (allE_one HE.out hlt)
          generalize allV [L[i]] b = l at *
          have HCC := Lib.hid hcc
          clear hcs hcn hcc
          go_wp2_with fail
          with_reducible refine K3.out.mono ?_
          rintro e w3 ⟨v3, rfl, ho, hb⟩
          have HB3 := Lib.hid (HB.out.trans (hb.mono HB.out.size))
          have HG3 := Lib.hid (Row.below HG.out hb)
          have hcc3 := (hb.cell (p := ⟨cg, co + i, none⟩) hcg).trans HCC.out
          have HV3 := Lib.hid (Row.of_owns ho)
          obtain ⟨a3, c3, rfl⟩ := Row.form2 HV3.out
          have al : Below w3.heap.size w3 (w3.alloc (.cells #[] 38)) := (Below.refl _ _).alloc (Nat.le_refl _) _
          have o0 : (w3.alloc (.cells #[] 38)).ownsRow w3.heap.size 38 2 (.slice (some ⟨w3.heap.size, 0, none⟩) 0 0) ([] : List Hit).length (hcells []) := World.ownsRow_lit w3 #[] 0 (Nat.le_refl _) (by decide) rfl
          obtain ⟨aa, cc, w4, hra, hoa, _, hba⟩ := app_h o0 (Row.below HV3.out al) (by simp; omega) al.size
          rw [List.nil_append] at hra hoa
          have HRA := Lib.hid hra
          have HOA := Lib.hid hoa
          have HB4 := Lib.hid (al.trans hba)
          clear ho hb K3 hra hoa hba o0 al hcut
          go_wp2_with (at_builtin; refine wpList_append_run rfl rfl rfl rfl HRA.out ?_)
          clear hcc3
          go_loopw [14] (fun kv wk => ∃ k : Nat, k ≤ l.length ∧ kv = .int .i64 (k : Int) ∧ wk.ownsRow w3.heap.size 38 2 (.slice aa l.length cc) l.length (hcells (markTo i l k)) ∧ Below w3.heap.size w3 wk) (fun kv _ => l.length - (intOf kv).toNat)
          case atStart => exact ⟨0, by omega, rfl, by rw [markTo_zero]; exact HOA.out, HB4.out⟩
          case round =>
            obtain ⟨k, hk, rfl, hown, hB5⟩ := hrel
            by_cases hkl : k < l.length
            · obtain ⟨g, cp, e3, hbg, hgl⟩ := World.ownsRow.form hown (show 0 < l.length by omega)
              cases e3
              have hr : Hits wr (.slice (some ⟨g, 0, none⟩) (markTo i l k).length cc) (markTo i l k) := Row.of_owns (by rw [markTo_len]; exact hown)
              have d := Hits.ats hr (i := k) (by rw [markTo_len]; exact hkl)
              rw [markTo_at i l k hkl, Nat.zero_add] at d
              obtain ⟨d0, d1⟩ := d
              have j1 : (0 : Int) ≤ (k : Int) := by omega
              have j2 : (k : Int) < (l.length : Int) := by omega
              have wk1 : IntKind.i64.wrap ((k : Int) + 1) = (k : Int) + 1 := IntWalk.i64_in _ (by omega)
              have HSET := Lib.hid (owns_set hown (k * 2 + 1) (.int .i64 (i : Int)) (by omega))
              rw [hcells_set1 (markTo i l k) k (by rw [markTo_len]; exact hkl), markTo_at i l k hkl] at HSET
              have HMV := Lib.hid (markTo_set i l k hkl)
              unfold setR at HMV
              have fr := owns_free hown (k * 2 + 1)
              have HB6 := Lib.hid (hB5.setCell (p := ⟨g, k * 2 + 1, none⟩) hbg (.int .i64 (i : Int)))
              clear hr hown hB5
              go_wp2_with fail
              exact ⟨⟨k + 1, by omega, by go_num, by rw [← HMV.out]; exact HSET.out, HB6.out⟩, by simp [intOf] <;> omega⟩
            · obtain rfl : k = l.length := by omega
              have hO5 : Hits wr (.slice aa l.length cc) (l.map (setR i)) := by
                have := Row.of_owns hown
                rw [markTo_end] at this
                unfold Hits
                rw [List.length_map]
                exact this
              have K5 := Lib.hid (merge_p _ _ (ruleTo L b i) (l.map (setR i)) _ (Row.below HG3.out hB5) hO5)
              rw [HM.out.1, HM.out.2] at K5
              have HB5 := Lib.hid (HB3.out.trans (hB5.mono HB3.out.size))
              have j2 : ¬ (l.length : Int) < (l.length : Int) := by omega
              clear hO5 hown hB5
              go_wp2_with fail
              with_reducible refine K5.out.mono ?_
              rintro e w6 ⟨v6, rfl, ho, hb⟩
              have HB6 := Lib.hid (HB5.out.trans (hb.mono HB5.out.size))
              have HG6 := Lib.hid (Row.of_owns ho)
              clear ho hb K5
              go_wp2_with fail
              exact ⟨⟨i + 1, by omega, by go_num, HG6.out, HB6.out⟩, by simp [intOf] <;> omega⟩
        · obtain rfl : i = L.length := by omega
          have i2 : ¬ (L.length : Int) < (L.length : Int) := by omega
          rw [ruleTo_all HE.out] at HG ⊢
          have S5 := Lib.hid (same_r _ _ (allV L b) (allV L b) wr HG.out (Row.below HU1.out HB.out))
          rw [decide_eq_true (rfl : allV L b = allV L b)] at S5
          go_wp2_with fail
          with_reducible refine S5.out.mono ?_
          rintro e w6 ⟨rfl, hb⟩
          have HB6 := Lib.hid (HB.out.trans (hb.mono HB.out.size))
          clear hb S5
          go_wp2_with fail
          refine (awake_p _).mono ?_
          rintro e w9 ⟨rfl, hb⟩
          have HB9 := Lib.hid (next (next HB2.out HB6.out) hb)
          clear hb
          go_wp2_with fail
          go_ret
          exact ⟨rfl, HB9.out⟩
    · have hv : countsV L b = [] := by unfold countsV; rw [if_neg h0]
      rw [hv] at ho
      obtain ⟨a2, cap2, e2⟩ := Row.form2 (Row.of_owns ho)
      rw [List.length_nil] at e2
      subst e2
      have t1 : (allE L b != 0) = true := bne_iff_ne.2 h0
      generalize allE L b = E at *
      clear h0 hv ho
      go_wp2_with fail
      refine (awake_p _).mono ?_
      rintro e w9 ⟨rfl, hb⟩
      have HB9 := Lib.hid (next HB2.out hb)
      clear hb
      go_wp2_with fail
      go_ret
      exact ⟨rfl, HB9.out⟩

set_option maxRecDepth 100000 in
theorem walk {H : Type} {enc : TypeId × Value → H} {d d2 : DataW H} {p p2 : List MemPlace} {base base2 : Nat} (v u : Value) (w : World)
    (hk : DataW.Trod enc Try.prog w 0 (fun _ => true) true 25 v d p) (hv : Value.okWide Try.prog w .any base 25 v)
    (hk2 : DataW.Trod enc Try.prog w 0 (fun _ => true) true 23 u d2 p2) (hv2 : Value.okWide Try.prog w .any base2 23 u) :
    Calls Try.prog 9 #[v, u] w fun e w' => e = .returned (.bool true) ∧ Below w.heap.size w w' := by
  obtain ⟨m, hm⟩ := hk
  obtain ⟨m2, hm2⟩ := hk2
  obtain ⟨a, len, cap, rfl⟩ := okWide_slice Try.underlying25 hv
  obtain ⟨a2, len2, cap2, rfl⟩ := okWide_slice Try.underlying23 hv2
  obtain ⟨l, hl⟩ := sets_of hm
  obtain ⟨b, hb⟩ := bytes_of hm2
  have hc := (cap_of Try.underlying25 hm).le
  obtain ⟨_, _, e⟩ := hl.form
  cases e
  exact walkN _ _ _ l b w hl hc hb

theorem own : ownKnob Try.prog.godebug = none := by kernel_rfl
theorem laidOut : laidOutB Try.prog = true := by kernel_rfl

set_option maxRecDepth 100000 in
theorem lifted (os : Os) (started : os.Started) (H : Type) (enc : TypeId × Value → H) :
    ReturnsInHanded {} Try.checked os 9 .any (Rows.occurRulesSpec.pre6 enc Try.prog Try.f9 Rows.occurRulesRow.domain false) (Rows.occurRulesSpec.post enc Try.prog Try.f9 false true false false) := by
  refine returnsInHanded_of_change (C := Try.checked) own started (by kernel_rfl) Try.func9
    (ChangeSpec.witness6 (enc := enc) (C := Try.checked) false ⟨#[], #[.slice none 0 0, .slice none 0 0], []⟩ 8 (by kernel_rfl) (by kernel_rfl) (by kernel_rfl) (by kernel_rfl)) ?_
  intro W base args ds gs before hval0 hW hcnd _
  have hval : ∀ (j : Nat) t v, Try.f9.params[j]? = some t → args[j]? = some v → Value.okWide Try.prog W .any base t v := hval0
  have hW' := hW
  obtain ⟨p, q, hA0, hV, rfl, hfz, hnd⟩ := hW
  have hA : DataW.TrodAll enc Try.prog W 0 (fun _ => true) true Try.f9.params.toList args.toList ds p := hA0
  rw [Try.params9] at hA hval
  obtain ⟨v0, vs0, d0, ds0, p0, q0, hargs, rfl, rfl, k0, r0⟩ := trodAll_cons hA
  obtain ⟨v1, vs1, d1, ds1, p1, q1, rfl, rfl, rfl, k1, r1⟩ := trodAll_cons r0
  obtain ⟨rfl, rfl, rfl⟩ := trodAll_nil r1
  obtain rfl : args = #[v0, v1] := by cases args; simp_all
  obtain ⟨rfl, rfl⟩ := trodVars_none hV
  have lt0 : ∀ x ∈ p0, x.block < W.heap.size := by obtain ⟨m, hm⟩ := k0; exact DataW.trod_lt m _ _ _ hm
  have lt1 : ∀ x ∈ p1, x.block < W.heap.size := by obtain ⟨m, hm⟩ := k1; exact DataW.trod_lt m _ _ _ hm
  clear hA0 hval0
  refine (walk v0 v1 W k0 (hval 0 25 v0 rfl rfl) k1 (hval 1 23 v1 rfl rfl)).mono fun e W' ⟨he, bel⟩ => ?_
  subst he
  exact ⟨_, rfl, _, _, _, [], _, [], hW', trodAll_mk1 (shut_bool Try.underlying4 _), (trodAll_cons_mk (Below.trod laidOut (by kernel_rfl) (of_decide_eq_true (by kernel_rfl)) k0 bel lt0) (trodAll_cons_mk (Below.trod laidOut (by kernel_rfl) (of_decide_eq_true (by kernel_rfl)) k1 bel lt1) trodAll_mk0)), rfl, bel.frame _, fun h => by cases h⟩

theorem over : Rows.occurRulesRow.holds Try.pinned (OpenSpec.ofChange Rows.occurRulesSpec) :=
  OpenClaim.holds_of_wide 9 Try.f9 rfl rfl rfl rfl rfl rfl rfl ⟨rfl, rfl, rfl, rfl, rfl⟩ rfl rfl rfl rfl rfl (by kernel_rfl) Try.func9 (by kernel_rfl)
    (of_decide_eq_true (by kernel_rfl)) (by unfold Func.isWrapper; first | (rw [if_pos (by decide +kernel)]; kernel_rfl) | (rw [if_neg (by decide +kernel)]; exact ⟨rfl, rfl⟩))
    (fun os started H enc _ => lifted os started H enc)

theorem proved : Rows.OccurRulesSaid := over
#print axioms proved
end Go.Proofs.Ytafdaiidnphbaaa.occurRules
