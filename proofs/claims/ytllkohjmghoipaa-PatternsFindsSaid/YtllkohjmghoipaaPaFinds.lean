/- PatternsFinds: the law returns true: Matches and Ends return what the reference returns. No conditions. -/
import Derived.Test.YtllkohjmghoipaaPaLong
namespace Go.Proofs.Ytllkohjmghoipaa.patternsFinds
open Go.ChangeShapes Go.WideShapes Go.ChangeAt Go.RowKit

set_option maxRecDepth 100000 in
set_option maxHeartbeats 8000000 in
theorem walkN (v u : Value) (p : List El) (b : List UInt8) (w : World) (h : Pats w v p) (hb : Bytes w u b) :
    Calls Try.prog 4 #[v, u] w fun e w' => e = .returned (.bool true) ∧ Below w.heap.size w w' := by
  have K0 := Lib.hid (long_p v p w h)
  have K1 := Lib.hid (fun w1 (hl : Below w.heap.size w w1) => matches_p v u p b w1 (Row.below h hl) (Row.below hb hl))
  have K2 := Lib.hid (fun w1 (hl : Below w.heap.size w w1) => matches_r v u p b w1 (Row.below h hl) (Row.below hb hl))
  have K3 := Lib.hid (fun w1 (hl : Below w.heap.size w w1) => ends_p v u p b w1 (Row.below h hl) (Row.below hb hl))
  have K4 := Lib.hid (fun w1 (hl : Below w.heap.size w w1) => ends_r v u p b w1 (Row.below h hl) (Row.below hb hl))
  obtain ⟨a, cap, rfl⟩ := Row.form2 h
  obtain ⟨a2, cap2, rfl⟩ := Row.form2 hb
  clear h hb
  generalize matV p b = m at *
  generalize seekE p b = s at *
  generalize endV p b = l at *
  generalize longV p = lg at *
  cases lg with
  | true =>
    go_enter Try.func4, Try.ntmps4
    go_wp2_with fail
    refine K0.out.mono ?_
    rintro e w1 ⟨rfl, rfl⟩
    go_wp2_with fail
    refine (shown_p _).mono ?_
    rintro e w1 ⟨rfl, hb⟩
    have HB := Lib.hid hb
    clear hb
    go_wp2_with fail
    go_ret
    exact ⟨rfl, HB.out⟩
  | false =>
    by_cases hc : (60 < b.length ∧ b.length ≤ 4096) ∨ 4100 < b.length
    · have hcase : (60 < b.length ∧ b.length ≤ 4096) ∨ (60 < b.length ∧ ¬ b.length ≤ 4096 ∧ 4100 < b.length) := by omega
      rcases hcase with ⟨h1, h2⟩ | ⟨h1, h2, h3⟩
      all_goals
        clear hc
        go_enter Try.func4, Try.ntmps4
        go_wp2_with fail
        refine K0.out.mono ?_
        rintro e w1 ⟨rfl, rfl⟩
        go_wp2_with fail
        refine (shown_p _).mono ?_
        rintro e w1 ⟨rfl, hb⟩
        have HB := Lib.hid hb
        clear hb
        go_wp2_with fail
        go_ret
        exact ⟨rfl, HB.out⟩
    · have hcase : (¬ 60 < b.length ∧ ¬ 4100 < b.length) ∨ (60 < b.length ∧ ¬ b.length ≤ 4096 ∧ ¬ 4100 < b.length) := by omega
      rcases hcase with ⟨h1, h3⟩ | ⟨h1, h2, h3⟩
      all_goals
        clear hc
        go_enter Try.func4, Try.ntmps4
        go_wp2_with fail
        refine K0.out.mono ?_
        rintro e w1 ⟨rfl, rfl⟩
        go_wp2_with fail
        refine (K1.out w (Below.refl _ _)).mono ?_
        rintro e w1 ⟨rfl, hb1⟩
        have HB1 := Lib.hid hb1
        clear hb1
        go_wp2_with fail
        refine (K2.out w1 HB1.out).mono ?_
        rintro e w2 ⟨rfl, hb2⟩
        have HB2 := Lib.hid (next HB1.out hb2)
        clear hb2
        go_wp2_with fail
        refine (K3.out w2 HB2.out).mono ?_
        rintro e w3 ⟨v3, rfl, ho3, hb3⟩
        have HB3 := Lib.hid (next HB2.out hb3)
        have HV3 := Lib.hid (Row.of_owns ho3)
        clear hb3 ho3
        go_wp2_with fail
        refine (K4.out w3 HB3.out).mono ?_
        rintro e w4 ⟨v4, rfl, ho4, hb4⟩
        have HB4 := Lib.hid (next HB3.out hb4)
        have K5 := Lib.hid (ints_r v3 v4 l l w4 (Row.below HV3.out hb4) (Row.of_owns ho4))
        rw [decide_eq_true (rfl : l = l)] at K5
        clear hb4 ho4
        go_wp2_with fail
        refine K5.out.mono ?_
        rintro e w5 ⟨rfl, hb5⟩
        have HB5 := Lib.hid (next HB4.out hb5)
        clear hb5
        go_wp2_with fail
        refine (shown_p _).mono ?_
        rintro e w6 ⟨rfl, hb6⟩
        have HB6 := Lib.hid (next HB5.out hb6)
        clear hb6
        go_wp2_with fail
        go_ret
        exact ⟨rfl, HB6.out⟩

set_option maxRecDepth 100000 in
theorem walk {H : Type} {enc : TypeId × Value → H} {d d2 : DataW H} {p p2 : List MemPlace} {base base2 : Nat} (v u : Value) (w : World)
    (hk : DataW.Trod enc Try.prog w 0 (fun _ => true) true 22 v d p) (hv : Value.okWide Try.prog w .any base 22 v)
    (hk2 : DataW.Trod enc Try.prog w 0 (fun _ => true) true 30 u d2 p2) (hv2 : Value.okWide Try.prog w .any base2 30 u) :
    Calls Try.prog 4 #[v, u] w fun e w' => e = .returned (.bool true) ∧ Below w.heap.size w w' := by
  obtain ⟨m, hm⟩ := hk
  obtain ⟨m2, hm2⟩ := hk2
  obtain ⟨a, len, cap, rfl⟩ := okWide_slice Try.underlying22 hv
  obtain ⟨a2, len2, cap2, rfl⟩ := okWide_slice Try.underlying30 hv2
  obtain ⟨l, hl⟩ := pats_of hm
  obtain ⟨b, hb⟩ := bytes_of hm2
  exact walkN _ _ l b w hl hb

theorem own : ownKnob Try.prog.godebug = none := by kernel_rfl
theorem laidOut : laidOutB Try.prog = true := by kernel_rfl

set_option maxRecDepth 100000 in
theorem lifted (os : Os) (started : os.Started) (H : Type) (enc : TypeId × Value → H) :
    ReturnsInHanded {} Try.checked os 4 .any (Rows.patternsFindsSpec.pre6 enc Try.prog Try.f4 Rows.patternsFindsRow.domain false) (Rows.patternsFindsSpec.post enc Try.prog Try.f4 false true false false) := by
  refine returnsInHanded_of_change (C := Try.checked) own started (by kernel_rfl) Try.func4
    (ChangeSpec.witness6 (enc := enc) (C := Try.checked) false ⟨#[], #[.slice none 0 0, .slice none 0 0], []⟩ 8 (by kernel_rfl) (by kernel_rfl) (by kernel_rfl) (by kernel_rfl)) ?_
  intro W base args ds gs before hval0 hW hcnd _
  have hval : ∀ (j : Nat) t v, Try.f4.params[j]? = some t → args[j]? = some v → Value.okWide Try.prog W .any base t v := hval0
  have hW' := hW
  obtain ⟨p, q, hA0, hV, rfl, hfz, hnd⟩ := hW
  have hA : DataW.TrodAll enc Try.prog W 0 (fun _ => true) true Try.f4.params.toList args.toList ds p := hA0
  rw [Try.params4] at hA hval
  obtain ⟨v0, vs0, d0, ds0, p0, q0, hargs, rfl, rfl, k0, r0⟩ := trodAll_cons hA
  obtain ⟨v1, vs1, d1, ds1, p1, q1, rfl, rfl, rfl, k1, r1⟩ := trodAll_cons r0
  obtain ⟨rfl, rfl, rfl⟩ := trodAll_nil r1
  obtain rfl : args = #[v0, v1] := by cases args; simp_all
  obtain ⟨rfl, rfl⟩ := trodVars_none hV
  have lt0 : ∀ x ∈ p0, x.block < W.heap.size := by obtain ⟨m, hm⟩ := k0; exact DataW.trod_lt m _ _ _ hm
  have lt1 : ∀ x ∈ p1, x.block < W.heap.size := by obtain ⟨m, hm⟩ := k1; exact DataW.trod_lt m _ _ _ hm
  clear hA0 hval0
  refine (walk v0 v1 W k0 (hval 0 22 v0 rfl rfl) k1 (hval 1 30 v1 rfl rfl)).mono fun e W' ⟨he, bel⟩ => ?_
  subst he
  exact ⟨_, rfl, _, _, _, [], _, [], hW', trodAll_mk1 (shut_bool Try.underlying4 _), (trodAll_cons_mk (Below.trod laidOut (by kernel_rfl) (of_decide_eq_true (by kernel_rfl)) k0 bel lt0) (trodAll_cons_mk (Below.trod laidOut (by kernel_rfl) (of_decide_eq_true (by kernel_rfl)) k1 bel lt1) trodAll_mk0)), rfl, bel.frame _, fun h => by cases h⟩

theorem over : Rows.patternsFindsRow.holds Try.pinned (OpenSpec.ofChange Rows.patternsFindsSpec) :=
  OpenClaim.holds_of_wide 4 Try.f4 rfl rfl rfl rfl rfl rfl rfl ⟨rfl, rfl, rfl, rfl, rfl⟩ rfl rfl rfl rfl rfl (by kernel_rfl) Try.func4 (by kernel_rfl)
    (of_decide_eq_true (by kernel_rfl)) (by unfold Func.isWrapper; first | (rw [if_pos (by decide +kernel)]; kernel_rfl) | (rw [if_neg (by decide +kernel)]; exact ⟨rfl, rfl⟩))
    (fun os started H enc _ => lifted os started H enc)

theorem proved : Rows.PatternsFindsSaid := over
#print axioms proved
end Go.Proofs.Ytllkohjmghoipaa.patternsFinds
