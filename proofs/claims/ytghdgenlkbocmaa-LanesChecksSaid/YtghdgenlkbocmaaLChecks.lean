/- LanesChecks: the law returns true: Check, Spots, Rules, Find, Starts and Ends return what the reference returns. No conditions. -/
import Derived.Test.YtghdgenlkbocmaaLArg
import Derived.Test.YtghdgenlkbocmaaLShown
import Derived.Lib.SmallJoins
namespace Go.Proofs.Ytghdgenlkbocmaa.lanesChecks
open Go.ChangeShapes Go.WideShapes Go.ChangeAt Go.RowKit

set_option maxRecDepth 100000 in
set_option maxHeartbeats 8000000 in
theorem walkN (W pos rule : Int) (v : Value) (l : List Ln) (w : World) (hv : Lanes w v l) :
    Calls Try.prog 4 #[.agg #[.int .i64 W, v], .int .i64 pos, .int .i64 rule] w fun e w' => e = .returned (.bool true) ∧ Below w.heap.size w w' := by
  have A1 := Lib.hid (fun w h => check_p W v l w h)
  have A2 := Lib.hid (fun w h => check_r W v l w h)
  have A3 := Lib.hid (fun w h => spots_p W v l w h)
  have A4 := Lib.hid (fun w h => spots_r W v l w h)
  have A5 := Lib.hid (fun w h => rules_p W v l w h)
  have A6 := Lib.hid (fun w h => rules_r W v l w h)
  have A7 := Lib.hid (fun w h => find_p W pos v l w h)
  have A8 := Lib.hid (fun w h => find_r W pos v l w h)
  have B1 := Lib.hid (fun w h => starts_p W v l w h)
  have B2 := Lib.hid (fun w h => starts_r W v l w h)
  have B3 := Lib.hid (fun w h => ends_p W rule v l w h)
  have B4 := Lib.hid (fun w h => ends_r W rule v l w h)
  have HM := Lib.hid (ChkM.start w W v)
  have HV := Lib.hid hv
  have hm := Row.max hv
  obtain ⟨a, cap, rfl⟩ := hv.form
  generalize checkV W l = cv at *
  generalize spotsV W l = sv at *
  generalize rulesV W l = rv at *
  generalize findV W l pos = fv at *
  generalize startsV W l = tv at *
  generalize endsV W l rule = ev at *
  obtain ⟨tk, ts, te⟩ := tv
  obtain ⟨ek, es, ee⟩ := ev
  obtain ⟨c0, c1⟩ := HM.out.plan.cells
  clear hv
  by_cases h3 : (300 : Int) < (l.length : Int)
  · go_enter Try.func4, Try.ntmps4
    go_wp2_with fail
    refine (shown_r _).mono ?_
    rintro e w1 ⟨rfl, hb⟩
    replace HM := Lib.hid (HM.out.keep hb rfl)
    clear hb
    go_wp2_with fail
    go_ret
    exact ⟨rfl, HM.out.bel⟩

  · go_enter Try.func4, Try.ntmps4
    go_wp2_with fail
    have K := A1.out _ (HV.out.below HM.out.bel)
    with_reducible refine K.mono ?_
    clear K
    rintro e w1 ⟨rfl, hb⟩
    replace HM := Lib.hid (HM.out.keep hb rfl)
    clear c0 c1 hb
    obtain ⟨c0, c1⟩ := HM.out.plan.cells
    go_wp2_with fail
    have K := A2.out _ (HV.out.below HM.out.bel)
    with_reducible refine K.mono ?_
    clear K
    rintro e w2 ⟨rfl, hb⟩
    replace HM := Lib.hid (HM.out.keep hb rfl)
    clear c0 c1 hb
    obtain ⟨c0, c1⟩ := HM.out.plan.cells
    go_wp2_with fail
    have K := A3.out _ (HV.out.below HM.out.bel)
    with_reducible refine K.mono ?_
    clear K
    rintro e w3 ⟨rfl, hb⟩
    replace HM := Lib.hid (HM.out.keep hb rfl)
    clear c0 c1 hb
    obtain ⟨c0, c1⟩ := HM.out.plan.cells
    go_wp2_with fail
    have K := A4.out _ (HV.out.below HM.out.bel)
    with_reducible refine K.mono ?_
    clear K
    rintro e w4 ⟨rfl, hb⟩
    replace HM := Lib.hid (HM.out.keep hb rfl)
    clear c0 c1 hb
    obtain ⟨c0, c1⟩ := HM.out.plan.cells
    go_wp2_with fail
    have K := A5.out _ (HV.out.below HM.out.bel)
    with_reducible refine K.mono ?_
    clear K
    rintro e w5 ⟨rfl, hb⟩
    replace HM := Lib.hid (HM.out.keep hb rfl)
    clear c0 c1 hb
    obtain ⟨c0, c1⟩ := HM.out.plan.cells
    go_wp2_with fail
    have K := A6.out _ (HV.out.below HM.out.bel)
    with_reducible refine K.mono ?_
    clear K
    rintro e w6 ⟨rfl, hb⟩
    replace HM := Lib.hid (HM.out.keep hb rfl)
    clear c0 c1 hb
    obtain ⟨c0, c1⟩ := HM.out.plan.cells
    go_wp2_with fail
    have K := A7.out _ (HV.out.below HM.out.bel)
    with_reducible refine K.mono ?_
    clear K
    rintro e w7 ⟨rfl, hb⟩
    replace HM := Lib.hid (HM.out.keep hb rfl)
    clear c0 c1 hb
    obtain ⟨c0, c1⟩ := HM.out.plan.cells
    go_wp2_with fail
    have K := A8.out _ (HV.out.below HM.out.bel)
    with_reducible refine K.mono ?_
    clear K
    rintro e w8 ⟨rfl, hb⟩
    replace HM := Lib.hid (HM.out.keep hb rfl)
    clear c0 c1 hb
    obtain ⟨c0, c1⟩ := HM.out.plan.cells
    go_wp2_with fail
    have K := B1.out _ (HV.out.below HM.out.bel)
    with_reducible refine K.mono ?_
    clear K
    rintro e w9 ⟨x1, rfl, hU, hb⟩
    have Hx1 := Lib.hid hU
    replace HM := Lib.hid (HM.out.keep hb rfl)
    clear c0 c1 hU hb
    obtain ⟨c0, c1⟩ := HM.out.plan.cells
    go_wp2_with fail
    have K := B2.out _ (HV.out.below HM.out.bel)
    with_reducible refine K.mono ?_
    clear K
    rintro e w10 ⟨x2, rfl, hU, hb⟩
    have Hx2 := Lib.hid hU
    replace Hx1 := Lib.hid (Hx1.out.below hb)
    replace HM := Lib.hid (HM.out.keep hb rfl)
    clear c0 c1 hU hb
    obtain ⟨c0, c1⟩ := HM.out.plan.cells
    go_wp2_with fail
    have K := B3.out _ (HV.out.below HM.out.bel)
    with_reducible refine K.mono ?_
    clear K
    rintro e w11 ⟨x3, rfl, hU, hb⟩
    have Hx3 := Lib.hid hU
    replace Hx1 := Lib.hid (Hx1.out.below hb)
    replace Hx2 := Lib.hid (Hx2.out.below hb)
    replace HM := Lib.hid (HM.out.keep hb rfl)
    clear c0 c1 hU hb
    obtain ⟨c0, c1⟩ := HM.out.plan.cells
    go_wp2_with fail
    have K := B4.out _ (HV.out.below HM.out.bel)
    with_reducible refine K.mono ?_
    clear K
    rintro e w12 ⟨x4, rfl, hU, hb⟩
    have Hx4 := Lib.hid hU
    replace Hx1 := Lib.hid (Hx1.out.below hb)
    replace Hx2 := Lib.hid (Hx2.out.below hb)
    replace Hx3 := Lib.hid (Hx3.out.below hb)
    replace HM := Lib.hid (HM.out.keep hb rfl)
    clear c0 c1 hU hb
    obtain ⟨c0, c1⟩ := HM.out.plan.cells
    go_wp2_with fail
    refine (sameRow_r _ _ _ _ _ Hx1.out Hx2.out).mono ?_
    rintro e w13 ⟨rfl, hb⟩
    replace Hx3 := Lib.hid (Hx3.out.below hb)
    replace Hx4 := Lib.hid (Hx4.out.below hb)
    replace HM := Lib.hid (HM.out.keep hb rfl)
    clear hb
    go_wp2_with fail
    refine (sameRow_r _ _ _ _ _ Hx3.out Hx4.out).mono ?_
    rintro e w14 ⟨rfl, hb⟩
    replace HM := Lib.hid (HM.out.keep hb rfl)
    clear hb
    go_wp2_with fail
    refine (shown_r _).mono ?_
    rintro e w15 ⟨rfl, hb⟩
    replace HM := Lib.hid (HM.out.keep hb rfl)
    clear hb
    go_wp2_with fail
    go_ret
    exact ⟨rfl, HM.out.bel⟩

theorem walk {H : Type} {enc : TypeId × Value → H} {d : DataW H} {p : List MemPlace} {base : Nat} (v : Value) (pos rule : Int) (w : World)
    (hk : DataW.Trod enc Try.prog w 0 (fun _ => true) true 27 v d p) (hv : Value.okWide Try.prog w .any base 27 v) (_ : IntKind.i64.has pos) (_ : IntKind.i64.has rule) :
    Calls Try.prog 4 #[v, .int .i64 pos, .int .i64 rule] w fun e w' => e = .returned (.bool true) ∧ Below w.heap.size w w' := by
  obtain ⟨v0, v1, t0, t1, n, rfl, -, -, q0, q1⟩ := Go.Joins.open_agg2 Try.underlying27 (by kernel_rfl) (by kernel_rfl) hv hk
  obtain ⟨W, e0, _⟩ := DataW.trod_int Try.underlying3 q0
  simp at e0
  subst e0
  obtain ⟨l, hl⟩ := lanes_of q1
  exact walkN W pos rule v1 l w hl

theorem own : ownKnob Try.prog.godebug = none := by kernel_rfl
theorem laidOut : laidOutB Try.prog = true := by kernel_rfl

set_option maxRecDepth 100000 in
theorem lifted (os : Os) (started : os.Started) (H : Type) (enc : TypeId × Value → H) :
    ReturnsInHanded {} Try.checked os 4 .any (Rows.lanesChecksSpec.pre6 enc Try.prog Try.f4 Rows.lanesChecksRow.domain false) (Rows.lanesChecksSpec.post enc Try.prog Try.f4 false true false false) := by
  refine returnsInHanded_of_change (C := Try.checked) own started (by kernel_rfl) Try.func4
    (ChangeSpec.witness6 (enc := enc) (C := Try.checked) false ⟨#[], #[.agg #[.int .i64 0, .slice none 0 0], .int .i64 0, .int .i64 0], []⟩ 8 (by kernel_rfl) (by kernel_rfl) (by kernel_rfl) (by kernel_rfl)) ?_
  intro W base args ds gs before hval0 hW hcnd _
  have hval : ∀ (j : Nat) t v, Try.f4.params[j]? = some t → args[j]? = some v → Value.okWide Try.prog W .any base t v := hval0
  have hW' := hW
  obtain ⟨p, q, hA0, hV, rfl, hfz, hnd⟩ := hW
  have hA : DataW.TrodAll enc Try.prog W 0 (fun _ => true) true Try.f4.params.toList args.toList ds p := hA0
  rw [Try.params4] at hA hval
  obtain ⟨v0, vs0, d0, ds0, p0, q0, hargs, rfl, rfl, k0, r0⟩ := trodAll_cons hA
  obtain ⟨v1, vs1, d1, ds1, p1, q1, rfl, rfl, rfl, k1, r1⟩ := trodAll_cons r0
  obtain ⟨v2, vs2, d2, ds2, p2, q2, rfl, rfl, rfl, k2, r2⟩ := trodAll_cons r1
  obtain ⟨rfl, rfl, rfl⟩ := trodAll_nil r2
  obtain rfl : args = #[v0, v1, v2] := by cases args; simp_all
  obtain ⟨rfl, rfl⟩ := trodVars_none hV
  have lt0 : ∀ x ∈ p0, x.block < W.heap.size := by obtain ⟨m, hm⟩ := k0; exact DataW.trod_lt m _ _ _ hm
  have lt1 : ∀ x ∈ p1, x.block < W.heap.size := by obtain ⟨m, hm⟩ := k1; exact DataW.trod_lt m _ _ _ hm
  have lt2 : ∀ x ∈ p2, x.block < W.heap.size := by obtain ⟨m, hm⟩ := k2; exact DataW.trod_lt m _ _ _ hm
  obtain ⟨a1, rfl, w1⟩ := arg_int Try.underlying3 (hval 1 3 v1 rfl rfl)
  obtain ⟨a2, rfl, w2⟩ := arg_int Try.underlying3 (hval 2 3 v2 rfl rfl)
  clear hA0 hval0
  refine (walk v0 a1 a2 W k0 (hval 0 27 v0 rfl rfl) w1 w2).mono fun e W' ⟨he, bel⟩ => ?_
  subst he
  exact ⟨_, rfl, _, _, _, [], _, [], hW', trodAll_mk1 (shut_bool Try.underlying4 _), (trodAll_cons_mk (Below.trod laidOut (by kernel_rfl) (of_decide_eq_true (by kernel_rfl)) k0 bel lt0) (trodAll_cons_mk (Below.trod laidOut (by kernel_rfl) (of_decide_eq_true (by kernel_rfl)) k1 bel lt1) (trodAll_cons_mk (Below.trod laidOut (by kernel_rfl) (of_decide_eq_true (by kernel_rfl)) k2 bel lt2) trodAll_mk0))), rfl, bel.frame _, fun h => by cases h⟩

theorem over : Rows.lanesChecksRow.holds Try.pinned (OpenSpec.ofChange Rows.lanesChecksSpec) :=
  OpenClaim.holds_of_wide 4 Try.f4 rfl rfl rfl rfl rfl rfl rfl ⟨rfl, rfl, rfl, rfl, rfl⟩ rfl rfl rfl rfl rfl (by kernel_rfl) Try.func4 (by kernel_rfl)
    (of_decide_eq_true (by kernel_rfl)) (by unfold Func.isWrapper; first | (rw [if_pos (by decide +kernel)]; kernel_rfl) | (rw [if_neg (by decide +kernel)]; exact ⟨rfl, rfl⟩))
    (fun os started H enc _ => lifted os started H enc)

theorem proved : Rows.LanesChecksSaid := over
#print axioms proved
end Go.Proofs.Ytghdgenlkbocmaa.lanesChecks
