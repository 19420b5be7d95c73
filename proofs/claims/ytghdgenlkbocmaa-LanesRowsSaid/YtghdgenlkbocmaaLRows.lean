/- LanesRows: the law returns true: Row returns what the reference returns, for any plan. No conditions. -/
import Derived.Test.YtghdgenlkbocmaaLArg
import Derived.Test.YtghdgenlkbocmaaLShown
import Derived.Lib.SmallJoins
namespace Go.Proofs.Ytghdgenlkbocmaa.lanesRows
open Go.ChangeShapes Go.WideShapes Go.ChangeAt Go.RowKit

set_option maxRecDepth 100000 in
set_option maxHeartbeats 8000000 in
theorem walkN (W : Int) (v u : Value) (l : List Ln) (R : List (List (List CSet))) (b : Nat) (w : World) (hv : Lanes w v l) (hu : Rules3 w u R) (hb256 : b < 256) :
    Calls Try.prog 5 #[.agg #[.int .i64 W, v], u, .int .u8 (b : Int)] w fun e w' => e = .returned (.bool true) ∧ Below w.heap.size w w' := by
  have A0 := Lib.hid (fun w h => wide_r u R w h)
  have B1 := Lib.hid (fun w h h2 hn => row_p W v u l R b w h h2 hn hb256)
  have B2 := Lib.hid (fun w h h2 hn => row_r W v u l R b w h h2 hn hb256)
  have HM := Lib.hid (ChkM.start w W v)
  have HV := Lib.hid hv
  have HU := Lib.hid hu
  have hm := Row.max hv
  obtain ⟨a, cap, rfl⟩ := hv.form
  generalize rowV W l R b = tv at *
  obtain ⟨tk, ts, te⟩ := tv
  obtain ⟨c0, c1⟩ := HM.out.plan.cells
  clear hv hu
  go_enter Try.func5, Try.ntmps5
  go_wp2_with fail
  have K := A0.out _ (HU.out.below HM.out.bel)
  with_reducible refine K.mono ?_
  clear K
  rintro e w1 ⟨z, rfl, hz, rfl⟩
  cases z with
  | true =>
    go_wp2_with fail
    refine (shown_r _).mono ?_
    rintro e w2 ⟨rfl, hb⟩
    replace HM := Lib.hid (HM.out.keep hb rfl)
    clear hb
    go_wp2_with fail
    go_ret
    exact ⟨rfl, HM.out.bel⟩

  | false =>
    have HN := Lib.hid (hz rfl)
    clear hz
    by_cases h3 : (300 : Int) < (l.length : Int)
    · go_wp2_with fail
      refine (shown_r _).mono ?_
      rintro e w2 ⟨rfl, hb⟩
      replace HM := Lib.hid (HM.out.keep hb rfl)
      clear hb
      go_wp2_with fail
      go_ret
      exact ⟨rfl, HM.out.bel⟩

    · go_wp2_with fail
      have K := B1.out _ (HV.out.below HM.out.bel) (HU.out.below HM.out.bel) HN.out
      with_reducible refine K.mono ?_
      clear K
      rintro e w2 ⟨x1, rfl, hU, hb⟩
      have Hx1 := Lib.hid hU
      replace HM := Lib.hid (HM.out.keep hb rfl)
      clear c0 c1 hU hb
      obtain ⟨c0, c1⟩ := HM.out.plan.cells
      go_wp2_with fail
      have K := B2.out _ (HV.out.below HM.out.bel) (HU.out.below HM.out.bel) HN.out
      with_reducible refine K.mono ?_
      clear K
      rintro e w3 ⟨x2, rfl, hU, hb⟩
      have Hx2 := Lib.hid hU
      replace Hx1 := Lib.hid (Hx1.out.below hb)
      replace HM := Lib.hid (HM.out.keep hb rfl)
      clear c0 c1 hU hb
      obtain ⟨c0, c1⟩ := HM.out.plan.cells
      go_wp2_with fail
      refine (sameRow_r _ _ _ _ _ Hx1.out Hx2.out).mono ?_
      rintro e w4 ⟨rfl, hb⟩
      replace HM := Lib.hid (HM.out.keep hb rfl)
      clear hb
      go_wp2_with fail
      refine (shown_r _).mono ?_
      rintro e w5 ⟨rfl, hb⟩
      replace HM := Lib.hid (HM.out.keep hb rfl)
      clear hb
      go_wp2_with fail
      go_ret
      exact ⟨rfl, HM.out.bel⟩

theorem walk {H : Type} {enc : TypeId × Value → H} {d d' : DataW H} {p p' : List MemPlace} {base : Nat} (v u : Value) (b : Int) (w : World)
    (hk : DataW.Trod enc Try.prog w 0 (fun _ => true) true 27 v d p) (hv : Value.okWide Try.prog w .any base 27 v)
    (hk2 : DataW.Trod enc Try.prog w 0 (fun _ => true) true 22 u d' p') (hv2 : Value.okWide Try.prog w .any base 22 u) (hb : IntKind.u8.has b) :
    Calls Try.prog 5 #[v, u, .int .u8 b] w fun e w' => e = .returned (.bool true) ∧ Below w.heap.size w w' := by
  obtain ⟨v0, v1, t0, t1, n, rfl, -, -, q0, q1⟩ := Go.Joins.open_agg2 Try.underlying27 (by kernel_rfl) (by kernel_rfl) hv hk
  obtain ⟨W, e0, _⟩ := DataW.trod_int Try.underlying3 q0
  simp at e0
  subst e0
  obtain ⟨l, hl⟩ := lanes_of q1
  obtain ⟨m, hm⟩ := hk2
  obtain ⟨a, len, cap, rfl⟩ := okWide_slice Try.underlying22 hv2
  obtain ⟨R, hR⟩ := rules_of hm
  obtain ⟨b0, b1⟩ := has_u8 hb
  obtain ⟨b, rfl⟩ : ∃ n : Nat, b = n := ⟨b.toNat, by omega⟩
  exact walkN W v1 _ l R b w hl hR (by omega)

theorem own : ownKnob Try.prog.godebug = none := by kernel_rfl
theorem laidOut : laidOutB Try.prog = true := by kernel_rfl

set_option maxRecDepth 100000 in
theorem lifted (os : Os) (started : os.Started) (H : Type) (enc : TypeId × Value → H) :
    ReturnsInHanded {} Try.checked os 5 .any (Rows.lanesRowsSpec.pre6 enc Try.prog Try.f5 Rows.lanesRowsRow.domain false) (Rows.lanesRowsSpec.post enc Try.prog Try.f5 false true false false) := by
  refine returnsInHanded_of_change (C := Try.checked) own started (by kernel_rfl) Try.func5
    (ChangeSpec.witness6 (enc := enc) (C := Try.checked) false ⟨#[], #[.agg #[.int .i64 0, .slice none 0 0], .slice none 0 0, .int .u8 0], []⟩ 8 (by kernel_rfl) (by kernel_rfl) (by kernel_rfl) (by kernel_rfl)) ?_
  intro W base args ds gs before hval0 hW hcnd _
  have hval : ∀ (j : Nat) t v, Try.f5.params[j]? = some t → args[j]? = some v → Value.okWide Try.prog W .any base t v := hval0
  have hW' := hW
  obtain ⟨p, q, hA0, hV, rfl, hfz, hnd⟩ := hW
  have hA : DataW.TrodAll enc Try.prog W 0 (fun _ => true) true Try.f5.params.toList args.toList ds p := hA0
  rw [Try.params5] at hA hval
  obtain ⟨v0, vs0, d0, ds0, p0, q0, hargs, rfl, rfl, k0, r0⟩ := trodAll_cons hA
  obtain ⟨v1, vs1, d1, ds1, p1, q1, rfl, rfl, rfl, k1, r1⟩ := trodAll_cons r0
  obtain ⟨v2, vs2, d2, ds2, p2, q2, rfl, rfl, rfl, k2, r2⟩ := trodAll_cons r1
  obtain ⟨rfl, rfl, rfl⟩ := trodAll_nil r2
  obtain rfl : args = #[v0, v1, v2] := by cases args; simp_all
  obtain ⟨rfl, rfl⟩ := trodVars_none hV
  have lt0 : ∀ x ∈ p0, x.block < W.heap.size := by obtain ⟨m, hm⟩ := k0; exact DataW.trod_lt m _ _ _ hm
  have lt1 : ∀ x ∈ p1, x.block < W.heap.size := by obtain ⟨m, hm⟩ := k1; exact DataW.trod_lt m _ _ _ hm
  have lt2 : ∀ x ∈ p2, x.block < W.heap.size := by obtain ⟨m, hm⟩ := k2; exact DataW.trod_lt m _ _ _ hm
  obtain ⟨a2, rfl, w2⟩ := arg_int Try.underlying5 (hval 2 5 v2 rfl rfl)
  clear hA0 hval0
  refine (walk v0 v1 a2 W k0 (hval 0 27 v0 rfl rfl) k1 (hval 1 22 v1 rfl rfl) w2).mono fun e W' ⟨he, bel⟩ => ?_
  subst he
  exact ⟨_, rfl, _, _, _, [], _, [], hW', trodAll_mk1 (shut_bool Try.underlying4 _), (trodAll_cons_mk (Below.trod laidOut (by kernel_rfl) (of_decide_eq_true (by kernel_rfl)) k0 bel lt0) (trodAll_cons_mk (Below.trod laidOut (by kernel_rfl) (of_decide_eq_true (by kernel_rfl)) k1 bel lt1) (trodAll_cons_mk (Below.trod laidOut (by kernel_rfl) (of_decide_eq_true (by kernel_rfl)) k2 bel lt2) trodAll_mk0))), rfl, bel.frame _, fun h => by cases h⟩

theorem over : Rows.lanesRowsRow.holds Try.pinned (OpenSpec.ofChange Rows.lanesRowsSpec) :=
  OpenClaim.holds_of_wide 5 Try.f5 rfl rfl rfl rfl rfl rfl rfl ⟨rfl, rfl, rfl, rfl, rfl⟩ rfl rfl rfl rfl rfl (by kernel_rfl) Try.func5 (by kernel_rfl)
    (of_decide_eq_true (by kernel_rfl)) (by unfold Func.isWrapper; first | (rw [if_pos (by decide +kernel)]; kernel_rfl) | (rw [if_neg (by decide +kernel)]; exact ⟨rfl, rfl⟩))
    (fun os started H enc _ => lifted os started H enc)

theorem proved : Rows.LanesRowsSaid := over
#print axioms proved
end Go.Proofs.Ytghdgenlkbocmaa.lanesRows
