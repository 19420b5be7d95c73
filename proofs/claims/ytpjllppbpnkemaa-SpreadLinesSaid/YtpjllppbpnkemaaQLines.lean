/- SpreadLines: the law returns true: Line returns what the reference returns. No conditions. -/
import Derived.Test.YtpjllppbpnkemaaMg6
import Derived.Test.YtpjllppbpnkemaaMg5
namespace Go.Proofs.Ytpjllppbpnkemaa.spreadLines
open Go.ChangeShapes Go.WideShapes Go.ChangeAt Go.RowKit

set_option maxRecDepth 100000 in
set_option maxHeartbeats 8000000 in
theorem walkN (v : Value) (ua : Option Addr) (uc : Nat) (p : List El) (c : List Int) (w : World) (h : Pats w v p) (hc : Nums w (.slice ua c.length uc) c) (hcap : c.length ≤ uc) :
    Calls Try.prog 5 #[v, .slice ua c.length uc] w fun e w' => e = .returned (.bool true) ∧ Below w.heap.size w w' := by
  have K0 := Lib.hid (long_p v p w h)
  have hpl : longV p = false → p.length ≤ 1000 := fun hl => by have := longV_no hl; omega
  have HPL := Lib.hid hpl
  have K1 := Lib.hid (fun w1 (hb : Below w.heap.size w w1) => line_p v ua uc p c w1 (Row.below h hb) (Row.below hc hb) hcap)
  have K2 := Lib.hid (fun w1 (hb : Below w.heap.size w w1) (hp : p.length ≤ 1000) => line_r v ua uc p c w1 (Row.below h hb) (Row.below hc hb) hp)
  obtain ⟨a, cap, rfl⟩ := Row.form2 h
  unfold LineP at K1 K2
  clear h hc hpl
  generalize lineE p c = E at *
  generalize lineV p c = V at *
  generalize longV p = lg at *
  generalize c.length = n at *
  go_enter Try.func5, Try.ntmps5
  go_wp2_with fail
  refine K0.out.mono ?_
  rintro e w1 ⟨rfl, rfl⟩
  cases lg with
  | true =>
    go_wp2_with fail
    refine (shown_p _).mono ?_
    rintro e w1 ⟨rfl, hb⟩
    have HB := Lib.hid hb
    clear hb
    go_wp2_with fail
    go_ret
    exact ⟨rfl, HB.out⟩
  | false =>
    have HP := Lib.hid (HPL.out rfl)
    clear HPL
    by_cases hn : 70 < (n : Int)
    · go_wp2_with fail
      refine (shown_p _).mono ?_
      rintro e w1 ⟨rfl, hb⟩
      have HB := Lib.hid hb
      clear hb
      go_wp2_with fail
      go_ret
      exact ⟨rfl, HB.out⟩
    · go_wp2_with fail
      with_reducible refine (K1.out w (Below.refl _ _)).mono ?_
      rintro e w1 ⟨v1, rfl, ho1, hb1⟩
      have HB1 := Lib.hid hb1
      have HL1 := Lib.hid (show Line w1 v1 V from Row.of_owns ho1)
      obtain ⟨x1, y1, rfl⟩ := HL1.out.form
      clear ho1 hb1 K1
      go_wp2_with fail
      with_reducible refine (K2.out w1 HB1.out HP.out).mono ?_
      rintro e w2 ⟨v2, rfl, ho2, hb2⟩
      have HB2 := Lib.hid (next HB1.out hb2)
      have HL2 := Lib.hid (show Line w2 v2 V from Row.of_owns ho2)
      obtain ⟨x2, y2, rfl⟩ := HL2.out.form
      have KS := sameLine_r _ _ V V w2 (HL1.out.below hb2) HL2.out
      rw [decide_eq_true rfl] at KS
      have KS := Lib.hid KS
      clear ho2 hb2 K2
      generalize V.length = n2 at *
      go_wp2_with fail
      with_reducible refine KS.out.mono ?_
      rintro e w3 ⟨rfl, hb3⟩
      have HB3 := Lib.hid (next HB2.out hb3)
      clear hb3 KS
      go_wp2_with fail
      refine (shown_p _).mono ?_
      rintro e w4 ⟨rfl, hb4⟩
      have HB4 := Lib.hid (next HB3.out hb4)
      clear hb4
      go_wp2_with fail
      go_ret
      exact ⟨rfl, HB4.out⟩

set_option maxRecDepth 100000 in
theorem walk {H : Type} {enc : TypeId × Value → H} {d0 d1 : DataW H} {p0 p1 : List MemPlace} {base : Nat} (v0 v1 : Value) (w : World)
    (hk0 : DataW.Trod enc Try.prog w 0 (fun _ => true) true 22 v0 d0 p0) (hv0 : Value.okWide Try.prog w .any base 22 v0)
    (hk1 : DataW.Trod enc Try.prog w 0 (fun _ => true) true 34 v1 d1 p1) (hv1 : Value.okWide Try.prog w .any base 34 v1) :
    Calls Try.prog 5 #[v0, v1] w fun e w' => e = .returned (.bool true) ∧ Below w.heap.size w w' := by
  obtain ⟨m0, hm0⟩ := hk0
  obtain ⟨m1, hm1⟩ := hk1
  obtain ⟨a0, len0, cap0, rfl⟩ := okWide_slice Try.underlying22 hv0
  obtain ⟨a1, len1, cap1, rfl⟩ := okWide_slice Try.underlying34 hv1
  obtain ⟨l, hl⟩ := pats_of hm0
  obtain ⟨c, hc⟩ := ints_of hm1
  have hcap := cap_ofS Try.underlying34 hm1
  obtain ⟨ua, uc, e⟩ := Row.form2 hc
  cases e
  exact walkN _ _ _ l c w hl hc hcap.le

theorem own : ownKnob Try.prog.godebug = none := by kernel_rfl
theorem laidOut : laidOutB Try.prog = true := by kernel_rfl

set_option maxRecDepth 100000 in
theorem lifted (os : Os) (started : os.Started) (H : Type) (enc : TypeId × Value → H) :
    ReturnsInHanded {} Try.checked os 5 .any (Rows.spreadLinesSpec.pre6 enc Try.prog Try.f5 Rows.spreadLinesRow.domain false) (Rows.spreadLinesSpec.post enc Try.prog Try.f5 false true false false) := by
  refine returnsInHanded_of_change (C := Try.checked) own started (by kernel_rfl) Try.func5
    (ChangeSpec.witness6 (enc := enc) (C := Try.checked) false ⟨#[], #[.slice none 0 0, .slice none 0 0], []⟩ 8 (by kernel_rfl) (by kernel_rfl) (by kernel_rfl) (by kernel_rfl)) ?_
  intro W base args ds gs before hval0 hW hcnd _
  have hval : ∀ (j : Nat) t v, Try.f5.params[j]? = some t → args[j]? = some v → Value.okWide Try.prog W .any base t v := hval0
  have hW' := hW
  obtain ⟨p, q, hA0, hV, rfl, hfz, hnd⟩ := hW
  have hA : DataW.TrodAll enc Try.prog W 0 (fun _ => true) true Try.f5.params.toList args.toList ds p := hA0
  rw [Try.params5] at hA hval
  obtain ⟨v0, vs0, d0, ds0, p0, q0, hargs, rfl, rfl, k0, r0⟩ := trodAll_cons hA
  obtain ⟨v1, vs1, d1, ds1, p1, q1, rfl, rfl, rfl, k1, r1⟩ := trodAll_cons r0
  obtain ⟨rfl, rfl, rfl⟩ := trodAll_nil r1
  obtain rfl : args = #[v0, v1] := by cases args; simp_all
  obtain ⟨rfl, rfl⟩ := trodVars_none hV
  have lt0 : ∀ x ∈ p0, x.block < W.heap.size := by obtain ⟨m, hm⟩ := k0; exact DataW.trod_lt m _ _ _ hm
  have lt1 : ∀ x ∈ p1, x.block < W.heap.size := by obtain ⟨m, hm⟩ := k1; exact DataW.trod_lt m _ _ _ hm
  clear hA0 hval0
  refine (walk v0 v1 W k0 (hval 0 22 v0 rfl rfl) k1 (hval 1 34 v1 rfl rfl)).mono fun e W' ⟨he, bel⟩ => ?_
  subst he
  exact ⟨_, rfl, _, _, _, [], _, [], hW', trodAll_mk1 (shut_bool Try.underlying4 _), (trodAll_cons_mk (Below.trod laidOut (by kernel_rfl) (of_decide_eq_true (by kernel_rfl)) k0 bel lt0) (trodAll_cons_mk (Below.trod laidOut (by kernel_rfl) (of_decide_eq_true (by kernel_rfl)) k1 bel lt1) trodAll_mk0)), rfl, bel.frame _, fun h => by cases h⟩

theorem over : Rows.spreadLinesRow.holds Try.pinned (OpenSpec.ofChange Rows.spreadLinesSpec) :=
  OpenClaim.holds_of_wide 5 Try.f5 rfl rfl rfl rfl rfl rfl rfl ⟨rfl, rfl, rfl, rfl, rfl⟩ rfl rfl rfl rfl rfl (by kernel_rfl) Try.func5 (by kernel_rfl)
    (of_decide_eq_true (by kernel_rfl)) (by unfold Func.isWrapper; first | (rw [if_pos (by decide +kernel)]; kernel_rfl) | (rw [if_neg (by decide +kernel)]; exact ⟨rfl, rfl⟩))
    (fun os started H enc _ => lifted os started H enc)

theorem proved : Rows.SpreadLinesSaid := over
#print axioms proved
end Go.Proofs.Ytpjllppbpnkemaa.spreadLines
