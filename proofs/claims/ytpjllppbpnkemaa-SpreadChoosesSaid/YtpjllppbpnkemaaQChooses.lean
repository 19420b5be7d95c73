/- SpreadChooses: the law returns true: Count, Positions, Choices and Lines return what the reference returns. No conditions. -/
import Derived.Test.YtpjllppbpnkemaaMg8
namespace Go.Proofs.Ytpjllppbpnkemaa.spreadChooses
open Go.ChangeShapes Go.WideShapes Go.ChangeAt Go.RowKit

set_option maxRecDepth 100000 in
set_option maxHeartbeats 20000000 in
theorem walkN (v : Value) (p : List El) (w : World) (h : Pats w v p) :
    Calls Try.prog 4 #[v] w fun e w' => e = .returned (.bool true) ∧ Below w.heap.size w w' := by
  have K0 := Lib.hid (long_p v p w h)
  have HPL := Lib.hid (show longV p = false → p.length ≤ 1000 from fun hl => by have := longV_no hl; omega)
  have K1 := Lib.hid (fun w1 (hb : Below w.heap.size w w1) => count_p v p w1 (Row.below h hb))
  have K2 := Lib.hid (fun w1 (hb : Below w.heap.size w w1) => count_r v p w1 (Row.below h hb))
  have K3 := Lib.hid (fun w1 (hb : Below w.heap.size w w1) => positions_p v p w1 (Row.below h hb))
  have K4 := Lib.hid (fun w1 (hb : Below w.heap.size w w1) (hp : p.length ≤ 1000) => positions_r v p w1 (Row.below h hb) hp)
  have K5 := Lib.hid (fun w1 (hb : Below w.heap.size w w1) => choices_p v p w1 (Row.below h hb))
  have K6 := Lib.hid (fun w1 (hb : Below w.heap.size w w1) (hp : p.length ≤ 1000) => choicesE_r v p w1 (Row.below h hb) hp)
  have K7 := Lib.hid (fun w1 (hb : Below w.heap.size w w1) => lines_p v p w1 (Row.below h hb))
  have K8 := Lib.hid (fun w1 (hb : Below w.heap.size w w1) (hp : p.length ≤ 1000) => lines_r v p w1 (Row.below h hb) hp)
  unfold CntP at K1 K2
  unfold PosP at K3 K4
  unfold ChoP at K5
  unfold ChoRP at K6
  unfold LinesP at K7 K8
  obtain ⟨a, cap, rfl⟩ := Row.form2 h
  clear h
  generalize cntV p = c1 at *
  generalize cntE p = c2 at *
  generalize posV p = c3 at *
  generalize posE p = c4 at *
  generalize chosL p = CL at *
  generalize linesV p = LL at *
  generalize longV p = lg at *
  go_enter Try.func4, Try.ntmps4
  go_wp2_with fail
  refine K0.out.mono ?_
  rintro e w1 ⟨rfl, rfl⟩
  cases lg with
  | true =>
    go_wp2_with fail
    refine (shown_p _).mono ?_
    rintro e w1 ⟨rfl, hb⟩
    have HB := Lib.hid hb
    clear hb
    go_wp2_with fail
    go_ret
    exact ⟨rfl, HB.out⟩
  | false =>
    have HP := Lib.hid (HPL.out rfl)
    clear HPL
    go_wp2_with fail
    with_reducible refine (K1.out w (Below.refl _ _)).mono ?_
    rintro e w1 ⟨rfl, hb1⟩
    have HB1 := Lib.hid hb1
    clear hb1 K1
    go_wp2_with fail
    with_reducible refine (K2.out w1 HB1.out).mono ?_
    rintro e w2 ⟨rfl, hb2⟩
    have HB2 := Lib.hid (next HB1.out hb2)
    clear hb2 K2
    go_wp2_with fail
    with_reducible refine (K3.out w2 HB2.out).mono ?_
    rintro e w3 ⟨rfl, hb3⟩
    have HB3 := Lib.hid (next HB2.out hb3)
    clear hb3 K3
    go_wp2_with fail
    with_reducible refine (K4.out w3 HB3.out HP.out).mono ?_
    rintro e w4 ⟨rfl, hb4⟩
    have HB4 := Lib.hid (next HB3.out hb4)
    clear hb4 K4
    go_wp2_with fail
    with_reducible refine (K5.out w4 HB4.out).mono ?_
    rintro e w5 ⟨v5, rfl, hl5, hb5⟩
    have HB5 := Lib.hid (next HB4.out hb5)
    have HL5 := Lib.hid hl5.reads
    obtain ⟨a5, q5, rfl⟩ := hl5.form
    clear hb5 hl5 K5
    go_wp2_with fail
    with_reducible refine (K6.out w5 HB5.out HP.out).mono ?_
    rintro e w6 ⟨v6, rfl, hl6, hb6⟩
    have HB6 := Lib.hid (next HB5.out hb6)
    replace HL5 := Lib.hid (HL5.out.below hb6)
    have HL6 := Lib.hid hl6
    obtain ⟨a6, q6, rfl⟩ := hl6.form
    clear hb6 hl6 K6
    go_wp2_with fail
    with_reducible refine (K7.out w6 HB6.out).mono ?_
    rintro e w7 ⟨v7, rfl, hl7, hb7⟩
    have HB7 := Lib.hid (next HB6.out hb7)
    replace HL5 := Lib.hid (HL5.out.below hb7)
    replace HL6 := Lib.hid (HL6.out.below hb7)
    have HL7 := Lib.hid hl7.lines
    obtain ⟨a7, q7, rfl⟩ := hl7.lines.form
    clear hb7 hl7 K7
    go_wp2_with fail
    with_reducible refine (K8.out w7 HB7.out HP.out).mono ?_
    rintro e w8 ⟨v8, rfl, hl8, hb8⟩
    have HB8 := Lib.hid (next HB7.out hb8)
    have K9 := same_r _ _ CL CL w8 (HL5.out.below hb8) (HL6.out.below hb8)
    rw [decide_eq_true rfl] at K9
    have K9 := Lib.hid K9
    have HL8 := Lib.hid hl8.lines
    replace HL7 := Lib.hid (HL7.out.below hb8)
    obtain ⟨a8, q8, rfl⟩ := hl8.lines.form
    clear hb8 hl8 K8 HL5 HL6
    have KS := Lib.hid (fun w9 (hb : Below w8.heap.size w8 w9) => sameLines_r _ _ LL LL w9 (HL7.out.below hb) (HL8.out.below hb))
    clear HL7 HL8
    generalize CL.length = n1 at *
    generalize hnn : LL.length = n2 at *
    clear hnn
    go_wp2_with fail
    with_reducible refine K9.out.mono ?_
    rintro e w9 ⟨rfl, hb9⟩
    have HB9 := Lib.hid (next HB8.out hb9)
    have KS := KS.out w9 hb9
    simp only [decide_true] at KS
    have KS := Lib.hid KS
    clear hb9 K9
    go_wp2_with fail
    with_reducible refine KS.out.mono ?_
    rintro e w10 ⟨rfl, hb10⟩
    have HB10 := Lib.hid (next HB9.out hb10)
    clear hb10 KS
    go_wp2_with fail
    refine (shown_p _).mono ?_
    rintro e w11 ⟨rfl, hb11⟩
    have HB11 := Lib.hid (next HB10.out hb11)
    clear hb11
    go_wp2_with fail
    go_ret
    exact ⟨rfl, HB11.out⟩

set_option maxRecDepth 100000 in
theorem walk {H : Type} {enc : TypeId × Value → H} {d : DataW H} {p : List MemPlace} {base : Nat} (v : Value) (w : World)
    (hk : DataW.Trod enc Try.prog w 0 (fun _ => true) true 22 v d p) (hv : Value.okWide Try.prog w .any base 22 v) :
    Calls Try.prog 4 #[v] w fun e w' => e = .returned (.bool true) ∧ Below w.heap.size w w' := by
  obtain ⟨m, hm⟩ := hk
  obtain ⟨a, len, cap, rfl⟩ := okWide_slice Try.underlying22 hv
  obtain ⟨l, hl⟩ := pats_of hm
  exact walkN _ l w hl

theorem own : ownKnob Try.prog.godebug = none := by kernel_rfl
theorem laidOut : laidOutB Try.prog = true := by kernel_rfl

set_option maxRecDepth 100000 in
theorem lifted (os : Os) (started : os.Started) (H : Type) (enc : TypeId × Value → H) :
    ReturnsInHanded {} Try.checked os 4 .any (Rows.spreadChoosesSpec.pre6 enc Try.prog Try.f4 Rows.spreadChoosesRow.domain false) (Rows.spreadChoosesSpec.post enc Try.prog Try.f4 false true false false) := by
  refine returnsInHanded_of_change (C := Try.checked) own started (by kernel_rfl) Try.func4
    (ChangeSpec.witness6 (enc := enc) (C := Try.checked) false ⟨#[], #[.slice none 0 0], []⟩ 8 (by kernel_rfl) (by kernel_rfl) (by kernel_rfl) (by kernel_rfl)) ?_
  intro W base args ds gs before hval0 hW hcnd _
  have hval : ∀ (j : Nat) t v, Try.f4.params[j]? = some t → args[j]? = some v → Value.okWide Try.prog W .any base t v := hval0
  have hW' := hW
  obtain ⟨p, q, hA0, hV, rfl, hfz, hnd⟩ := hW
  have hA : DataW.TrodAll enc Try.prog W 0 (fun _ => true) true Try.f4.params.toList args.toList ds p := hA0
  rw [Try.params4] at hA hval
  obtain ⟨v0, vs0, d0, ds0, p0, q0, hargs, rfl, rfl, k0, r0⟩ := trodAll_cons hA
  obtain ⟨rfl, rfl, rfl⟩ := trodAll_nil r0
  obtain rfl : args = #[v0] := by cases args; simp_all
  obtain ⟨rfl, rfl⟩ := trodVars_none hV
  have lt0 : ∀ x ∈ p0, x.block < W.heap.size := by obtain ⟨m, hm⟩ := k0; exact DataW.trod_lt m _ _ _ hm
  clear hA0 hval0
  refine (walk v0 W k0 (hval 0 22 v0 rfl rfl)).mono fun e W' ⟨he, bel⟩ => ?_
  subst he
  exact ⟨_, rfl, _, _, _, [], _, [], hW', trodAll_mk1 (shut_bool Try.underlying4 _), (trodAll_cons_mk (Below.trod laidOut (by kernel_rfl) (of_decide_eq_true (by kernel_rfl)) k0 bel lt0) trodAll_mk0), rfl, bel.frame _, fun h => by cases h⟩

theorem over : Rows.spreadChoosesRow.holds Try.pinned (OpenSpec.ofChange Rows.spreadChoosesSpec) :=
  OpenClaim.holds_of_wide 4 Try.f4 rfl rfl rfl rfl rfl rfl rfl ⟨rfl, rfl, rfl, rfl, rfl⟩ rfl rfl rfl rfl rfl (by kernel_rfl) Try.func4 (by kernel_rfl)
    (of_decide_eq_true (by kernel_rfl)) (by unfold Func.isWrapper; first | (rw [if_pos (by decide +kernel)]; kernel_rfl) | (rw [if_neg (by decide +kernel)]; exact ⟨rfl, rfl⟩))
    (fun os started H enc _ => lifted os started H enc)

theorem proved : Rows.SpreadChoosesSaid := over
#print axioms proved
end Go.Proofs.Ytpjllppbpnkemaa.spreadChooses
