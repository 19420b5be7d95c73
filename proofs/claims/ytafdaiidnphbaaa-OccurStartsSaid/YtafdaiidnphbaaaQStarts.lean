/- OccurStarts: the law returns true: Starts returns what the reference returns. No conditions. -/
import Derived.Test.YtafdaiidnphbaaaMg8
import Derived.Test.YtafdaiidnphbaaaMg7
import Derived.Test.YtafdaiidnphbaaaMg6
namespace Go.Proofs.Ytafdaiidnphbaaa.occurStarts
open Go.ChangeShapes Go.WideShapes Go.ChangeAt Go.RowKit

set_option maxRecDepth 100000 in
set_option maxHeartbeats 8000000 in
theorem walkN (v : Value) (ua : Option Addr) (ucap : Nat) (p : List El) (b : List UInt8) (n : Int) (w : World) (h : Pats w v p) (hb : Bytes w (.slice ua b.length ucap) b) (hcap : b.length ≤ ucap) :
    Calls Try.prog 4 #[v, .slice ua b.length ucap, .int .i64 n] w fun e w' => e = .returned (.bool true) ∧ Below w.heap.size w w' := by
  have HB0 := Lib.hid ((Below.refl w.heap.size w).alloc (Nat.le_refl _) (.cells #[v] 22))
  obtain ⟨W0, hW0⟩ : ∃ W0, W0 = w.alloc (.cells #[v] 22) := ⟨_, rfl⟩
  have HS := sets_one h
  rw [← hW0] at HB0 HS
  have HP := Row.below h HB0.out
  have HBY := Row.below hb HB0.out
  have K0 := Lib.hid (far_p _ _ [p] b W0 HS HBY)
  have K3 := Lib.hid (fun w1 (hl : Below W0.heap.size W0 w1) => starts_p v ua ucap p b n w1 (Row.below HP hl) (Row.below HBY hl) hcap)
  have K4 := Lib.hid (fun w1 (hl : Below W0.heap.size W0 w1) => starts_r v ua ucap p b n w1 (Row.below HP hl) (Row.below HBY hl) hcap)
  have C0 := row_str HBY
  have C1 := Lib.hid (fun w1 (hl : Below W0.heap.size W0 w1) => row_str (Row.below HBY hl))
  obtain ⟨a, cap, rfl⟩ := Row.form2 h
  clear h hb HS HBY HP hcap
  generalize startL p b n = y1 at *
  generalize startE p b n = y2 at *
  generalize str b = s at *
  generalize p.length = lp at *
  generalize b.length = lb at *
  go_enter Try.func4, Try.ntmps4
  go_wp2_with fail
  subst hW0
  refine K0.out.mono ?_
  rintro e w1 ⟨⟨c, rfl⟩, rfl⟩
  cases c with
  | true =>
    go_wp2_with fail
    refine (awake_p _).mono ?_
    rintro e w1 ⟨rfl, hb⟩
    have HB := Lib.hid (next HB0.out hb)
    clear hb
    go_wp2_with fail
    go_ret
    exact ⟨rfl, HB.out⟩
  | false =>
    go_wp2_with fail
    refine (K3.out _ (Below.refl _ _)).mono ?_
    rintro e w3 ⟨v3, rfl, ho, hb⟩
    have HB3 := Lib.hid hb
    have HV3 := Lib.hid (Row.of_owns ho)
    clear hb ho C0
    go_wp2_with fail
    refine (K4.out w3 HB3.out).mono ?_
    rintro e w4 ⟨v4, rfl, ho, hb⟩
    have HB4 := Lib.hid (next HB3.out hb)
    have S1 := Lib.hid (ints_r v3 v4 y1 y1 w4 (Row.below HV3.out hb) (Row.of_owns ho))
    rw [decide_eq_true (rfl : y1 = y1)] at S1
    clear hb ho
    go_wp2_with fail
    refine S1.out.mono ?_
    rintro e w5 ⟨rfl, hb⟩
    have HB5 := Lib.hid (next HB4.out hb)
    have C5 := C1.out w5 HB5.out
    clear hb S1
    go_wp2_with fail
    refine (awake_p _).mono ?_
    rintro e w12 ⟨rfl, hb⟩
    have HB12 := Lib.hid (next HB0.out (next HB5.out hb))
    clear hb
    go_wp2_with fail
    go_ret
    exact ⟨rfl, HB12.out⟩

set_option maxRecDepth 100000 in
theorem walk {H : Type} {enc : TypeId × Value → H} {d d2 : DataW H} {p p2 : List MemPlace} {base base2 : Nat} (v u : Value) (n : Int) (w : World)
    (hk : DataW.Trod enc Try.prog w 0 (fun _ => true) true 22 v d p) (hv : Value.okWide Try.prog w .any base 22 v)
    (hk2 : DataW.Trod enc Try.prog w 0 (fun _ => true) true 23 u d2 p2) (hv2 : Value.okWide Try.prog w .any base2 23 u) (_ : IntKind.i64.has n) :
    Calls Try.prog 4 #[v, u, .int .i64 n] w fun e w' => e = .returned (.bool true) ∧ Below w.heap.size w w' := by
  obtain ⟨m, hm⟩ := hk
  obtain ⟨m2, hm2⟩ := hk2
  obtain ⟨a, len, cap, rfl⟩ := okWide_slice Try.underlying22 hv
  obtain ⟨a2, len2, cap2, rfl⟩ := okWide_slice Try.underlying23 hv2
  obtain ⟨l, hl⟩ := pats_of hm
  obtain ⟨b, hb⟩ := bytes_of hm2
  have hc2 := (cap_of Try.underlying23 hm2).le
  obtain ⟨_, _, e2⟩ := Row.form2 hb
  cases e2
  exact walkN _ _ _ l b n w hl hb hc2

theorem own : ownKnob Try.prog.godebug = none := by kernel_rfl
theorem laidOut : laidOutB Try.prog = true := by kernel_rfl

set_option maxRecDepth 100000 in
theorem lifted (os : Os) (started : os.Started) (H : Type) (enc : TypeId × Value → H) :
    ReturnsInHanded {} Try.checked os 4 .any (Rows.occurStartsSpec.pre6 enc Try.prog Try.f4 Rows.occurStartsRow.domain false) (Rows.occurStartsSpec.post enc Try.prog Try.f4 false true false false) := by
  refine returnsInHanded_of_change (C := Try.checked) own started (by kernel_rfl) Try.func4
    (ChangeSpec.witness6 (enc := enc) (C := Try.checked) false ⟨#[], #[.slice none 0 0, .slice none 0 0, .int .i64 0], []⟩ 8 (by kernel_rfl) (by kernel_rfl) (by kernel_rfl) (by kernel_rfl)) ?_
  intro W base args ds gs before hval0 hW hcnd _
  have hval : ∀ (j : Nat) t v, Try.f4.params[j]? = some t → args[j]? = some v → Value.okWide Try.prog W .any base t v := hval0
  have hW' := hW
  obtain ⟨p, q, hA0, hV, rfl, hfz, hnd⟩ := hW
  have hA : DataW.TrodAll enc Try.prog W 0 (fun _ => true) true Try.f4.params.toList args.toList ds p := hA0
  rw [Try.params4] at hA hval
  obtain ⟨v0, vs0, d0, ds0, p0, q0, hargs, rfl, rfl, k0, r0⟩ := trodAll_cons hA
  obtain ⟨v1, vs1, d1, ds1, p1, q1, rfl, rfl, rfl, k1, r1⟩ := trodAll_cons r0
  obtain ⟨v2, vs2, d2, ds2, p2, q2, rfl, rfl, rfl, k2, r2⟩ := trodAll_cons r1
  obtain ⟨rfl, rfl, rfl⟩ := trodAll_nil r2
  obtain rfl : args = #[v0, v1, v2] := by cases args; simp_all
  obtain ⟨rfl, rfl⟩ := trodVars_none hV
  have lt0 : ∀ x ∈ p0, x.block < W.heap.size := by obtain ⟨m, hm⟩ := k0; exact DataW.trod_lt m _ _ _ hm
  have lt1 : ∀ x ∈ p1, x.block < W.heap.size := by obtain ⟨m, hm⟩ := k1; exact DataW.trod_lt m _ _ _ hm
  have lt2 : ∀ x ∈ p2, x.block < W.heap.size := by obtain ⟨m, hm⟩ := k2; exact DataW.trod_lt m _ _ _ hm
  obtain ⟨a2, rfl, w2⟩ := arg_int Try.underlying3 (hval 2 3 v2 rfl rfl)
  clear hA0 hval0
  refine (walk v0 v1 a2 W k0 (hval 0 22 v0 rfl rfl) k1 (hval 1 23 v1 rfl rfl) w2).mono fun e W' ⟨he, bel⟩ => ?_
  subst he
  exact ⟨_, rfl, _, _, _, [], _, [], hW', trodAll_mk1 (shut_bool Try.underlying4 _), (trodAll_cons_mk (Below.trod laidOut (by kernel_rfl) (of_decide_eq_true (by kernel_rfl)) k0 bel lt0) (trodAll_cons_mk (Below.trod laidOut (by kernel_rfl) (of_decide_eq_true (by kernel_rfl)) k1 bel lt1) (trodAll_cons_mk (Below.trod laidOut (by kernel_rfl) (of_decide_eq_true (by kernel_rfl)) k2 bel lt2) trodAll_mk0))), rfl, bel.frame _, fun h => by cases h⟩

theorem over : Rows.occurStartsRow.holds Try.pinned (OpenSpec.ofChange Rows.occurStartsSpec) :=
  OpenClaim.holds_of_wide 4 Try.f4 rfl rfl rfl rfl rfl rfl rfl ⟨rfl, rfl, rfl, rfl, rfl⟩ rfl rfl rfl rfl rfl (by kernel_rfl) Try.func4 (by kernel_rfl)
    (of_decide_eq_true (by kernel_rfl)) (by unfold Func.isWrapper; first | (rw [if_pos (by decide +kernel)]; kernel_rfl) | (rw [if_neg (by decide +kernel)]; exact ⟨rfl, rfl⟩))
    (fun os started H enc _ => lifted os started H enc)

theorem proved : Rows.OccurStartsSaid := over
#print axioms proved
end Go.Proofs.Ytafdaiidnphbaaa.occurStarts
