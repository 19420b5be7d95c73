/- OccurLists: the law returns true: Sorted, First, Merge and Shift return what the reference returns. No conditions. -/
import Derived.Test.YtafdaiidnphbaaaMg8
import Derived.Test.YtafdaiidnphbaaaMg6
import Derived.Test.YtafdaiidnphbaaaMg5
import Derived.Test.YtafdaiidnphbaaaMg4
namespace Go.Proofs.Ytafdaiidnphbaaa.occurLists
open Go.ChangeShapes Go.WideShapes Go.ChangeAt Go.RowKit

set_option maxRecDepth 100000 in
set_option maxHeartbeats 8000000 in
theorem walkN (pa pb : Option Addr) (ca cb : Nat) (a b : List Hit) (n : Int) (w : World) (ha : Hits w (.slice pa a.length ca) a) (hb : Hits w (.slice pb b.length cb) b) (hca : a.length ≤ ca) (hcb : b.length ≤ cb) :
    Calls Try.prog 5 #[.slice pa a.length ca, .slice pb b.length cb, .int .i64 n] w fun e w' => e = .returned (.bool true) ∧ Below w.heap.size w w' := by
  have K0 := Lib.hid (fun w1 (hl : Below w.heap.size w w1) => sorted_p _ a w1 (Row.below ha hl))
  have K1 := Lib.hid (fun w1 (hl : Below w.heap.size w w1) => sorted_r _ a w1 (Row.below ha hl))
  have K2 := Lib.hid (fun w1 (hl : Below w.heap.size w w1) => first_p pa ca a n w1 (Row.below ha hl) hca)
  have K3 := Lib.hid (fun w1 (hl : Below w.heap.size w w1) => first_r pa ca a n w1 (Row.below ha hl) hca)
  have K4 := Lib.hid (fun w1 (hl : Below w.heap.size w w1) => merge_p _ _ a b w1 (Row.below ha hl) (Row.below hb hl))
  have K5 := Lib.hid (fun w1 (hl : Below w.heap.size w w1) => merge_r pa pb ca cb a b w1 (Row.below ha hl) (Row.below hb hl) hca hcb)
  have K6 := Lib.hid (fun w1 (hl : Below w.heap.size w w1) => shift_p _ a n w1 (Row.below ha hl))
  have K7 := Lib.hid (fun w1 (hl : Below w.heap.size w w1) => shift_r _ a n w1 (Row.below ha hl))
  clear ha hb hca hcb
  generalize (sortedV a).1 = x1 at *
  generalize (sortedV a).2 = x2 at *
  generalize hfirstL a n = y1 at *
  generalize ((hfirstD a n : Nat) : Int) = y2 at *
  generalize hfirstE a n = y3 at *
  generalize mergeL a b = z1 at *
  generalize mergeE a b = z2 at *
  generalize shiftL a n = u1 at *
  generalize shiftE a n = u2 at *
  generalize a.length = la at *
  generalize b.length = lb at *
  have hA : (200 < la ∧ la ≤ 65535) ∨ (200 < la ∧ ¬ la ≤ 65535 ∧ 70005 < la) ∨ (¬ 200 < la ∧ ¬ 70005 < la) ∨ (200 < la ∧ ¬ la ≤ 65535 ∧ ¬ 70005 < la) := by omega
  have hB : (200 < lb ∧ lb ≤ 65535) ∨ (200 < lb ∧ ¬ lb ≤ 65535 ∧ 70005 < lb) ∨ (¬ 200 < lb ∧ ¬ 70005 < lb) ∨ (200 < lb ∧ ¬ lb ≤ 65535 ∧ ¬ 70005 < lb) := by omega
  rcases hA with ⟨a1, a2⟩ | ⟨a1, a2, a3⟩ | ⟨a1, a3⟩ | ⟨a1, a2, a3⟩
  case inl =>
    clear hB
    go_enter Try.func5, Try.ntmps5
    go_wp2_with fail
    refine (awake_p _).mono ?_
    rintro e w1 ⟨rfl, hb⟩
    have HB := Lib.hid hb
    clear hb
    go_wp2_with fail
    go_ret
    exact ⟨rfl, HB.out⟩
  case inr.inl =>
    clear hB
    go_enter Try.func5, Try.ntmps5
    go_wp2_with fail
    refine (awake_p _).mono ?_
    rintro e w1 ⟨rfl, hb⟩
    have HB := Lib.hid hb
    clear hb
    go_wp2_with fail
    go_ret
    exact ⟨rfl, HB.out⟩
  all_goals
    rcases hB with ⟨b1, b2⟩ | ⟨b1, b2, b3⟩ | ⟨b1, b3⟩ | ⟨b1, b2, b3⟩
    case inl =>
      go_enter Try.func5, Try.ntmps5
      go_wp2_with fail
      refine (awake_p _).mono ?_
      rintro e w1 ⟨rfl, hb⟩
      have HB := Lib.hid hb
      clear hb
      go_wp2_with fail
      go_ret
      exact ⟨rfl, HB.out⟩
    case inr.inl =>
      go_enter Try.func5, Try.ntmps5
      go_wp2_with fail
      refine (awake_p _).mono ?_
      rintro e w1 ⟨rfl, hb⟩
      have HB := Lib.hid hb
      clear hb
      go_wp2_with fail
      go_ret
      exact ⟨rfl, HB.out⟩
    all_goals
      go_enter Try.func5, Try.ntmps5
      go_wp2_with fail
      refine (K0.out w (Below.refl _ _)).mono ?_
      rintro e w1 ⟨rfl, hb⟩
      have HB1 := Lib.hid hb
      clear hb
      go_wp2_with fail
      refine (K1.out w1 HB1.out).mono ?_
      rintro e w2 ⟨rfl, hb⟩
      have HB2 := Lib.hid (next HB1.out hb)
      clear hb
      go_wp2_with fail
      refine (K2.out w2 HB2.out).mono ?_
      rintro e w3 ⟨v3, rfl, ho, hb⟩
      have HB3 := Lib.hid (next HB2.out hb)
      have HV3 := Lib.hid (Row.of_owns ho)
      clear hb ho
      go_wp2_with fail
      refine (K3.out w3 HB3.out).mono ?_
      rintro e w4 ⟨v4, rfl, ho, hb⟩
      have HB4 := Lib.hid (next HB3.out hb)
      have S1 := Lib.hid (same_r v3 v4 y1 y1 w4 (Row.below HV3.out hb) (Row.of_owns ho))
      rw [decide_eq_true (rfl : y1 = y1)] at S1
      clear hb ho
      go_wp2_with fail
      refine S1.out.mono ?_
      rintro e w5 ⟨rfl, hb⟩
      have HB5 := Lib.hid (next HB4.out hb)
      clear hb S1
      go_wp2_with fail
      refine (K4.out w5 HB5.out).mono ?_
      rintro e w6 ⟨v6, rfl, ho, hb⟩
      have HB6 := Lib.hid (next HB5.out hb)
      have HV6 := Lib.hid (Row.of_owns ho)
      clear hb ho
      go_wp2_with fail
      refine (K5.out w6 HB6.out).mono ?_
      rintro e w7 ⟨v7, rfl, ho, hb⟩
      have HB7 := Lib.hid (next HB6.out hb)
      have S2 := Lib.hid (fun w8 (h8 : Below w7.heap.size w7 w8) => same_r v6 v7 z1 z1 w8 (Row.below (Row.below HV6.out hb) h8) (Row.below (Row.of_owns ho) h8))
      rw [decide_eq_true (rfl : z1 = z1)] at S2
      clear hb ho
      go_wp2_with fail
      refine (K6.out w7 HB7.out).mono ?_
      rintro e w8 ⟨v8, rfl, ho, hb⟩
      have HB8 := Lib.hid (next HB7.out hb)
      have HQ8 := Lib.hid hb
      have HV8 := Lib.hid (Row.of_owns ho)
      clear hb ho
      go_wp2_with fail
      refine (K7.out w8 HB8.out).mono ?_
      rintro e w9 ⟨v9, rfl, ho, hb⟩
      have HB9 := Lib.hid (next HB8.out hb)
      have HQ9 := Lib.hid (next HQ8.out hb)
      have S3 := Lib.hid (fun w10 (h10 : Below w9.heap.size w9 w10) => same_r v8 v9 u1 u1 w10 (Row.below (Row.below HV8.out hb) h10) (Row.below (Row.of_owns ho) h10))
      rw [decide_eq_true (rfl : u1 = u1)] at S3
      clear hb ho
      go_wp2_with fail
      refine (S2.out w9 HQ9.out).mono ?_
      rintro e w10 ⟨rfl, hb⟩
      have HB10 := Lib.hid (next HB9.out hb)
      have HQ10 := Lib.hid hb
      clear hb
      go_wp2_with fail
      refine (S3.out w10 HQ10.out).mono ?_
      rintro e w11 ⟨rfl, hb⟩
      have HB11 := Lib.hid (next HB10.out hb)
      clear hb
      go_wp2_with fail
      refine (awake_p _).mono ?_
      rintro e w12 ⟨rfl, hb⟩
      have HB12 := Lib.hid (next HB11.out hb)
      clear hb
      go_wp2_with fail
      go_ret
      exact ⟨rfl, HB12.out⟩

set_option maxRecDepth 100000 in
theorem walk {H : Type} {enc : TypeId × Value → H} {d d2 : DataW H} {p p2 : List MemPlace} {base base2 : Nat} (v u : Value) (n : Int) (w : World)
    (hk : DataW.Trod enc Try.prog w 0 (fun _ => true) true 34 v d p) (hv : Value.okWide Try.prog w .any base 34 v)
    (hk2 : DataW.Trod enc Try.prog w 0 (fun _ => true) true 34 u d2 p2) (hv2 : Value.okWide Try.prog w .any base2 34 u) (_ : IntKind.i64.has n) :
    Calls Try.prog 5 #[v, u, .int .i64 n] w fun e w' => e = .returned (.bool true) ∧ Below w.heap.size w w' := by
  obtain ⟨m, hm⟩ := hk
  obtain ⟨m2, hm2⟩ := hk2
  obtain ⟨a, len, cap, rfl⟩ := okWide_slice Try.underlying34 hv
  obtain ⟨a2, len2, cap2, rfl⟩ := okWide_slice Try.underlying34 hv2
  obtain ⟨l, hl⟩ := hits_of hm
  obtain ⟨b, hb⟩ := hits_of hm2
  have hc := (cap_of Try.underlying34 hm).le
  have hc2 := (cap_of Try.underlying34 hm2).le
  obtain ⟨_, _, e⟩ := Row.form2 hl
  obtain ⟨_, _, e2⟩ := Row.form2 hb
  cases e
  cases e2
  exact walkN _ _ _ _ l b n w hl hb hc hc2

theorem own : ownKnob Try.prog.godebug = none := by kernel_rfl
theorem laidOut : laidOutB Try.prog = true := by kernel_rfl

set_option maxRecDepth 100000 in
theorem lifted (os : Os) (started : os.Started) (H : Type) (enc : TypeId × Value → H) :
    ReturnsInHanded {} Try.checked os 5 .any (Rows.occurListsSpec.pre6 enc Try.prog Try.f5 Rows.occurListsRow.domain false) (Rows.occurListsSpec.post enc Try.prog Try.f5 false true false false) := by
  refine returnsInHanded_of_change (C := Try.checked) own started (by kernel_rfl) Try.func5
    (ChangeSpec.witness6 (enc := enc) (C := Try.checked) false ⟨#[], #[.slice none 0 0, .slice none 0 0, .int .i64 0], []⟩ 8 (by kernel_rfl) (by kernel_rfl) (by kernel_rfl) (by kernel_rfl)) ?_
  intro W base args ds gs before hval0 hW hcnd _
  have hval : ∀ (j : Nat) t v, Try.f5.params[j]? = some t → args[j]? = some v → Value.okWide Try.prog W .any base t v := hval0
  have hW' := hW
  obtain ⟨p, q, hA0, hV, rfl, hfz, hnd⟩ := hW
  have hA : DataW.TrodAll enc Try.prog W 0 (fun _ => true) true Try.f5.params.toList args.toList ds p := hA0
  rw [Try.params5] at hA hval
  obtain ⟨v0, vs0, d0, ds0, p0, q0, hargs, rfl, rfl, k0, r0⟩ := trodAll_cons hA
  obtain ⟨v1, vs1, d1, ds1, p1, q1, rfl, rfl, rfl, k1, r1⟩ := trodAll_cons r0
  obtain ⟨v2, vs2, d2, ds2, p2, q2, rfl, rfl, rfl, k2, r2⟩ := trodAll_cons r1
  obtain ⟨rfl, rfl, rfl⟩ := trodAll_nil r2
  obtain rfl : args = #[v0, v1, v2] := by cases args; simp_all
  obtain ⟨rfl, rfl⟩ := trodVars_none hV
  have lt0 : ∀ x ∈ p0, x.block < W.heap.size := by obtain ⟨m, hm⟩ := k0; exact DataW.trod_lt m _ _ _ hm
  have lt1 : ∀ x ∈ p1, x.block < W.heap.size := by obtain ⟨m, hm⟩ := k1; exact DataW.trod_lt m _ _ _ hm
  have lt2 : ∀ x ∈ p2, x.block < W.heap.size := by obtain ⟨m, hm⟩ := k2; exact DataW.trod_lt m _ _ _ hm
  obtain ⟨a2, rfl, w2⟩ := arg_int Try.underlying3 (hval 2 3 v2 rfl rfl)
  clear hA0 hval0
  refine (walk v0 v1 a2 W k0 (hval 0 34 v0 rfl rfl) k1 (hval 1 34 v1 rfl rfl) w2).mono fun e W' ⟨he, bel⟩ => ?_
  subst he
  exact ⟨_, rfl, _, _, _, [], _, [], hW', trodAll_mk1 (shut_bool Try.underlying4 _), (trodAll_cons_mk (Below.trod laidOut (by kernel_rfl) (of_decide_eq_true (by kernel_rfl)) k0 bel lt0) (trodAll_cons_mk (Below.trod laidOut (by kernel_rfl) (of_decide_eq_true (by kernel_rfl)) k1 bel lt1) (trodAll_cons_mk (Below.trod laidOut (by kernel_rfl) (of_decide_eq_true (by kernel_rfl)) k2 bel lt2) trodAll_mk0))), rfl, bel.frame _, fun h => by cases h⟩

theorem over : Rows.occurListsRow.holds Try.pinned (OpenSpec.ofChange Rows.occurListsSpec) :=
  OpenClaim.holds_of_wide 5 Try.f5 rfl rfl rfl rfl rfl rfl rfl ⟨rfl, rfl, rfl, rfl, rfl⟩ rfl rfl rfl rfl rfl (by kernel_rfl) Try.func5 (by kernel_rfl)
    (of_decide_eq_true (by kernel_rfl)) (by unfold Func.isWrapper; first | (rw [if_pos (by decide +kernel)]; kernel_rfl) | (rw [if_neg (by decide +kernel)]; exact ⟨rfl, rfl⟩))
    (fun os started H enc _ => lifted os started H enc)

theorem proved : Rows.OccurListsSaid := over
#print axioms proved
end Go.Proofs.Ytafdaiidnphbaaa.occurLists
