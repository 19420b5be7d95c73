/- OccurAlls: the law returns true: Check, All, Within and Counts return what the reference returns. No conditions. -/
import Derived.Test.YtafdaiidnphbaaaMg8
import Derived.Test.YtafdaiidnphbaaaMg6
import Derived.Test.YtafdaiidnphbaaaMg7
namespace Go.Proofs.Ytafdaiidnphbaaa.occurAlls
open Go.ChangeShapes Go.WideShapes Go.ChangeAt Go.RowKit

set_option maxRecDepth 100000 in
set_option maxHeartbeats 8000000 in
theorem walkN (v u : Value) (L : List (List El)) (b : List UInt8) (x0 x1 : Int) (w : World) (h : Sets w v L) (hb : Bytes w u b) :
    Calls Try.prog 8 #[v, u, .agg #[.int .i64 x0, .int .i64 x1]] w fun e w' => e = .returned (.bool true) ∧ Below w.heap.size w w' := by
  have HB0 := Lib.hid ((Below.refl w.heap.size w).alloc (Nat.le_refl _) (.cells #[.int .i64 x0, .int .i64 x1] 56))
  have hh0 : (w.alloc (.cells #[.int .i64 x0, .int .i64 x1] 56)).heap[w.heap.size]? = some (.cells #[.int .i64 x0, .int .i64 x1] 56) := heap_alloc_new w _
  have HH0 := Lib.hid hh0
  have hlt0 : w.heap.size < (w.alloc (.cells #[.int .i64 x0, .int .i64 x1] 56)).heap.size := by simp
  obtain ⟨W0, hW0⟩ : ∃ W0, W0 = w.alloc (.cells #[.int .i64 x0, .int .i64 x1] 56) := ⟨_, rfl⟩
  rw [← hW0] at HB0 HH0 hlt0
  have HS := h.below HB0.out
  have HBY := Row.below hb HB0.out
  have K0 := Lib.hid (far_p v u L b W0 HS HBY)
  have K1 := Lib.hid (fun w1 (hl : Below W0.heap.size W0 w1) => checks_p v L w1 (HS.below hl))
  have K2 := Lib.hid (fun w1 (hl : Below W0.heap.size W0 w1) => checks_r v L w1 (HS.below hl))
  have K3 := Lib.hid (fun w1 (hl : Below W0.heap.size W0 w1) => all_p v u L b w1 (HS.below hl) (Row.below HBY hl))
  have K4 := Lib.hid (fun w1 (hl : Below W0.heap.size W0 w1) => all_r v u L b w1 (HS.below hl) (Row.below HBY hl))
  rw [← allV_eq] at K4
  have K5 := Lib.hid (fun w1 (hl : Below W0.heap.size W0 w1) => within_p v u L b x0 x1 w1 (HS.below hl) (Row.below HBY hl))
  have K6 := Lib.hid (fun w1 (hl : Below W0.heap.size W0 w1) => within_r v u L b x0 x1 w1 (HS.below hl) (Row.below HBY hl))
  have K7 := Lib.hid (fun w1 (hl : Below W0.heap.size W0 w1) => counts_p v u L b w1 (HS.below hl) (Row.below HBY hl))
  have K8 := Lib.hid (fun w1 (hl : Below W0.heap.size W0 w1) => counts_r v u L b w1 (HS.below hl) (Row.below HBY hl))
  obtain ⟨a, cap, rfl⟩ := h.form
  obtain ⟨a2, cap2, rfl⟩ := Row.form2 hb
  clear h hb HS HBY hh0
  generalize L.length = ll at *
  generalize b.length = lb at *
  generalize (checkS L).1 = s1 at *
  generalize (checkS L).2 = s2 at *
  generalize allV L b = y1 at *
  generalize allE L b = y2 at *
  generalize withL L b x0 _ = z1 at *
  generalize withE L b x0 _ = z2 at *
  generalize countsV L b = u1 at *
  go_enter Try.func8, Try.ntmps8
  go_wp2_with fail
  subst hW0
  refine K0.out.mono ?_
  rintro e w1 ⟨⟨c, rfl⟩, rfl⟩
  cases c with
  | true =>
    go_wp2_with fail
    refine (awake_p _).mono ?_
    rintro e w1 ⟨rfl, hb⟩
    have HB := Lib.hid (next HB0.out hb)
    clear hb
    go_wp2_with fail
    go_ret
    exact ⟨rfl, HB.out⟩
  | false =>
    go_wp2_with fail
    refine (K1.out _ (Below.refl _ _)).mono ?_
    rintro e w1 ⟨rfl, hb⟩
    have HB1 := Lib.hid hb
    clear hb
    go_wp2_with fail
    refine (K2.out w1 HB1.out).mono ?_
    rintro e w2 ⟨rfl, hb⟩
    have HB2 := Lib.hid (next HB1.out hb)
    clear hb
    go_wp2_with fail
    refine (K3.out w2 HB2.out).mono ?_
    rintro e w3 ⟨v3, rfl, ho, hb⟩
    have HB3 := Lib.hid (next HB2.out hb)
    have HV3 := Lib.hid (Row.of_owns ho)
    clear hb ho
    go_wp2_with fail
    refine (K4.out w3 HB3.out).mono ?_
    rintro e w4 ⟨v4, rfl, ho, hb⟩
    have HB4 := Lib.hid (next HB3.out hb)
    have S1 := Lib.hid (same_r v3 v4 y1 y1 w4 (Row.below HV3.out hb) (Row.of_owns ho))
    rw [decide_eq_true (rfl : y1 = y1)] at S1
    clear hb ho
    go_wp2_with fail
    refine S1.out.mono ?_
    rintro e w5 ⟨rfl, hb⟩
    have HB5 := Lib.hid (next HB4.out hb)
    clear hb S1
    have hh := (HB5.out.block w.heap.size hlt0).trans HH0.out
    have c0 : w5.cell? ⟨w.heap.size, 0, none⟩ = some (.int .i64 x0) := cell_in hh rfl
    have c1 : w5.cell? ⟨w.heap.size, 1, none⟩ = some (.int .i64 x1) := cell_in hh rfl
    clear hh
    go_wp2_with fail
    clear c0 c1
    refine (K5.out w5 HB5.out).mono ?_
    rintro e w6 ⟨v6, rfl, ho, hb⟩
    have HB6 := Lib.hid (next HB5.out hb)
    have HV6 := Lib.hid (Row.of_owns ho)
    clear hb ho
    have hh := (HB6.out.block w.heap.size hlt0).trans HH0.out
    have c0 : w6.cell? ⟨w.heap.size, 0, none⟩ = some (.int .i64 x0) := cell_in hh rfl
    have c1 : w6.cell? ⟨w.heap.size, 1, none⟩ = some (.int .i64 x1) := cell_in hh rfl
    clear hh
    go_wp2_with fail
    clear c0 c1
    refine (K6.out w6 HB6.out).mono ?_
    rintro e w7 ⟨v7, rfl, ho, hb⟩
    have HB7 := Lib.hid (next HB6.out hb)
    have S2 := Lib.hid (fun w8 (h8 : Below w7.heap.size w7 w8) => same_r v6 v7 z1 z1 w8 (Row.below (Row.below HV6.out hb) h8) (Row.below (Row.of_owns ho) h8))
    rw [decide_eq_true (rfl : z1 = z1)] at S2
    clear hb ho
    go_wp2_with fail
    refine (K7.out w7 HB7.out).mono ?_
    rintro e w8 ⟨v8, rfl, ho, hb⟩
    have HB8 := Lib.hid (next HB7.out hb)
    have HQ8 := Lib.hid hb
    have HV8 := Lib.hid (Row.of_owns ho)
    clear hb ho
    go_wp2_with fail
    refine (K8.out w8 HB8.out).mono ?_
    rintro e w9 ⟨v9, rfl, ho, hb⟩
    have HB9 := Lib.hid (next HB8.out hb)
    have HQ9 := Lib.hid (next HQ8.out hb)
    have S3 := Lib.hid (fun w10 (h10 : Below w9.heap.size w9 w10) => ints_r v8 v9 u1 u1 w10 (Row.below (Row.below HV8.out hb) h10) (Row.below (Row.of_owns ho) h10))
    rw [decide_eq_true (rfl : u1 = u1)] at S3
    clear hb ho
    go_wp2_with fail
    refine (S2.out w9 HQ9.out).mono ?_
    rintro e w10 ⟨rfl, hb⟩
    have HB10 := Lib.hid (next HB9.out hb)
    have HQ10 := Lib.hid hb
    clear hb
    go_wp2_with fail
    refine (S3.out w10 HQ10.out).mono ?_
    rintro e w11 ⟨rfl, hb⟩
    have HB11 := Lib.hid (next HB10.out hb)
    clear hb
    go_wp2_with fail
    refine (awake_p _).mono ?_
    rintro e w12 ⟨rfl, hb⟩
    have HB12 := Lib.hid (next HB0.out (next HB11.out hb))
    clear hb
    go_wp2_with fail
    go_ret
    exact ⟨rfl, HB12.out⟩

set_option maxRecDepth 100000 in
theorem walk {H : Type} {enc : TypeId × Value → H} {d d2 : DataW H} {p p2 : List MemPlace} {base base2 base3 : Nat} (v u : Value) (cs : Array Value) (w : World)
    (hk : DataW.Trod enc Try.prog w 0 (fun _ => true) true 25 v d p) (hv : Value.okWide Try.prog w .any base 25 v)
    (hk2 : DataW.Trod enc Try.prog w 0 (fun _ => true) true 23 u d2 p2) (hv2 : Value.okWide Try.prog w .any base2 23 u) (hz : cs.size = [3, 3].length)
    (hc : ∀ (i : Nat) (u : TypeId) (x : Value), [3, 3][i]? = some u → cs[i]? = some x → Cell.okWide Try.prog w .any base3 u x) :
    Calls Try.prog 8 #[v, u, .agg cs] w fun e w' => e = .returned (.bool true) ∧ Below w.heap.size w w' := by
  obtain ⟨m, hm⟩ := hk
  obtain ⟨m2, hm2⟩ := hk2
  obtain ⟨a, len, cap, rfl⟩ := okWide_slice Try.underlying25 hv
  obtain ⟨a2, len2, cap2, rfl⟩ := okWide_slice Try.underlying23 hv2
  obtain ⟨l, hl⟩ := sets_of hm
  obtain ⟨b, hb⟩ := bytes_of hm2
  obtain ⟨c0, c1, rfl⟩ : ∃ c0 c1, cs = #[c0, c1] := by
    have h2 : cs.size = 2 := hz
    obtain ⟨l⟩ := cs
    match l, h2 with
    | [c0, c1], _ => exact ⟨c0, c1, rfl⟩
  obtain ⟨x0, rfl, _⟩ := cell_int Try.underlying3 (hc 0 _ _ rfl rfl)
  obtain ⟨x1, rfl, _⟩ := cell_int Try.underlying3 (hc 1 _ _ rfl rfl)
  exact walkN _ _ l b x0 x1 w hl hb

theorem own : ownKnob Try.prog.godebug = none := by kernel_rfl
theorem laidOut : laidOutB Try.prog = true := by kernel_rfl

set_option maxRecDepth 100000 in
theorem lifted (os : Os) (started : os.Started) (H : Type) (enc : TypeId × Value → H) :
    ReturnsInHanded {} Try.checked os 8 .any (Rows.occurAllsSpec.pre6 enc Try.prog Try.f8 Rows.occurAllsRow.domain false) (Rows.occurAllsSpec.post enc Try.prog Try.f8 false true false false) := by
  refine returnsInHanded_of_change (C := Try.checked) own started (by kernel_rfl) Try.func8
    (ChangeSpec.witness6 (enc := enc) (C := Try.checked) false ⟨#[], #[.slice none 0 0, .slice none 0 0, .agg #[.int .i64 0, .int .i64 0]], []⟩ 8 (by kernel_rfl) (by kernel_rfl) (by kernel_rfl) (by kernel_rfl)) ?_
  intro W base args ds gs before hval0 hW hcnd _
  have hval : ∀ (j : Nat) t v, Try.f8.params[j]? = some t → args[j]? = some v → Value.okWide Try.prog W .any base t v := hval0
  have hW' := hW
  obtain ⟨p, q, hA0, hV, rfl, hfz, hnd⟩ := hW
  have hA : DataW.TrodAll enc Try.prog W 0 (fun _ => true) true Try.f8.params.toList args.toList ds p := hA0
  rw [Try.params8] at hA hval
  obtain ⟨v0, vs0, d0, ds0, p0, q0, hargs, rfl, rfl, k0, r0⟩ := trodAll_cons hA
  obtain ⟨v1, vs1, d1, ds1, p1, q1, rfl, rfl, rfl, k1, r1⟩ := trodAll_cons r0
  obtain ⟨v2, vs2, d2, ds2, p2, q2, rfl, rfl, rfl, k2, r2⟩ := trodAll_cons r1
  obtain ⟨rfl, rfl, rfl⟩ := trodAll_nil r2
  obtain rfl : args = #[v0, v1, v2] := by cases args; simp_all
  obtain ⟨rfl, rfl⟩ := trodVars_none hV
  have lt0 : ∀ x ∈ p0, x.block < W.heap.size := by obtain ⟨m, hm⟩ := k0; exact DataW.trod_lt m _ _ _ hm
  have lt1 : ∀ x ∈ p1, x.block < W.heap.size := by obtain ⟨m, hm⟩ := k1; exact DataW.trod_lt m _ _ _ hm
  have lt2 : ∀ x ∈ p2, x.block < W.heap.size := by obtain ⟨m, hm⟩ := k2; exact DataW.trod_lt m _ _ _ hm
  obtain ⟨c2, rfl, z2, g2⟩ := arg_agg (ts := [3, 3]) (by kernel_rfl) (by kernel_rfl) (by kernel_rfl) (hval 2 56 v2 rfl rfl)
  clear hA0 hval0
  refine (walk v0 v1 c2 W k0 (hval 0 25 v0 rfl rfl) k1 (hval 1 23 v1 rfl rfl) z2 g2).mono fun e W' ⟨he, bel⟩ => ?_
  subst he
  exact ⟨_, rfl, _, _, _, [], _, [], hW', trodAll_mk1 (shut_bool Try.underlying4 _), (trodAll_cons_mk (Below.trod laidOut (by kernel_rfl) (of_decide_eq_true (by kernel_rfl)) k0 bel lt0) (trodAll_cons_mk (Below.trod laidOut (by kernel_rfl) (of_decide_eq_true (by kernel_rfl)) k1 bel lt1) (trodAll_cons_mk (Below.trod laidOut (by kernel_rfl) (of_decide_eq_true (by kernel_rfl)) k2 bel lt2) trodAll_mk0))), rfl, bel.frame _, fun h => by cases h⟩

theorem over : Rows.occurAllsRow.holds Try.pinned (OpenSpec.ofChange Rows.occurAllsSpec) :=
  OpenClaim.holds_of_wide 8 Try.f8 rfl rfl rfl rfl rfl rfl rfl ⟨rfl, rfl, rfl, rfl, rfl⟩ rfl rfl rfl rfl rfl (by kernel_rfl) Try.func8 (by kernel_rfl)
    (of_decide_eq_true (by kernel_rfl)) (by unfold Func.isWrapper; first | (rw [if_pos (by decide +kernel)]; kernel_rfl) | (rw [if_neg (by decide +kernel)]; exact ⟨rfl, rfl⟩))
    (fun os started H enc _ => lifted os started H enc)

theorem proved : Rows.OccurAllsSaid := over
#print axioms proved
end Go.Proofs.Ytafdaiidnphbaaa.occurAlls
