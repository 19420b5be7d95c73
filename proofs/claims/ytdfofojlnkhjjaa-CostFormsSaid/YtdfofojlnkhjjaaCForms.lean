/- CostForms: the law returns true: Moves, Open, Block, Feed and Bound of package cost return what the reference returns. No conditions. -/
import Derived.Test.YtdfofojlnkhjjaaArgs
import Derived.Test.YtdfofojlnkhjjaaCAwake
namespace Go.Proofs.Ytdfofojlnkhjjaa.costForms
open Go.ChangeShapes Go.WideShapes Go.ChangeAt Go.RowKit

set_option maxRecDepth 100000 in
set_option maxHeartbeats 2000000 in
theorem walkN (b k l s r n : Int) (w : World) :
    Calls Try.prog 3 #[cfgV b k l, shpV s r, .int .i64 n] w fun e w' => e = .returned (.bool true) ∧ Below w.heap.size w w' := by
  have K1 := Lib.hid (fun w => pubMoves_p n w)
  have K2 := Lib.hid (fun w => pubMoves_r n w)
  have K3 := Lib.hid (fun w => open_p b k l s r w)
  have K4 := Lib.hid (fun w => open_r b k l s r w)
  have K5 := Lib.hid (fun w => blockPub_p b k l s r w)
  have K6 := Lib.hid (fun w => blockPub_r b k l s r w)
  have K7 := Lib.hid (fun w => feed_p b k l s r n w)
  have K8 := Lib.hid (fun w => feed_r b k l s r n w)
  have K9 := Lib.hid (fun w => bound_p b k l s r n w)
  have K10 := Lib.hid (fun w => bound_r b k l s r n w)
  generalize mvV n = x1 at *
  generalize mvE n = y1 at *
  generalize openV b k l s r = x2 at *
  generalize slotE b k l s r = y2 at *
  generalize blkV b k l s r = x3 at *
  generalize fdV b k l s r n = x4 at *
  generalize fdE b k l s r n = y4 at *
  generalize bndV b k l s r n = x5 at *
  obtain ⟨a1, a2, hB⟩ := two w (.cells #[.int .i64 b, .int .i64 k, .int .i64 l] 23) (.cells #[.int .i64 s, .int .i64 r] 25)
  obtain ⟨d0, d1, d2⟩ := c3 a1
  obtain ⟨d3, d4⟩ := c2 a2
  have A1 := Lib.hid a1
  have A2 := Lib.hid a2
  have HB0 := Lib.hid hB
  clear a1 a2 hB
  unfold cfgV shpV at *
  go_enter Try.func3, Try.ntmps3
  go_wp2_with fail
  refine (K1.out _).mono ?_
  rintro e w' ⟨rfl, rfl⟩
  go_wp2_with fail
  refine (K2.out _).mono ?_
  rintro e w' ⟨rfl, rfl⟩
  go_wp2_with fail
  refine (K3.out _).mono ?_
  rintro e v1 ⟨rfl, hb⟩
  clear d0 d1 d2 d3 d4
  have B11 := Lib.hid (later A1.out hb)
  have B12 := Lib.hid (later A2.out hb)
  have HV1 := Lib.hid (next HB0.out hb)
  obtain ⟨d0, d1, d2⟩ := c3 B11.out
  obtain ⟨d3, d4⟩ := c2 B12.out
  clear hb
  go_wp2_with fail
  refine (K4.out _).mono ?_
  rintro e v2 ⟨rfl, hb⟩
  clear d0 d1 d2 d3 d4
  have B21 := Lib.hid (later B11.out hb)
  have B22 := Lib.hid (later B12.out hb)
  have HV2 := Lib.hid (next HV1.out hb)
  obtain ⟨d0, d1, d2⟩ := c3 B21.out
  obtain ⟨d3, d4⟩ := c2 B22.out
  clear hb
  go_wp2_with fail
  refine (K5.out _).mono ?_
  rintro e v3 ⟨rfl, hb⟩
  clear d0 d1 d2 d3 d4
  have B31 := Lib.hid (later B21.out hb)
  have B32 := Lib.hid (later B22.out hb)
  have HV3 := Lib.hid (next HV2.out hb)
  obtain ⟨d0, d1, d2⟩ := c3 B31.out
  obtain ⟨d3, d4⟩ := c2 B32.out
  clear hb
  go_wp2_with fail
  refine (K6.out _).mono ?_
  rintro e v4 ⟨rfl, hb⟩
  clear d0 d1 d2 d3 d4
  have B41 := Lib.hid (later B31.out hb)
  have B42 := Lib.hid (later B32.out hb)
  have HV4 := Lib.hid (next HV3.out hb)
  obtain ⟨d0, d1, d2⟩ := c3 B41.out
  obtain ⟨d3, d4⟩ := c2 B42.out
  clear hb
  go_wp2_with fail
  refine (K7.out _).mono ?_
  rintro e v5 ⟨rfl, hb⟩
  clear d0 d1 d2 d3 d4
  have B51 := Lib.hid (later B41.out hb)
  have B52 := Lib.hid (later B42.out hb)
  have HV5 := Lib.hid (next HV4.out hb)
  obtain ⟨d0, d1, d2⟩ := c3 B51.out
  obtain ⟨d3, d4⟩ := c2 B52.out
  clear hb
  go_wp2_with fail
  refine (K8.out _).mono ?_
  rintro e v6 ⟨rfl, hb⟩
  clear d0 d1 d2 d3 d4
  have B61 := Lib.hid (later B51.out hb)
  have B62 := Lib.hid (later B52.out hb)
  have HV6 := Lib.hid (next HV5.out hb)
  obtain ⟨d0, d1, d2⟩ := c3 B61.out
  obtain ⟨d3, d4⟩ := c2 B62.out
  clear hb
  go_wp2_with fail
  refine (K9.out _).mono ?_
  rintro e v7 ⟨rfl, hb⟩
  clear d0 d1 d2 d3 d4
  have B71 := Lib.hid (later B61.out hb)
  have B72 := Lib.hid (later B62.out hb)
  have HV7 := Lib.hid (next HV6.out hb)
  obtain ⟨d0, d1, d2⟩ := c3 B71.out
  obtain ⟨d3, d4⟩ := c2 B72.out
  clear hb
  go_wp2_with fail
  refine (K10.out _).mono ?_
  rintro e v8 ⟨rfl, hb⟩
  clear d0 d1 d2 d3 d4
  have B81 := Lib.hid (later B71.out hb)
  have B82 := Lib.hid (later B72.out hb)
  have HV8 := Lib.hid (next HV7.out hb)
  obtain ⟨d0, d1, d2⟩ := c3 B81.out
  obtain ⟨d3, d4⟩ := c2 B82.out
  clear hb
  go_wp2_with fail
  refine (awake_p _).mono ?_
  rintro e v9 ⟨rfl, hb⟩
  have HF := Lib.hid (next HV8.out hb)
  clear hb
  go_wp2_with fail
  go_ret
  exact ⟨rfl, HF.out⟩

theorem cells3 {cs : Array Value} (h : cs.size = 3) : ∃ a b c, cs = #[a, b, c] :=
  ⟨cs[0], cs[1], cs[2], by apply Array.ext <;> simp [h]; intro i h1 h2; match i, h2 with | 0, _ => rfl | 1, _ => rfl | 2, _ => rfl⟩
theorem cells2 {cs : Array Value} (h : cs.size = 2) : ∃ a b, cs = #[a, b] :=
  ⟨cs[0], cs[1], by apply Array.ext <;> simp [h]; intro i h1 h2; match i, h2 with | 0, _ => rfl | 1, _ => rfl⟩

set_option maxRecDepth 100000 in
theorem walk (cs ds : Array Value) (n : Int) (w : World) (hz : cs.size = [3, 3, 2].length)
    (hc : ∀ (i : Nat) (u : TypeId) (x : Value), [3, 3, 2][i]? = some u → cs[i]? = some x → Cell.okWide Try.prog w .any w.heap.size u x)
    (hy : ds.size = [3, 3].length)
    (hd : ∀ (i : Nat) (u : TypeId) (x : Value), [3, 3][i]? = some u → ds[i]? = some x → Cell.okWide Try.prog w .any w.heap.size u x) (_ : IntKind.i64.has n) :
    Calls Try.prog 3 #[.agg cs, .agg ds, .int .i64 n] w fun e w' => e = .returned (.bool true) ∧ Below w.heap.size w w' := by
  obtain ⟨x0, x1, x2, rfl⟩ := cells3 hz
  obtain ⟨y0, y1, rfl⟩ := cells2 hy
  obtain ⟨b, rfl, _⟩ := cell_int Try.underlying3 (hc 0 _ _ rfl rfl)
  obtain ⟨k, rfl, _⟩ := cell_int Try.underlying3 (hc 1 _ _ rfl rfl)
  obtain ⟨l, rfl, _⟩ := cell_int Try.underlying2 (hc 2 _ _ rfl rfl)
  obtain ⟨s, rfl, _⟩ := cell_int Try.underlying3 (hd 0 _ _ rfl rfl)
  obtain ⟨r, rfl, _⟩ := cell_int Try.underlying3 (hd 1 _ _ rfl rfl)
  exact walkN b k l s r n w

theorem own : ownKnob Try.prog.godebug = none := by kernel_rfl
theorem laidOut : laidOutB Try.prog = true := by kernel_rfl

set_option maxRecDepth 100000 in
theorem lifted (os : Os) (started : os.Started) (H : Type) (enc : TypeId × Value → H) :
    ReturnsInHanded {} Try.checked os 3 .any (Rows.costFormsSpec.pre6 enc Try.prog Try.f3 Rows.costFormsRow.domain false) (Rows.costFormsSpec.post enc Try.prog Try.f3 false true false false) := by
  refine returnsInHanded_of_change (C := Try.checked) own started (by kernel_rfl) Try.func3
    (ChangeSpec.witness6 (enc := enc) (C := Try.checked) false ⟨#[], #[.agg #[.int .i64 0, .int .i64 0, .int .i64 0], .agg #[.int .i64 0, .int .i64 0], .int .i64 0], []⟩ 8 (by kernel_rfl) (by kernel_rfl) (by kernel_rfl) (by kernel_rfl)) ?_
  intro W base args ds gs before hval0 hW hcnd _
  have hval : ∀ (j : Nat) t v, Try.f3.params[j]? = some t → args[j]? = some v → Value.okWide Try.prog W .any base t v := hval0
  have hW' := hW
  obtain ⟨p, q, hA0, hV, rfl, hfz, hnd⟩ := hW
  have hA : DataW.TrodAll enc Try.prog W 0 (fun _ => true) true Try.f3.params.toList args.toList ds p := hA0
  rw [Try.params3] at hA hval
  obtain ⟨v0, vs0, d0, ds0, p0, q0, hargs, rfl, rfl, k0, r0⟩ := trodAll_cons hA
  obtain ⟨v1, vs1, d1, ds1, p1, q1, rfl, rfl, rfl, k1, r1⟩ := trodAll_cons r0
  obtain ⟨v2, vs2, d2, ds2, p2, q2, rfl, rfl, rfl, k2, r2⟩ := trodAll_cons r1
  obtain ⟨rfl, rfl, rfl⟩ := trodAll_nil r2
  obtain rfl : args = #[v0, v1, v2] := by cases args; simp_all
  obtain ⟨rfl, rfl⟩ := trodVars_none hV
  have lt0 : ∀ x ∈ p0, x.block < W.heap.size := by obtain ⟨m, hm⟩ := k0; exact DataW.trod_lt m _ _ _ hm
  have lt1 : ∀ x ∈ p1, x.block < W.heap.size := by obtain ⟨m, hm⟩ := k1; exact DataW.trod_lt m _ _ _ hm
  have lt2 : ∀ x ∈ p2, x.block < W.heap.size := by obtain ⟨m, hm⟩ := k2; exact DataW.trod_lt m _ _ _ hm
  obtain ⟨c0, rfl, z0, g0⟩ := arg_agg (ts := [3, 3, 2]) (by kernel_rfl) (by kernel_rfl) (by kernel_rfl) (hval 0 23 v0 rfl rfl)
  obtain ⟨c1, rfl, z1, g1⟩ := arg_agg (ts := [3, 3]) (by kernel_rfl) (by kernel_rfl) (by kernel_rfl) (hval 1 25 v1 rfl rfl)
  obtain ⟨a2, rfl, w2⟩ := arg_int Try.underlying3 (hval 2 3 v2 rfl rfl)
  clear hA0 hval0
  refine (walk c0 c1 a2 W z0 g0 z1 g1 w2).mono fun e W' ⟨he, bel⟩ => ?_
  subst he
  exact ⟨_, rfl, _, _, _, [], _, [], hW', trodAll_mk1 (shut_bool Try.underlying4 _), (trodAll_cons_mk (Below.trod laidOut (by kernel_rfl) (of_decide_eq_true (by kernel_rfl)) k0 bel lt0) (trodAll_cons_mk (Below.trod laidOut (by kernel_rfl) (of_decide_eq_true (by kernel_rfl)) k1 bel lt1) (trodAll_cons_mk (Below.trod laidOut (by kernel_rfl) (of_decide_eq_true (by kernel_rfl)) k2 bel lt2) trodAll_mk0))), rfl, bel.frame _, fun h => by cases h⟩

theorem over : Rows.costFormsRow.holds Try.pinned (OpenSpec.ofChange Rows.costFormsSpec) :=
  OpenClaim.holds_of_wide 3 Try.f3 rfl rfl rfl rfl rfl rfl rfl ⟨rfl, rfl, rfl, rfl, rfl⟩ rfl rfl rfl rfl rfl (by kernel_rfl) Try.func3 (by kernel_rfl)
    (of_decide_eq_true (by kernel_rfl)) (by unfold Func.isWrapper; first | (rw [if_pos (by decide +kernel)]; kernel_rfl) | (rw [if_neg (by decide +kernel)]; exact ⟨rfl, rfl⟩))
    (fun os started H enc _ => lifted os started H enc)

theorem proved : Rows.CostFormsSaid := over
#print axioms proved
end Go.Proofs.Ytdfofojlnkhjjaa.costForms
