/- CostSums: the law returns true: the steps of two pieces are those of both, and 6 K + 10; with more there are more. No conditions. -/
import Derived.Test.YtdfofojlnkhjjaaCSumA
namespace Go.Proofs.Ytdfofojlnkhjjaa.costSums
open Go.ChangeShapes Go.WideShapes Go.ChangeAt Go.RowKit

set_option maxRecDepth 100000 in
set_option maxHeartbeats 2000000 in
theorem walk_bad (b k l s r x y : Int) (hx : 0 ≤ x ∧ x < 65536) (hy : 0 ≤ y ∧ y < 65536) (hbw : IntKind.i64.has b) (F : slotOk b k l s r = false) (w : World) :
    Calls Try.prog 5 #[cfgV b k l, shpV s r, .agg #[.int .u16 x, .int .u16 y]] w fun e w' => e = .returned (.bool true) ∧ Below w.heap.size w w' := by
  have F' : ¬ slotOk b k l s r = true := by rw [F]; simp
  have K := Lib.hid (fun n w => by
    have := feed_p b k l s r n w
    rwa [show fdV b k l s r n = 0 by unfold fdV fdE; rw [if_neg F', if_neg (by omega)], show fdE b k l s r n = 7 by unfold fdE; rw [if_neg F']] at this)
  clear F F'
  obtain ⟨hS1, hS2, hS3, hS⟩ := three w (.cells #[.int .i64 b, .int .i64 k, .int .i64 l] 23) (.cells #[.int .i64 s, .int .i64 r] 25) (.cells #[.int .u16 x, .int .u16 y] 34)
  obtain ⟨d0, d1, d2⟩ := c3 hS1
  obtain ⟨d3, d4⟩ := c2 hS2
  obtain ⟨d5, d6⟩ := c2 hS3
  obtain ⟨nx, hnx⟩ : ∃ nx, nx = x % 500 := ⟨_, rfl⟩
  obtain ⟨m, hm⟩ : ∃ m, m = y % 500 := ⟨_, rfl⟩
  have t1 : x.tmod 500 = nx := by rw [Int.tmod_eq_emod_of_nonneg hx.1, hnx]
  have t2 : y.tmod 500 = m := by rw [Int.tmod_eq_emod_of_nonneg hy.1, hm]
  have x0 : 0 ≤ nx ∧ nx < 500 := by omega
  have y0 : 0 ≤ m ∧ m < 500 := by omega
  have J := Lib.hid (show HeldC w w.heap.size b k l s r (((w.alloc (.cells #[.int .i64 b, .int .i64 k, .int .i64 l] 23)).alloc (.cells #[.int .i64 s, .int .i64 r] 25)).alloc (.cells #[.int .u16 x, .int .u16 y] 34)) from ⟨⟨⟨d0, d1, d2⟩, d3, d4⟩, by simp, hS⟩)
  have q1 : IntKind.i64.wrap x = x := IntWalk.i64_in _ (by omega)
  have q2 : IntKind.i64.wrap y = y := IntWalk.i64_in _ (by omega)
  clear hnx hm
  unfold cfgV shpV at *
  by_cases hb0 : 0 < b
  · obtain ⟨nd, hnd⟩ : ∃ nd, nd = nx / b := ⟨_, rfl⟩
    have t3 : nx.tdiv b = nd := by rw [Int.tdiv_eq_ediv_of_nonneg x0.1, hnd]
    have n0 : 0 ≤ nd * b ∧ nd * b < 500 := by
      have h1 : 0 ≤ nd := by rw [hnd]; exact Int.ediv_nonneg x0.1 (by omega)
      have h2 : nd * b ≤ nx := by rw [hnd]; exact Int.ediv_mul_le nx (by omega)
      have h3 : 0 ≤ nd * b := Int.mul_nonneg h1 (by omega)
      omega
    have hnd0 : 0 ≤ nd ∧ nd < 500 := by
      have h1 : 0 ≤ nd := by rw [hnd]; exact Int.ediv_nonneg x0.1 (by omega)
      have h2 : nd ≤ nx := by rw [hnd]; exact Int.ediv_le_self _ x0.1
      omega
    have t4 : IntKind.i64.wrap nd = nd := IntWalk.i64_in _ (by omega)
    have t5 : IntKind.i64.wrap (nd * b) = nd * b := IntWalk.i64_in _ (by omega)
    have j4 : (b == 0) = false := by simp; omega
    have j5 : ¬ b = 0 := by omega
    clear hnd
    go_enter Try.func5, Try.ntmps5
    go_wp2_with fail
    go_quiet (fail)
    go_wp2_with fail
    go_quiet (fail)
    generalize nd * b = n at *
    clear t1 t2 t3 t4 t5 q1 q2
    go_wp2_with fail
    refine (K.out _ _).mono ?_
    rintro e u1 ⟨rfl, hb⟩
    clear d0 d1 d2 d3 d4 d5 d6
    have J1 := Lib.hid (HeldC.keep' hb (HeldC.drewN J.out _) rfl)
    obtain ⟨⟨⟨d0, d1, d2⟩, d3, d4⟩, _⟩ := J1.out
    clear hb
    go_wp2_with fail
    refine (K.out _ _).mono ?_
    rintro e u2 ⟨rfl, hb⟩
    clear d0 d1 d2 d3 d4
    have J2 := Lib.hid (HeldC.keep hb J1.out)
    obtain ⟨⟨⟨d0, d1, d2⟩, d3, d4⟩, _⟩ := J2.out
    clear hb
    go_wp2_with fail
    refine (K.out _ _).mono ?_
    rintro e u3 ⟨rfl, hb⟩
    clear d0 d1 d2 d3 d4
    have J3 := Lib.hid (HeldC.keep hb J2.out)
    clear hb
    go_wp2_with fail
    refine (awake_p _).mono ?_
    rintro e u4 ⟨rfl, hb⟩
    have JB := Lib.hid (HeldC.keep hb J3.out)
    clear hb
    go_wp2_with fail
    go_ret
    exact ⟨rfl, JB.out.2.2⟩
  · go_enter Try.func5, Try.ntmps5
    go_wp2_with fail
    go_quiet (fail)
    clear t1 t2 q1 q2
    go_wp2_with fail
    refine (K.out _ _).mono ?_
    rintro e u1 ⟨rfl, hb⟩
    clear d0 d1 d2 d3 d4 d5 d6
    have J1 := Lib.hid (HeldC.keep' hb (HeldC.drewN J.out _) rfl)
    obtain ⟨⟨⟨d0, d1, d2⟩, d3, d4⟩, _⟩ := J1.out
    clear hb
    go_wp2_with fail
    refine (K.out _ _).mono ?_
    rintro e u2 ⟨rfl, hb⟩
    clear d0 d1 d2 d3 d4
    have J2 := Lib.hid (HeldC.keep hb J1.out)
    obtain ⟨⟨⟨d0, d1, d2⟩, d3, d4⟩, _⟩ := J2.out
    clear hb
    go_wp2_with fail
    refine (K.out _ _).mono ?_
    rintro e u3 ⟨rfl, hb⟩
    clear d0 d1 d2 d3 d4
    have J3 := Lib.hid (HeldC.keep hb J2.out)
    clear hb
    go_wp2_with fail
    refine (awake_p _).mono ?_
    rintro e u4 ⟨rfl, hb⟩
    have JB := Lib.hid (HeldC.keep hb J3.out)
    clear hb
    go_wp2_with fail
    go_ret
    exact ⟨rfl, JB.out.2.2⟩

theorem cells3 {cs : Array Value} (h : cs.size = 3) : ∃ a b c, cs = #[a, b, c] :=
  ⟨cs[0], cs[1], cs[2], by apply Array.ext <;> simp [h]; intro i h1 h2; match i, h2 with | 0, _ => rfl | 1, _ => rfl | 2, _ => rfl⟩
theorem cells2 {cs : Array Value} (h : cs.size = 2) : ∃ a b, cs = #[a, b] :=
  ⟨cs[0], cs[1], by apply Array.ext <;> simp [h]; intro i h1 h2; match i, h2 with | 0, _ => rfl | 1, _ => rfl⟩

set_option maxRecDepth 100000 in
theorem walk (cs ds es : Array Value) (w : World) (hz : cs.size = [3, 3, 2].length)
    (hc : ∀ (i : Nat) (u : TypeId) (x : Value), [3, 3, 2][i]? = some u → cs[i]? = some x → Cell.okWide Try.prog w .any w.heap.size u x)
    (hy : ds.size = [3, 3].length)
    (hd : ∀ (i : Nat) (u : TypeId) (x : Value), [3, 3][i]? = some u → ds[i]? = some x → Cell.okWide Try.prog w .any w.heap.size u x)
    (hy' : es.size = [33, 33].length)
    (he : ∀ (i : Nat) (u : TypeId) (x : Value), [33, 33][i]? = some u → es[i]? = some x → Cell.okWide Try.prog w .any w.heap.size u x) :
    Calls Try.prog 5 #[.agg cs, .agg ds, .agg es] w fun e w' => e = .returned (.bool true) ∧ Below w.heap.size w w' := by
  obtain ⟨x0, x1, x2, rfl⟩ := cells3 hz
  obtain ⟨y0, y1, rfl⟩ := cells2 hy
  obtain ⟨z0, z1, rfl⟩ := cells2 hy'
  obtain ⟨b, rfl, hb⟩ := cell_int Try.underlying3 (hc 0 _ _ rfl rfl)
  obtain ⟨k, rfl, _⟩ := cell_int Try.underlying3 (hc 1 _ _ rfl rfl)
  obtain ⟨l, rfl, _⟩ := cell_int Try.underlying2 (hc 2 _ _ rfl rfl)
  obtain ⟨s, rfl, _⟩ := cell_int Try.underlying3 (hd 0 _ _ rfl rfl)
  obtain ⟨r, rfl, _⟩ := cell_int Try.underlying3 (hd 1 _ _ rfl rfl)
  obtain ⟨x, rfl, hx⟩ := cell_int Try.underlying33 (he 0 _ _ rfl rfl)
  obtain ⟨y, rfl, hyy⟩ := cell_int Try.underlying33 (he 1 _ _ rfl rfl)
  have hx' : 0 ≤ x ∧ x < 65536 := by simp [IntKind.has, IntKind.min, IntKind.max, IntKind.signed, IntKind.bits] at hx; omega
  have hy'' : 0 ≤ y ∧ y < 65536 := by simp [IntKind.has, IntKind.min, IntKind.max, IntKind.signed, IntKind.bits] at hyy; omega
  cases h : slotOk b k l s r
  · exact walk_bad b k l s r x y hx' hy'' hb h w
  · exact walk_ok b k l s r x y hx' hy'' h w

theorem own : ownKnob Try.prog.godebug = none := by kernel_rfl
theorem laidOut : laidOutB Try.prog = true := by kernel_rfl

set_option maxRecDepth 100000 in
theorem lifted (os : Os) (started : os.Started) (H : Type) (enc : TypeId × Value → H) :
    ReturnsInHanded {} Try.checked os 5 .any (Rows.costSumsSpec.pre6 enc Try.prog Try.f5 Rows.costSumsRow.domain false) (Rows.costSumsSpec.post enc Try.prog Try.f5 false true false false) := by
  refine returnsInHanded_of_change (C := Try.checked) own started (by kernel_rfl) Try.func5
    (ChangeSpec.witness6 (enc := enc) (C := Try.checked) false ⟨#[], #[.agg #[.int .i64 0, .int .i64 0, .int .i64 0], .agg #[.int .i64 0, .int .i64 0], .agg #[.int .u16 0, .int .u16 0]], []⟩ 8 (by kernel_rfl) (by kernel_rfl) (by kernel_rfl) (by kernel_rfl)) ?_
  intro W base args ds gs before hval0 hW hcnd _
  have hval : ∀ (j : Nat) t v, Try.f5.params[j]? = some t → args[j]? = some v → Value.okWide Try.prog W .any base t v := hval0
  have hW' := hW
  obtain ⟨p, q, hA0, hV, rfl, hfz, hnd⟩ := hW
  have hA : DataW.TrodAll enc Try.prog W 0 (fun _ => true) true Try.f5.params.toList args.toList ds p := hA0
  rw [Try.params5] at hA hval
  obtain ⟨v0, vs0, d0, ds0, p0, q0, hargs, rfl, rfl, k0, r0⟩ := trodAll_cons hA
  obtain ⟨v1, vs1, d1, ds1, p1, q1, rfl, rfl, rfl, k1, r1⟩ := trodAll_cons r0
  obtain ⟨v2, vs2, d2, ds2, p2, q2, rfl, rfl, rfl, k2, r2⟩ := trodAll_cons r1
  obtain ⟨rfl, rfl, rfl⟩ := trodAll_nil r2
  obtain rfl : args = #[v0, v1, v2] := by cases args; simp_all
  obtain ⟨rfl, rfl⟩ := trodVars_none hV
  have lt0 : ∀ x ∈ p0, x.block < W.heap.size := by obtain ⟨m, hm⟩ := k0; exact DataW.trod_lt m _ _ _ hm
  have lt1 : ∀ x ∈ p1, x.block < W.heap.size := by obtain ⟨m, hm⟩ := k1; exact DataW.trod_lt m _ _ _ hm
  have lt2 : ∀ x ∈ p2, x.block < W.heap.size := by obtain ⟨m, hm⟩ := k2; exact DataW.trod_lt m _ _ _ hm
  obtain ⟨c0, rfl, z0, g0⟩ := arg_agg (ts := [3, 3, 2]) (by kernel_rfl) (by kernel_rfl) (by kernel_rfl) (hval 0 23 v0 rfl rfl)
  obtain ⟨c1, rfl, z1, g1⟩ := arg_agg (ts := [3, 3]) (by kernel_rfl) (by kernel_rfl) (by kernel_rfl) (hval 1 25 v1 rfl rfl)
  obtain ⟨c2, rfl, z2, g2⟩ := arg_agg (ts := [33, 33]) (by kernel_rfl) (by kernel_rfl) (by kernel_rfl) (hval 2 34 v2 rfl rfl)
  clear hA0 hval0
  refine (walk c0 c1 c2 W z0 g0 z1 g1 z2 g2).mono fun e W' ⟨he, bel⟩ => ?_
  subst he
  exact ⟨_, rfl, _, _, _, [], _, [], hW', trodAll_mk1 (shut_bool Try.underlying4 _), (trodAll_cons_mk (Below.trod laidOut (by kernel_rfl) (of_decide_eq_true (by kernel_rfl)) k0 bel lt0) (trodAll_cons_mk (Below.trod laidOut (by kernel_rfl) (of_decide_eq_true (by kernel_rfl)) k1 bel lt1) (trodAll_cons_mk (Below.trod laidOut (by kernel_rfl) (of_decide_eq_true (by kernel_rfl)) k2 bel lt2) trodAll_mk0))), rfl, bel.frame _, fun h => by cases h⟩

theorem over : Rows.costSumsRow.holds Try.pinned (OpenSpec.ofChange Rows.costSumsSpec) :=
  OpenClaim.holds_of_wide 5 Try.f5 rfl rfl rfl rfl rfl rfl rfl ⟨rfl, rfl, rfl, rfl, rfl⟩ rfl rfl rfl rfl rfl (by kernel_rfl) Try.func5 (by kernel_rfl)
    (of_decide_eq_true (by kernel_rfl)) (by unfold Func.isWrapper; first | (rw [if_pos (by decide +kernel)]; kernel_rfl) | (rw [if_neg (by decide +kernel)]; exact ⟨rfl, rfl⟩))
    (fun os started H enc _ => lifted os started H enc)

theorem proved : Rows.CostSumsSaid := over
#print axioms proved
end Go.Proofs.Ytdfofojlnkhjjaa.costSums
