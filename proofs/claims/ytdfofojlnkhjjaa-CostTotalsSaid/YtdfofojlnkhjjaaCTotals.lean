/- CostTotals: the law returns true: Total returns what the reference returns. No conditions. -/
import Derived.Test.YtdfofojlnkhjjaaCArgP
import Derived.Test.YtdfofojlnkhjjaaCTotR
namespace Go.Proofs.Ytdfofojlnkhjjaa.costTotals
open Go.ChangeShapes Go.WideShapes Go.ChangeAt Go.RowKit

set_option maxRecDepth 100000 in
set_option maxHeartbeats 2000000 in
theorem walkN (b k l s r : Int) (v : Value) (L : List (Int × Int)) (w : World) (hv : Pairs w v L) :
    Calls Try.prog 7 #[cfgV b k l, shpV s r, v] w fun e w' => e = .returned (.bool true) ∧ Below w.heap.size w w' := by
  have K1 := Lib.hid (fun w h => total_p b k l s r v L w h)
  have K2 := Lib.hid (fun w h => total_r b k l s r v L w h)
  have HP := Lib.hid (Plain.start w b k l s r)
  obtain ⟨hm, av, capv, rfl, _⟩ := id hv
  have HV := Lib.hid hv
  generalize totV b k l s r L = x1 at *
  generalize totE b k l s r L = y1 at *
  clear hv
  unfold maxLen at hm
  by_cases hl : 210 < L.length
  · have t1 : (210 : Int) < (L.length : Int) := by omega
    unfold cfgV shpV at *
    go_enter Try.func7, Try.ntmps7
    go_wp2_with fail
    refine (awake_p _).mono ?_
    rintro e w9 ⟨rfl, hb⟩
    have P9 := Lib.hid (HP.out.keep hb rfl)
    clear hb
    go_wp2_with fail
    go_ret
    exact ⟨rfl, P9.out.bel⟩
  · have t1 : ¬ (210 : Int) < (L.length : Int) := by omega
    obtain ⟨⟨d0, d1, d2⟩, ⟨d3, d4⟩, _⟩ := HP.out.cells
    unfold cfgV shpV at *
    go_enter Try.func7, Try.ntmps7
    go_wp2_with fail
    refine (K1.out _ (HV.out.below HP.out.bel)).mono ?_
    rintro e w1 ⟨rfl, hb⟩
    have P1 := Lib.hid (HP.out.keep hb rfl)
    clear d0 d1 d2 d3 d4 hb
    obtain ⟨⟨d0, d1, d2⟩, ⟨d3, d4⟩, _⟩ := P1.out.cells
    go_wp2_with fail
    refine (K2.out _ (HV.out.below P1.out.bel)).mono ?_
    rintro e w2 ⟨rfl, hb⟩
    have P2 := Lib.hid (P1.out.keep hb rfl)
    clear d0 d1 d2 d3 d4 hb
    go_wp2_with fail
    refine (awake_p _).mono ?_
    rintro e w9 ⟨rfl, hb⟩
    have P9 := Lib.hid (P2.out.keep hb rfl)
    clear hb
    go_wp2_with fail
    go_ret
    exact ⟨rfl, P9.out.bel⟩

theorem cells3 {cs : Array Value} (h : cs.size = 3) : ∃ a b c, cs = #[a, b, c] :=
  ⟨cs[0], cs[1], cs[2], by apply Array.ext <;> simp [h]; intro i h1 h2; match i, h2 with | 0, _ => rfl | 1, _ => rfl | 2, _ => rfl⟩
theorem cells2 {cs : Array Value} (h : cs.size = 2) : ∃ a b, cs = #[a, b] :=
  ⟨cs[0], cs[1], by apply Array.ext <;> simp [h]; intro i h1 h2; match i, h2 with | 0, _ => rfl | 1, _ => rfl⟩

set_option maxRecDepth 100000 in
theorem walk {H : Type} {enc : TypeId × Value → H} {d : DataW H} {p : List MemPlace} {base : Nat} (cs ds : Array Value) (v : Value) (w : World) (hz : cs.size = [3, 3, 2].length)
    (hc : ∀ (i : Nat) (u : TypeId) (x : Value), [3, 3, 2][i]? = some u → cs[i]? = some x → Cell.okWide Try.prog w .any base u x)
    (hy : ds.size = [3, 3].length)
    (hd : ∀ (i : Nat) (u : TypeId) (x : Value), [3, 3][i]? = some u → ds[i]? = some x → Cell.okWide Try.prog w .any base u x)
    (hk : DataW.Trod enc Try.prog w 0 (fun _ => true) true 38 v d p) (hv : Value.okWide Try.prog w .any base 38 v) :
    Calls Try.prog 7 #[.agg cs, .agg ds, v] w fun e w' => e = .returned (.bool true) ∧ Below w.heap.size w w' := by
  obtain ⟨x0, x1, x2, rfl⟩ := cells3 hz
  obtain ⟨y0, y1, rfl⟩ := cells2 hy
  obtain ⟨b, rfl, _⟩ := cell_int Try.underlying3 (hc 0 _ _ rfl rfl)
  obtain ⟨k, rfl, _⟩ := cell_int Try.underlying3 (hc 1 _ _ rfl rfl)
  obtain ⟨l, rfl, _⟩ := cell_int Try.underlying2 (hc 2 _ _ rfl rfl)
  obtain ⟨s, rfl, _⟩ := cell_int Try.underlying3 (hd 0 _ _ rfl rfl)
  obtain ⟨r, rfl, _⟩ := cell_int Try.underlying3 (hd 1 _ _ rfl rfl)
  obtain ⟨m, hm⟩ := hk
  obtain ⟨L, hL⟩ := pairs_of (okWide_slice Try.underlying38 hv) hm
  exact walkN b k l s r v L w hL

theorem own : ownKnob Try.prog.godebug = none := by kernel_rfl
theorem laidOut : laidOutB Try.prog = true := by kernel_rfl

set_option maxRecDepth 100000 in
theorem lifted (os : Os) (started : os.Started) (H : Type) (enc : TypeId × Value → H) :
    ReturnsInHanded {} Try.checked os 7 .any (Rows.costTotalsSpec.pre6 enc Try.prog Try.f7 Rows.costTotalsRow.domain false) (Rows.costTotalsSpec.post enc Try.prog Try.f7 false true false false) := by
  refine returnsInHanded_of_change (C := Try.checked) own started (by kernel_rfl) Try.func7
    (ChangeSpec.witness6 (enc := enc) (C := Try.checked) false ⟨#[], #[.agg #[.int .i64 0, .int .i64 0, .int .i64 0], .agg #[.int .i64 0, .int .i64 0], .slice none 0 0], []⟩ 8 (by kernel_rfl) (by kernel_rfl) (by kernel_rfl) (by kernel_rfl)) ?_
  intro W base args ds gs before hval0 hW hcnd _
  have hval : ∀ (j : Nat) t v, Try.f7.params[j]? = some t → args[j]? = some v → Value.okWide Try.prog W .any base t v := hval0
  have hW' := hW
  obtain ⟨p, q, hA0, hV, rfl, hfz, hnd⟩ := hW
  have hA : DataW.TrodAll enc Try.prog W 0 (fun _ => true) true Try.f7.params.toList args.toList ds p := hA0
  rw [Try.params7] at hA hval
  obtain ⟨v0, vs0, d0, ds0, p0, q0, hargs, rfl, rfl, k0, r0⟩ := trodAll_cons hA
  obtain ⟨v1, vs1, d1, ds1, p1, q1, rfl, rfl, rfl, k1, r1⟩ := trodAll_cons r0
  obtain ⟨v2, vs2, d2, ds2, p2, q2, rfl, rfl, rfl, k2, r2⟩ := trodAll_cons r1
  obtain ⟨rfl, rfl, rfl⟩ := trodAll_nil r2
  obtain rfl : args = #[v0, v1, v2] := by cases args; simp_all
  obtain ⟨rfl, rfl⟩ := trodVars_none hV
  have lt0 : ∀ x ∈ p0, x.block < W.heap.size := by obtain ⟨m, hm⟩ := k0; exact DataW.trod_lt m _ _ _ hm
  have lt1 : ∀ x ∈ p1, x.block < W.heap.size := by obtain ⟨m, hm⟩ := k1; exact DataW.trod_lt m _ _ _ hm
  have lt2 : ∀ x ∈ p2, x.block < W.heap.size := by obtain ⟨m, hm⟩ := k2; exact DataW.trod_lt m _ _ _ hm
  obtain ⟨c0, rfl, z0, g0⟩ := arg_agg (ts := [3, 3, 2]) (by kernel_rfl) (by kernel_rfl) (by kernel_rfl) (hval 0 23 v0 rfl rfl)
  obtain ⟨c1, rfl, z1, g1⟩ := arg_agg (ts := [3, 3]) (by kernel_rfl) (by kernel_rfl) (by kernel_rfl) (hval 1 25 v1 rfl rfl)
  clear hA0 hval0
  refine (walk c0 c1 v2 W z0 g0 z1 g1 k2 (hval 2 38 v2 rfl rfl)).mono fun e W' ⟨he, bel⟩ => ?_
  subst he
  exact ⟨_, rfl, _, _, _, [], _, [], hW', trodAll_mk1 (shut_bool Try.underlying4 _), (trodAll_cons_mk (Below.trod laidOut (by kernel_rfl) (of_decide_eq_true (by kernel_rfl)) k0 bel lt0) (trodAll_cons_mk (Below.trod laidOut (by kernel_rfl) (of_decide_eq_true (by kernel_rfl)) k1 bel lt1) (trodAll_cons_mk (Below.trod laidOut (by kernel_rfl) (of_decide_eq_true (by kernel_rfl)) k2 bel lt2) trodAll_mk0))), rfl, bel.frame _, fun h => by cases h⟩

theorem over : Rows.costTotalsRow.holds Try.pinned (OpenSpec.ofChange Rows.costTotalsSpec) :=
  OpenClaim.holds_of_wide 7 Try.f7 rfl rfl rfl rfl rfl rfl rfl ⟨rfl, rfl, rfl, rfl, rfl⟩ rfl rfl rfl rfl rfl (by kernel_rfl) Try.func7 (by kernel_rfl)
    (of_decide_eq_true (by kernel_rfl)) (by unfold Func.isWrapper; first | (rw [if_pos (by decide +kernel)]; kernel_rfl) | (rw [if_neg (by decide +kernel)]; exact ⟨rfl, rfl⟩))
    (fun os started H enc _ => lifted os started H enc)

theorem proved : Rows.CostTotalsSaid := over
#print axioms proved
end Go.Proofs.Ytdfofojlnkhjjaa.costTotals
