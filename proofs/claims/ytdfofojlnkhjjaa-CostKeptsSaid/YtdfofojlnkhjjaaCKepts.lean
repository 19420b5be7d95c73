/- CostKepts: the law returns true: Most and Kept return what the reference returns; Kept's Keep is the greatest one. No conditions. -/
import Derived.Test.YtdfofojlnkhjjaaArgs
import Derived.Test.YtdfofojlnkhjjaaCKeptP
namespace Go.Proofs.Ytdfofojlnkhjjaa.costKepts
open Go.ChangeShapes Go.WideShapes Go.ChangeAt Go.RowKit

theorem feed1000_p {b k l s r : Int} (hz : slotOk b k l s r = true) {h : Int} (h1 : 1 ≤ h) (h2 : h ≤ 32) (w : World) :
    Calls Try.prog 16 #[cfgV b h l, shpV s r, .int .i64 1000] w fun e w' => e = .returned (.tuple #[.int .i64 (stepsAt b s r h), .int .i64 0]) ∧ Below w.heap.size w w' := by
  obtain ⟨e1, e2⟩ := fd1000 hz h1 h2
  have := feed_p b h l s r 1000 w
  rwa [e1, e2] at this

/-- what Kept's answer says -/
theorem kept_says {b k l s r st : Int} (h : kpE b k l s r st = 0) : ∃ K : Int, kpV b k l s r st = K ∧ 1 ≤ K ∧ K ≤ 32 ∧ slotOk b k l s r = true ∧ stepsAt b s r K ≤ st ∧ (K < 32 → st < stepsAt b s r (K + 1)) := by
  unfold kpE at h
  split at h
  · have hz : slotOk b k l s r = true := by assumption
    split at h
    · omega
    · split at h
      · omega
      · have hn : keptN (stepsAt b s r) st 32 ≠ 0 := by assumption
        have hle := keptN_le (stepsAt b s r) st 32
        refine ⟨_, by unfold kpV; rw [if_pos ⟨hz, by omega⟩], by omega, by omega, hz, keptN_spec _ _ _ hn, fun hlt => ?_⟩
        have := keptN_next (stepsAt b s r) st 32 (by omega) fun h hh => Int.le_of_lt (steps_up (fine hz) (by omega) (by omega))
        omega
  · omega

set_option maxRecDepth 100000 in
set_option maxHeartbeats 2000000 in
theorem walkN (b k l s r n : Int) (w : World) :
    Calls Try.prog 6 #[cfgV b k l, shpV s r, .int .i64 n] w fun e w' => e = .returned (.bool true) ∧ Below w.heap.size w w' := by
  have K1 := Lib.hid (fun w => most_p b k l s r w)
  have K2 := Lib.hid (fun w => most_r b k l s r w)
  have K3 := Lib.hid (fun w => kept_p b k l s r n w)
  have K4 := Lib.hid (fun w => kept_r b k l s r n w)
  have HP := Lib.hid (Plain.start w b k l s r)
  generalize mostV b k l s r = x1 at *
  generalize fdE b k l s r 1 = y1 at *
  by_cases hg : kpE b k l s r n = 0
  · obtain ⟨K, hK, k1, k2, hz, hs1, hs2⟩ := kept_says hg
    rw [hg, hK] at K3 K4
    have K5 := Lib.hid (fun w => feed1000_p hz k1 k2 w)
    by_cases h32 : K = 32
    · subst h32
      clear hs2 hg hK hz
      generalize stepsAt b s r 32 = A at *
      have t1 : ¬ n < A := by omega
      obtain ⟨⟨d0, d1, d2⟩, ⟨d3, d4⟩, _⟩ := HP.out.cells
      unfold cfgV shpV at *
      go_enter Try.func6, Try.ntmps6
      go_wp2_with fail
      refine (K1.out _).mono ?_
      rintro e w1 ⟨rfl, hb⟩
      have P1 := Lib.hid (HP.out.keep hb rfl)
      clear d0 d1 d2 d3 d4 hb
      obtain ⟨⟨d0, d1, d2⟩, ⟨d3, d4⟩, _⟩ := P1.out.cells
      go_wp2_with fail
      refine (K2.out _).mono ?_
      rintro e w2 ⟨rfl, hb⟩
      have P2 := Lib.hid (P1.out.keep hb rfl)
      clear d0 d1 d2 d3 d4 hb
      obtain ⟨⟨d0, d1, d2⟩, ⟨d3, d4⟩, _⟩ := P2.out.cells
      go_wp2_with fail
      refine (K3.out _).mono ?_
      rintro e w3 ⟨rfl, hb⟩
      have P3 := Lib.hid (P2.out.keep hb rfl)
      clear d0 d1 d2 d3 d4 hb
      obtain ⟨⟨d0, d1, d2⟩, ⟨d3, d4⟩, _⟩ := P3.out.cells
      go_wp2_with fail
      refine (K4.out _).mono ?_
      rintro e w4 ⟨rfl, hb⟩
      have P4 := Lib.hid (P3.out.keep hb rfl)
      clear d0 d1 d2 d3 d4 hb
      obtain ⟨⟨d0, d1, d2⟩, ⟨d3, d4⟩, f1⟩ := P4.out.cells
      have P5 := Lib.hid (P4.out.put 32)
      go_wp2_with fail
      refine (K5.out _).mono ?_
      rintro e w5 ⟨rfl, hb⟩
      have P6 := Lib.hid (P5.out.keep hb rfl)
      clear d0 d1 d2 d3 d4 f1 hb
      go_wp2_with fail
      refine (awake_p _).mono ?_
      rintro e w6 ⟨rfl, hb⟩
      have P7 := Lib.hid (P6.out.keep hb rfl)
      clear hb
      go_wp2_with fail
      go_ret
      exact ⟨rfl, P7.out.bel⟩
    · have K6 := Lib.hid (fun w => feed1000_p hz (h := K + 1) (by omega) (by omega) w)
      have h32' : (K == 32) = false := by simp; omega
      have hs3 := hs2 (by omega)
      clear hs2 hg hK hz
      generalize stepsAt b s r K = A at *
      generalize stepsAt b s r (K + 1) = A' at *
      have t1 : ¬ n < A := by omega
      have t2 : IntKind.i64.wrap (K + 1) = K + 1 := IntWalk.i64_in _ (by omega)
      obtain ⟨⟨d0, d1, d2⟩, ⟨d3, d4⟩, _⟩ := HP.out.cells
      unfold cfgV shpV at *
      go_enter Try.func6, Try.ntmps6
      go_wp2_with fail
      refine (K1.out _).mono ?_
      rintro e w1 ⟨rfl, hb⟩
      have P1 := Lib.hid (HP.out.keep hb rfl)
      clear d0 d1 d2 d3 d4 hb
      obtain ⟨⟨d0, d1, d2⟩, ⟨d3, d4⟩, _⟩ := P1.out.cells
      go_wp2_with fail
      refine (K2.out _).mono ?_
      rintro e w2 ⟨rfl, hb⟩
      have P2 := Lib.hid (P1.out.keep hb rfl)
      clear d0 d1 d2 d3 d4 hb
      obtain ⟨⟨d0, d1, d2⟩, ⟨d3, d4⟩, _⟩ := P2.out.cells
      go_wp2_with fail
      refine (K3.out _).mono ?_
      rintro e w3 ⟨rfl, hb⟩
      have P3 := Lib.hid (P2.out.keep hb rfl)
      clear d0 d1 d2 d3 d4 hb
      obtain ⟨⟨d0, d1, d2⟩, ⟨d3, d4⟩, _⟩ := P3.out.cells
      go_wp2_with fail
      refine (K4.out _).mono ?_
      rintro e w4 ⟨rfl, hb⟩
      have P4 := Lib.hid (P3.out.keep hb rfl)
      clear d0 d1 d2 d3 d4 hb
      obtain ⟨⟨d0, d1, d2⟩, ⟨d3, d4⟩, f1⟩ := P4.out.cells
      have P5 := Lib.hid (P4.out.put K)
      go_wp2_with fail
      refine (K5.out _).mono ?_
      rintro e w5 ⟨rfl, hb⟩
      have P6 := Lib.hid (P5.out.keep hb rfl)
      clear d0 d1 d2 d3 d4 f1 hb
      obtain ⟨⟨d0, d1, d2⟩, ⟨d3, d4⟩, f1⟩ := P6.out.cells
      have P7 := Lib.hid (P6.out.put (K + 1))
      go_wp2_with fail
      refine (K6.out _).mono ?_
      rintro e w6 ⟨rfl, hb⟩
      have P8 := Lib.hid (P7.out.keep hb rfl)
      clear d0 d1 d2 d3 d4 f1 hb
      go_wp2_with fail
      refine (awake_p _).mono ?_
      rintro e w7 ⟨rfl, hb⟩
      have P9 := Lib.hid (P8.out.keep hb rfl)
      clear hb
      go_wp2_with fail
      go_ret
      exact ⟨rfl, P9.out.bel⟩
  · generalize kpV b k l s r n = x2 at *
    generalize kpE b k l s r n = y2 at *
    have hg' : (y2 != 0) = true := bne_iff_ne.2 hg
    clear hg
    obtain ⟨⟨d0, d1, d2⟩, ⟨d3, d4⟩, _⟩ := HP.out.cells
    unfold cfgV shpV at *
    go_enter Try.func6, Try.ntmps6
    go_wp2_with fail
    refine (K1.out _).mono ?_
    rintro e w1 ⟨rfl, hb⟩
    have P1 := Lib.hid (HP.out.keep hb rfl)
    clear d0 d1 d2 d3 d4 hb
    obtain ⟨⟨d0, d1, d2⟩, ⟨d3, d4⟩, _⟩ := P1.out.cells
    go_wp2_with fail
    refine (K2.out _).mono ?_
    rintro e w2 ⟨rfl, hb⟩
    have P2 := Lib.hid (P1.out.keep hb rfl)
    clear d0 d1 d2 d3 d4 hb
    obtain ⟨⟨d0, d1, d2⟩, ⟨d3, d4⟩, _⟩ := P2.out.cells
    go_wp2_with fail
    refine (K3.out _).mono ?_
    rintro e w3 ⟨rfl, hb⟩
    have P3 := Lib.hid (P2.out.keep hb rfl)
    clear d0 d1 d2 d3 d4 hb
    obtain ⟨⟨d0, d1, d2⟩, ⟨d3, d4⟩, _⟩ := P3.out.cells
    go_wp2_with fail
    refine (K4.out _).mono ?_
    rintro e w4 ⟨rfl, hb⟩
    have P4 := Lib.hid (P3.out.keep hb rfl)
    clear d0 d1 d2 d3 d4 hb
    go_wp2_with fail
    refine (awake_p _).mono ?_
    rintro e w7 ⟨rfl, hb⟩
    have P9 := Lib.hid (P4.out.keep hb rfl)
    clear hb
    go_wp2_with fail
    go_ret
    exact ⟨rfl, P9.out.bel⟩

theorem cells3 {cs : Array Value} (h : cs.size = 3) : ∃ a b c, cs = #[a, b, c] :=
  ⟨cs[0], cs[1], cs[2], by apply Array.ext <;> simp [h]; intro i h1 h2; match i, h2 with | 0, _ => rfl | 1, _ => rfl | 2, _ => rfl⟩
theorem cells2 {cs : Array Value} (h : cs.size = 2) : ∃ a b, cs = #[a, b] :=
  ⟨cs[0], cs[1], by apply Array.ext <;> simp [h]; intro i h1 h2; match i, h2 with | 0, _ => rfl | 1, _ => rfl⟩

set_option maxRecDepth 100000 in
theorem walk (cs ds : Array Value) (n : Int) (w : World) (hz : cs.size = [3, 3, 2].length)
    (hc : ∀ (i : Nat) (u : TypeId) (x : Value), [3, 3, 2][i]? = some u → cs[i]? = some x → Cell.okWide Try.prog w .any w.heap.size u x)
    (hy : ds.size = [3, 3].length)
    (hd : ∀ (i : Nat) (u : TypeId) (x : Value), [3, 3][i]? = some u → ds[i]? = some x → Cell.okWide Try.prog w .any w.heap.size u x) (_ : IntKind.i64.has n) :
    Calls Try.prog 6 #[.agg cs, .agg ds, .int .i64 n] w fun e w' => e = .returned (.bool true) ∧ Below w.heap.size w w' := by
  obtain ⟨x0, x1, x2, rfl⟩ := cells3 hz
  obtain ⟨y0, y1, rfl⟩ := cells2 hy
  obtain ⟨b, rfl, _⟩ := cell_int Try.underlying3 (hc 0 _ _ rfl rfl)
  obtain ⟨k, rfl, _⟩ := cell_int Try.underlying3 (hc 1 _ _ rfl rfl)
  obtain ⟨l, rfl, _⟩ := cell_int Try.underlying2 (hc 2 _ _ rfl rfl)
  obtain ⟨s, rfl, _⟩ := cell_int Try.underlying3 (hd 0 _ _ rfl rfl)
  obtain ⟨r, rfl, _⟩ := cell_int Try.underlying3 (hd 1 _ _ rfl rfl)
  exact walkN b k l s r n w

theorem own : ownKnob Try.prog.godebug = none := by kernel_rfl
theorem laidOut : laidOutB Try.prog = true := by kernel_rfl

set_option maxRecDepth 100000 in
theorem lifted (os : Os) (started : os.Started) (H : Type) (enc : TypeId × Value → H) :
    ReturnsInHanded {} Try.checked os 6 .any (Rows.costKeptsSpec.pre6 enc Try.prog Try.f6 Rows.costKeptsRow.domain false) (Rows.costKeptsSpec.post enc Try.prog Try.f6 false true false false) := by
  refine returnsInHanded_of_change (C := Try.checked) own started (by kernel_rfl) Try.func6
    (ChangeSpec.witness6 (enc := enc) (C := Try.checked) false ⟨#[], #[.agg #[.int .i64 0, .int .i64 0, .int .i64 0], .agg #[.int .i64 0, .int .i64 0], .int .i64 0], []⟩ 8 (by kernel_rfl) (by kernel_rfl) (by kernel_rfl) (by kernel_rfl)) ?_
  intro W base args ds gs before hval0 hW hcnd _
  have hval : ∀ (j : Nat) t v, Try.f6.params[j]? = some t → args[j]? = some v → Value.okWide Try.prog W .any base t v := hval0
  have hW' := hW
  obtain ⟨p, q, hA0, hV, rfl, hfz, hnd⟩ := hW
  have hA : DataW.TrodAll enc Try.prog W 0 (fun _ => true) true Try.f6.params.toList args.toList ds p := hA0
  rw [Try.params6] at hA hval
  obtain ⟨v0, vs0, d0, ds0, p0, q0, hargs, rfl, rfl, k0, r0⟩ := trodAll_cons hA
  obtain ⟨v1, vs1, d1, ds1, p1, q1, rfl, rfl, rfl, k1, r1⟩ := trodAll_cons r0
  obtain ⟨v2, vs2, d2, ds2, p2, q2, rfl, rfl, rfl, k2, r2⟩ := trodAll_cons r1
  obtain ⟨rfl, rfl, rfl⟩ := trodAll_nil r2
  obtain rfl : args = #[v0, v1, v2] := by cases args; simp_all
  obtain ⟨rfl, rfl⟩ := trodVars_none hV
  have lt0 : ∀ x ∈ p0, x.block < W.heap.size := by obtain ⟨m, hm⟩ := k0; exact DataW.trod_lt m _ _ _ hm
  have lt1 : ∀ x ∈ p1, x.block < W.heap.size := by obtain ⟨m, hm⟩ := k1; exact DataW.trod_lt m _ _ _ hm
  have lt2 : ∀ x ∈ p2, x.block < W.heap.size := by obtain ⟨m, hm⟩ := k2; exact DataW.trod_lt m _ _ _ hm
  obtain ⟨c0, rfl, z0, g0⟩ := arg_agg (ts := [3, 3, 2]) (by kernel_rfl) (by kernel_rfl) (by kernel_rfl) (hval 0 23 v0 rfl rfl)
  obtain ⟨c1, rfl, z1, g1⟩ := arg_agg (ts := [3, 3]) (by kernel_rfl) (by kernel_rfl) (by kernel_rfl) (hval 1 25 v1 rfl rfl)
  obtain ⟨a2, rfl, w2⟩ := arg_int Try.underlying3 (hval 2 3 v2 rfl rfl)
  clear hA0 hval0
  refine (walk c0 c1 a2 W z0 g0 z1 g1 w2).mono fun e W' ⟨he, bel⟩ => ?_
  subst he
  exact ⟨_, rfl, _, _, _, [], _, [], hW', trodAll_mk1 (shut_bool Try.underlying4 _), (trodAll_cons_mk (Below.trod laidOut (by kernel_rfl) (of_decide_eq_true (by kernel_rfl)) k0 bel lt0) (trodAll_cons_mk (Below.trod laidOut (by kernel_rfl) (of_decide_eq_true (by kernel_rfl)) k1 bel lt1) (trodAll_cons_mk (Below.trod laidOut (by kernel_rfl) (of_decide_eq_true (by kernel_rfl)) k2 bel lt2) trodAll_mk0))), rfl, bel.frame _, fun h => by cases h⟩

theorem over : Rows.costKeptsRow.holds Try.pinned (OpenSpec.ofChange Rows.costKeptsSpec) :=
  OpenClaim.holds_of_wide 6 Try.f6 rfl rfl rfl rfl rfl rfl rfl ⟨rfl, rfl, rfl, rfl, rfl⟩ rfl rfl rfl rfl rfl (by kernel_rfl) Try.func6 (by kernel_rfl)
    (of_decide_eq_true (by kernel_rfl)) (by unfold Func.isWrapper; first | (rw [if_pos (by decide +kernel)]; kernel_rfl) | (rw [if_neg (by decide +kernel)]; exact ⟨rfl, rfl⟩))
    (fun os started H enc _ => lifted os started H enc)

theorem proved : Rows.CostKeptsSaid := over
#print axioms proved
end Go.Proofs.Ytdfofojlnkhjjaa.costKepts
