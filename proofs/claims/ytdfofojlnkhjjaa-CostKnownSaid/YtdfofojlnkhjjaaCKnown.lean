/- CostKnown: the law returns true: the examples of the document. No conditions. -/
import Derived.Test.YtdfofojlnkhjjaaArgs
import Derived.Test.YtdfofojlnkhjjaaCTotR
namespace Go.Proofs.Ytdfofojlnkhjjaa.costKnown
open Go.ChangeShapes Go.WideShapes Go.ChangeAt Go.RowKit

theorem cellAt {V : World} {B : Nat} {c : Array Value} {t : TypeId} {fr : Nat × Nat} (h : V.heap[B]? = some (.cells c t fr)) (k : Nat) : V.cell? ⟨B, k, none⟩ = c[k]? := by simp [World.cell?, h]
theorem lit5 (W : World) (t : TypeId) : Pairs (W.alloc (.cells #[.int .i64 1, .int .i64 3, .int .i64 2, .int .i64 0, .int .i64 3, .int .i64 0, .int .i64 4, .int .i64 0, .int .i64 2, .int .i64 0] t)) (.slice (some ⟨W.heap.size, 0, none⟩) 5 5) [(1, 3), (2, 0), (3, 0), (4, 0), (2, 0)] := by
  refine ⟨by simp [maxLen], _, 5, rfl, .inr ⟨_, 0, rfl, by simp, fun k h => ?_⟩⟩
  have e := heap_alloc_new W (.cells #[.int .i64 1, .int .i64 3, .int .i64 2, .int .i64 0, .int .i64 3, .int .i64 0, .int .i64 4, .int .i64 0, .int .i64 2, .int .i64 0] t)
  match k, h with
  | 0, _ => exact ⟨cellAt e 0, cellAt e 1⟩
  | 1, _ => exact ⟨cellAt e 2, cellAt e 3⟩
  | 2, _ => exact ⟨cellAt e 4, cellAt e 5⟩
  | 3, _ => exact ⟨cellAt e 6, cellAt e 7⟩
  | 4, _ => exact ⟨cellAt e 8, cellAt e 9⟩

set_option maxRecDepth 100000 in
set_option maxHeartbeats 4000000 in
theorem walk (w : World) : Calls Try.prog 9 #[] w fun e w' => e = .returned (.bool true) ∧ Below w.heap.size w w' := by
  have k1 : ∀ w, Calls Try.prog 10 #[.int .i64 1] w fun e w' => e = .returned (.tuple #[.int .i64 0, .int .i64 0]) ∧ w = w' := fun w => pubMoves_p 1 w
  have k2 : ∀ w, Calls Try.prog 10 #[.int .i64 2] w fun e w' => e = .returned (.tuple #[.int .i64 1, .int .i64 0]) ∧ w = w' := fun w => pubMoves_p 2 w
  have k3 : ∀ w, Calls Try.prog 10 #[.int .i64 4] w fun e w' => e = .returned (.tuple #[.int .i64 5, .int .i64 0]) ∧ w = w' := fun w => pubMoves_p 4 w
  have k4 : ∀ w, Calls Try.prog 10 #[.int .i64 20] w fun e w' => e = .returned (.tuple #[.int .i64 69, .int .i64 0]) ∧ w = w' := fun w => pubMoves_p 20 w
  have k5 : ∀ w, Calls Try.prog 10 #[.int .i64 288] w fun e w' => e = .returned (.tuple #[.int .i64 2081, .int .i64 0]) ∧ w = w' := fun w => pubMoves_p 288 w
  have k6 : ∀ w, Calls Try.prog 16 #[cfgV 1 1 5, shpV 1 1, .int .i64 0] w fun e w' => e = .returned (.tuple #[.int .i64 16, .int .i64 0]) ∧ Below w.heap.size w w' := fun w => feed_p 1 1 5 1 1 0 w
  have k7 : ∀ w, Calls Try.prog 18 #[cfgV 1 1 5, shpV 1 1, .int .i64 0] w fun e w' => e = .returned (.tuple #[.int .i64 202, .int .i64 0]) ∧ Below w.heap.size w w' := fun w => bound_p 1 1 5 1 1 0 w
  have k8 : ∀ v w (h : Pairs w v [(1, 3), (2, 0), (3, 0), (4, 0), (2, 0)]), Calls Try.prog 27 #[cfgV 1 1 5, shpV 1 1, v] w fun e w' => e = .returned (.tuple #[.int .i64 1198, .int .i64 0]) ∧ Below w.heap.size w w' := fun v w h => by
    have := total_p 1 1 5 1 1 v _ w h
    rwa [show totV 1 1 5 1 1 [(1, 3), (2, 0), (3, 0), (4, 0), (2, 0)] = 1198 by decide +kernel, show totE 1 1 5 1 1 [(1, 3), (2, 0), (3, 0), (4, 0), (2, 0)] = 0 by decide +kernel] at this
  have k9 : ∀ w, Calls Try.prog 23 #[cfgV 1 1 5, shpV 1 1] w fun e w' => e = .returned (.tuple #[.int .i64 1600, .int .i64 0]) ∧ Below w.heap.size w w' := fun w => by
    have := most_p 1 1 5 1 1 w
    rwa [show mostV 1 1 5 1 1 = 1600 by decide +kernel, show fdE 1 1 5 1 1 1 = 0 by decide +kernel] at this
  have k10 : ∀ w, Calls Try.prog 25 #[cfgV 1 1 5, shpV 1 1, .int .i64 10000000] w fun e w' => e = .returned (.tuple #[.int .i64 32, .int .i64 0]) ∧ Below w.heap.size w w' := fun w => by
    have := kept_p 1 1 5 1 1 10000000 w
    rwa [show kpV 1 1 5 1 1 10000000 = 32 by decide +kernel, show kpE 1 1 5 1 1 10000000 = 0 by decide +kernel] at this
  have k11 : ∀ w, Calls Try.prog 25 #[cfgV 1 1 5, shpV 1 1, .int .i64 100000] w fun e w' => e = .returned (.tuple #[.int .i64 0, .int .i64 4]) ∧ Below w.heap.size w w' := fun w => by
    have := kept_p 1 1 5 1 1 100000 w
    rwa [show kpV 1 1 5 1 1 100000 = 0 by decide +kernel, show kpE 1 1 5 1 1 100000 = 4 by decide +kernel] at this
  have K1 := Lib.hid k1
  have K2 := Lib.hid k2
  have K3 := Lib.hid k3
  have K4 := Lib.hid k4
  have K5 := Lib.hid k5
  have K6 := Lib.hid k6
  have K7 := Lib.hid k7
  have K8 := Lib.hid k8
  have K9 := Lib.hid k9
  have K10 := Lib.hid k10
  have K11 := Lib.hid k11
  clear k1 k2 k3 k4 k5 k6 k7 k8 k9 k10 k11
  have HB0 := Lib.hid (((Below.refl _ w).alloc (Nat.le_refl _) (.cells #[.int .i64 1, .int .i64 2, .int .i64 4, .int .i64 20, .int .i64 288] 54)).alloc (by simp) (.cells #[.int .i64 0, .int .i64 1, .int .i64 5, .int .i64 69, .int .i64 2081] 54))
  go_enter Try.func9, Try.ntmps9
  go_wp2_with fail
  refine wp_loop_rounds 6 ?_
  rw [rounds_succ]
  go_wp2_with (go_at_call 10; refine (K1.out _).mono ?_; rintro e w' ⟨rfl, rfl⟩)
  rw [rounds_succ]
  go_wp2_with (go_at_call 10; refine (K2.out _).mono ?_; rintro e w' ⟨rfl, rfl⟩)
  rw [rounds_succ]
  go_wp2_with (go_at_call 10; refine (K3.out _).mono ?_; rintro e w' ⟨rfl, rfl⟩)
  rw [rounds_succ]
  go_wp2_with (go_at_call 10; refine (K4.out _).mono ?_; rintro e w' ⟨rfl, rfl⟩)
  rw [rounds_succ]
  go_wp2_with (go_at_call 10; refine (K5.out _).mono ?_; rintro e w' ⟨rfl, rfl⟩)
  rw [rounds_succ]
  go_wp2_with (first
    | (go_at_call 33; refine (small_p _).mono ?_; rintro e w' ⟨rfl, hb⟩; have HS := Lib.hid (next HB0.out hb); clear hb)
    | (go_at_call 34; refine (shape_p _).mono ?_; rintro e w' ⟨rfl, hb⟩; have HT := Lib.hid (next HS.out hb); clear hb))
  refine (K6.out _).mono ?_
  rintro e v1 ⟨rfl, hb⟩
  have HV1 := Lib.hid (next HT.out hb)
  clear hb
  go_wp2_with (first
    | (go_at_call 33; refine (small_p _).mono ?_; rintro e w' ⟨rfl, hb⟩; have HS := Lib.hid (next HV1.out hb); clear hb)
    | (go_at_call 34; refine (shape_p _).mono ?_; rintro e w' ⟨rfl, hb⟩; have HT := Lib.hid (next HS.out hb); clear hb))
  refine (K7.out _).mono ?_
  rintro e v2 ⟨rfl, hb⟩
  have HV2 := Lib.hid (next HT.out hb)
  clear hb
  go_wp2_with (first
    | (go_at_call 33; refine (small_p _).mono ?_; rintro e w' ⟨rfl, hb⟩; have HS := Lib.hid (next HV2.out hb); clear hb)
    | (go_at_call 34; refine (shape_p _).mono ?_; rintro e w' ⟨rfl, hb⟩; have HT := Lib.hid (next HS.out hb); clear hb))
  refine (K8.out _ _ (lit5 _ _)).mono ?_
  rintro e v3 ⟨rfl, hb⟩
  have HV3 := Lib.hid (next (HT.out.alloc HT.out.size _) hb)
  clear hb
  go_wp2_with (first
    | (go_at_call 33; refine (small_p _).mono ?_; rintro e w' ⟨rfl, hb⟩; have HS := Lib.hid (next HV3.out hb); clear hb)
    | (go_at_call 34; refine (shape_p _).mono ?_; rintro e w' ⟨rfl, hb⟩; have HT := Lib.hid (next HS.out hb); clear hb))
  refine (K9.out _).mono ?_
  rintro e v4 ⟨rfl, hb⟩
  have HV4 := Lib.hid (next HT.out hb)
  clear hb
  go_wp2_with (first
    | (go_at_call 33; refine (small_p _).mono ?_; rintro e w' ⟨rfl, hb⟩; have HS := Lib.hid (next HV4.out hb); clear hb)
    | (go_at_call 34; refine (shape_p _).mono ?_; rintro e w' ⟨rfl, hb⟩; have HT := Lib.hid (next HS.out hb); clear hb))
  refine (K10.out _).mono ?_
  rintro e v5 ⟨rfl, hb⟩
  have HV5 := Lib.hid (next HT.out hb)
  clear hb
  go_wp2_with (first
    | (go_at_call 33; refine (small_p _).mono ?_; rintro e w' ⟨rfl, hb⟩; have HS := Lib.hid (next HV5.out hb); clear hb)
    | (go_at_call 34; refine (shape_p _).mono ?_; rintro e w' ⟨rfl, hb⟩; have HT := Lib.hid (next HS.out hb); clear hb))
  refine (K11.out _).mono ?_
  rintro e v6 ⟨rfl, hb⟩
  have HV6 := Lib.hid (next HT.out hb)
  clear hb
  go_wp2_with fail
  refine (awake_p _).mono ?_
  rintro e v7 ⟨rfl, hb⟩
  have HV7 := Lib.hid (next HV6.out hb)
  clear hb
  go_wp2_with fail
  go_ret
  exact ⟨rfl, HV7.out⟩

theorem own : ownKnob Try.prog.godebug = none := by kernel_rfl
theorem laidOut : laidOutB Try.prog = true := by kernel_rfl

set_option maxRecDepth 100000 in
theorem lifted (os : Os) (started : os.Started) (H : Type) (enc : TypeId × Value → H) :
    ReturnsInHanded {} Try.checked os 9 .any (Rows.costKnownSpec.pre6 enc Try.prog Try.f9 Rows.costKnownRow.domain false) (Rows.costKnownSpec.post enc Try.prog Try.f9 false true false false) := by
  refine returnsInHanded_of_change (C := Try.checked) own started (by kernel_rfl) Try.func9
    (ChangeSpec.witness6 (enc := enc) (C := Try.checked) false ⟨#[], #[], []⟩ 8 (by kernel_rfl) (by kernel_rfl) (by kernel_rfl) (by kernel_rfl)) ?_
  intro W base args ds gs before hval0 hW hcnd _
  have hval : ∀ (j : Nat) t v, Try.f9.params[j]? = some t → args[j]? = some v → Value.okWide Try.prog W .any base t v := hval0
  have hW' := hW
  obtain ⟨p, q, hA0, hV, rfl, hfz, hnd⟩ := hW
  have hA : DataW.TrodAll enc Try.prog W 0 (fun _ => true) true Try.f9.params.toList args.toList ds p := hA0
  rw [Try.params9] at hA hval
  obtain ⟨hargs, rfl, rfl⟩ := trodAll_nil hA
  obtain rfl : args = #[] := by cases args; simp_all
  obtain ⟨rfl, rfl⟩ := trodVars_none hV
  clear hA0 hval0
  refine (walk W).mono fun e W' ⟨he, bel⟩ => ?_
  subst he
  exact ⟨_, rfl, _, _, _, [], _, [], hW', trodAll_mk1 (shut_bool Try.underlying4 _), trodAll_mk0, rfl, bel.frame _, fun h => by cases h⟩

theorem over : Rows.costKnownRow.holds Try.pinned (OpenSpec.ofChange Rows.costKnownSpec) :=
  OpenClaim.holds_of_wide 9 Try.f9 rfl rfl rfl rfl rfl rfl rfl ⟨rfl, rfl, rfl, rfl, rfl⟩ rfl rfl rfl rfl rfl (by kernel_rfl) Try.func9 (by kernel_rfl)
    (of_decide_eq_true (by kernel_rfl)) (by unfold Func.isWrapper; first | (rw [if_pos (by decide +kernel)]; kernel_rfl) | (rw [if_neg (by decide +kernel)]; exact ⟨rfl, rfl⟩))
    (fun os started H enc _ => lifted os started H enc)

theorem proved : Rows.CostKnownSaid := over
#print axioms proved
end Go.Proofs.Ytdfofojlnkhjjaa.costKnown
