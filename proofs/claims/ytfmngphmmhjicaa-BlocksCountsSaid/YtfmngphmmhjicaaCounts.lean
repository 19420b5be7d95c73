/- BlocksCounts: for any four numbers the law returns true and its argument reads as it did. No conditions. -/
import Derived.Test.YtfmngphmmhjicaaArgs
import Derived.Test.YtfmngphmmhjicaaBlkAwake
import Derived.Deep.RegionHeld3
namespace Go.Proofs.Ytfmngphmmhjicaa.blocksCounts
open Go.ChangeShapes Go.WideShapes Go.ChangeAt Go.RowKit

set_option maxHeartbeats 1000000 in
theorem walk4 (n b p i : Int) (w : World) :
    Calls Try.prog 6 #[.agg #[.int .i64 n, .int .i64 b, .int .i64 p, .int .i64 i]] w fun e w' => e = .returned (.bool true) ∧ Below w.heap.size w w' := by
  go_enter Try.func6, Try.ntmps6
  go_wp2_with (first
    | (go_at_call 13; refine (many_p _ _ _).mono ?_; rintro e w' ⟨rfl, rfl⟩)
    | (go_at_call 16; refine (many_r _ _ _).mono ?_; rintro e w' ⟨rfl, rfl⟩)
    | (go_at_call 14; refine (padding_p _ _ _).mono ?_; rintro e w' ⟨rfl, rfl⟩)
    | (go_at_call 17; refine (padding_r _ _ _).mono ?_; rintro e w' ⟨rfl, rfl⟩)
    | (go_at_call 18; refine (real_p _ _ _ _ _).mono ?_; rintro e w' ⟨rfl, rfl⟩)
    | (go_at_call 19; refine (real_r _ _ _ _ _).mono ?_; rintro e w' ⟨rfl, rfl⟩))
  generalize manyV n b = m, lenE n b = e1, padV n b = pd, realV n b p i = rv, realE n b p i = re
  have hcp := check_p b
  have hcr := check_r b
  generalize chk b = ck at hcp hcr
  have HCP := Lib.hid hcp
  have HCR := Lib.hid hcr
  clear hcp hcr
  go_region_held3 (fun w' => w'.cell? ⟨w.heap.size, 1, none⟩ = some (.int .i64 b)) (go_keep) (first
    | (go_at_call 20; refine (HCP.out _).mono ?_; rintro e w' ⟨rfl, rfl⟩)
    | (go_at_call 21; refine (HCR.out _).mono ?_; rintro e w' ⟨rfl, rfl⟩)
    | (go_at_call 9; refine (awake_p _).mono ?_; rintro e w' ⟨rfl, hb⟩; have hq := hb.cell (p := ⟨w.heap.size, 1, none⟩) (by simp); have HB := Lib.hid hb; clear hb))
  all_goals
    go_wp2
    go_ret
    refine ⟨by simp, next (((Below.refl _ _).alloc (Nat.le_refl _) _).drew) HB.out⟩

theorem walk (cs : Array Value) (w : World) (hz : cs.size = [3, 3, 3, 3].length)
    (hc : ∀ (i : Nat) (u : TypeId) (x : Value), [3, 3, 3, 3][i]? = some u → cs[i]? = some x → Cell.okWide Try.prog w .any w.heap.size u x) :
    Calls Try.prog 6 #[.agg cs] w fun e w' => e = .returned (.bool true) ∧ Below w.heap.size w w' := by
  obtain ⟨x0, x1, x2, x3, rfl⟩ := cells4 hz
  obtain ⟨n, rfl, _⟩ := cell_int Try.underlying3 (hc 0 _ _ rfl rfl)
  obtain ⟨b, rfl, _⟩ := cell_int Try.underlying3 (hc 1 _ _ rfl rfl)
  obtain ⟨p, rfl, _⟩ := cell_int Try.underlying3 (hc 2 _ _ rfl rfl)
  obtain ⟨i, rfl, _⟩ := cell_int Try.underlying3 (hc 3 _ _ rfl rfl)
  exact walk4 n b p i w

theorem own : ownKnob Try.prog.godebug = none := by kernel_rfl
theorem laidOut : laidOutB Try.prog = true := by kernel_rfl

set_option maxRecDepth 100000 in
theorem lifted (os : Os) (started : os.Started) (H : Type) (enc : TypeId × Value → H) :
    ReturnsInHanded {} Try.checked os 6 .any (Rows.blocksCountsSpec.pre6 enc Try.prog Try.f6 Rows.blocksCountsRow.domain false) (Rows.blocksCountsSpec.post enc Try.prog Try.f6 false true false false) := by
  refine returnsInHanded_of_change (C := Try.checked) own started (by kernel_rfl) Try.func6
    (ChangeSpec.witness6 (enc := enc) (C := Try.checked) false ⟨#[], #[.agg #[.int .i64 0, .int .i64 0, .int .i64 0, .int .i64 0]], []⟩ 8 (by kernel_rfl) (by kernel_rfl) (by kernel_rfl) (by kernel_rfl)) ?_
  intro W base args ds gs before hval0 hW hcnd _
  have hval : ∀ (j : Nat) t v, Try.f6.params[j]? = some t → args[j]? = some v → Value.okWide Try.prog W .any base t v := hval0
  have hW' := hW
  obtain ⟨p, q, hA0, hV, rfl, hfz, hnd⟩ := hW
  have hA : DataW.TrodAll enc Try.prog W 0 (fun _ => true) true Try.f6.params.toList args.toList ds p := hA0
  rw [Try.params6] at hA hval
  obtain ⟨v0, vs0, d0, ds0, p0, q0, hargs, rfl, rfl, k0, r0⟩ := trodAll_cons hA
  obtain ⟨rfl, rfl, rfl⟩ := trodAll_nil r0
  obtain rfl : args = #[v0] := by cases args; simp_all
  obtain ⟨rfl, rfl⟩ := trodVars_none hV
  have lt0 : ∀ x ∈ p0, x.block < W.heap.size := by obtain ⟨m, hm⟩ := k0; exact DataW.trod_lt m _ _ _ hm
  obtain ⟨c0, rfl, z0, g0⟩ := arg_agg (ts := [3, 3, 3, 3]) (by kernel_rfl) (by kernel_rfl) (by kernel_rfl) (hval 0 30 v0 rfl rfl)
  clear hA0 hval0
  refine (walk c0 W z0 g0).mono fun e W' ⟨he, bel⟩ => ?_
  subst he
  exact ⟨_, rfl, _, _, _, [], _, [], hW', trodAll_mk1 (shut_bool Try.underlying4 _), (trodAll_cons_mk (Below.trod laidOut (by kernel_rfl) (of_decide_eq_true (by kernel_rfl)) k0 bel lt0) trodAll_mk0), rfl, bel.frame _, fun h => by cases h⟩

theorem over : Rows.blocksCountsRow.holds Try.pinned (OpenSpec.ofChange Rows.blocksCountsSpec) :=
  OpenClaim.holds_of_wide 6 Try.f6 rfl rfl rfl rfl rfl rfl rfl ⟨rfl, rfl, rfl, rfl, rfl⟩ rfl rfl rfl rfl rfl (by kernel_rfl) Try.func6 (by kernel_rfl)
    (of_decide_eq_true (by kernel_rfl)) (by unfold Func.isWrapper; first | (rw [if_pos (by decide +kernel)]; kernel_rfl) | (rw [if_neg (by decide +kernel)]; exact ⟨rfl, rfl⟩))
    (fun os started H enc _ => lifted os started H enc)

theorem proved : Rows.BlocksCountsSaid := over
#print axioms proved
end Go.Proofs.Ytfmngphmmhjicaa.blocksCounts
