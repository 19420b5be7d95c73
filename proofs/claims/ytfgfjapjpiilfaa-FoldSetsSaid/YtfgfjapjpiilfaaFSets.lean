/- FoldSets: the law returns true: Closed, Close and Open of package fold return what the reference returns. No conditions. -/
import Derived.Test.YtfgfjapjpiilfaaArgSet
import Derived.Test.YtfgfjapjpiilfaaFoldL
import Derived.Deep.RegionHeld3
namespace Go.Proofs.Ytfgfjapjpiilfaa.foldSets
open Go.ChangeShapes Go.WideShapes Go.ChangeAt Go.RowKit

abbrev HeldS (w : World) (B : Nat) (s : CSet) (W : World) : Prop :=
  (W.cell? ⟨B, 0, none⟩ = some (.int .u64 (word s 0 : Int)) ∧ W.cell? ⟨B, 1, none⟩ = some (.int .u64 (word s 1 : Int)) ∧ W.cell? ⟨B, 2, none⟩ = some (.int .u64 (word s 2 : Int)) ∧ W.cell? ⟨B, 3, none⟩ = some (.int .u64 (word s 3 : Int))) ∧ B < W.heap.size ∧ Below w.heap.size w W
theorem HeldS.keep {w W W' : World} {B : Nat} {s : CSet} (hb : Below W.heap.size W W') (h : HeldS w B s W) : HeldS w B s W' := by
  obtain ⟨⟨c0, c1, c2, c3⟩, hl, hB⟩ := h
  exact ⟨⟨(hb.cell (p := ⟨B, 0, none⟩) hl).trans c0, (hb.cell (p := ⟨B, 1, none⟩) hl).trans c1, (hb.cell (p := ⟨B, 2, none⟩) hl).trans c2, (hb.cell (p := ⟨B, 3, none⟩) hl).trans c3⟩, Nat.lt_of_lt_of_le hl hb.size, next hB hb⟩
theorem HeldS.fin {w W : World} {B : Nat} {s : CSet} (h : HeldS w B s W) : Below w.heap.size w W := h.2.2
theorem HeldS.start (w : World) (s : CSet) : HeldS w w.heap.size s (w.alloc (.cells (setC s) 36)).drew := by
  have := (SetAt.new w s).cells
  exact ⟨this, by simp, ((Below.refl _ _).alloc (Nat.le_refl _) _).drew⟩

set_option maxRecDepth 100000 in
set_option maxHeartbeats 2000000 in
theorem walkS (s : CSet) (w : World) :
    Calls Try.prog 6 #[setV s] w fun e w' => e = .returned (.bool true) ∧ Below w.heap.size w w' := by
  have C1 := Lib.hid (fun w => closed_p s w)
  have C2 := Lib.hid (fun w => by have := closed4 s w; rwa [close_eq] at this)
  have C3 := Lib.hid (fun w => close_p s w)
  have C4 := Lib.hid (fun w => by have := close4 s w; rwa [close_eq] at this)
  have C5 := Lib.hid (fun w => open_p s w)
  have C6 := Lib.hid (fun w => by have := open4 s w; rwa [open_eq] at this)
  have e1 : decide (s ||| turnS s = s) = decide (turnS s = s) := by
    rw [Bool.eq_iff_iff, decide_eq_true_iff, decide_eq_true_iff]
    exact closed_iff s
  rw [e1] at C2
  clear e1
  have h0 := HeldS.start w s
  have HS := Lib.hid h0
  clear h0
  have q1 := fun w => eq_set w (s ||| turnS s) (s ||| turnS s)
  have q2 := fun w => eq_set w (s &&& turnS s) (s &&& turnS s)
  have d1 : decide (s ||| turnS s = s ||| turnS s) = true := decide_eq_true rfl
  have d2 : decide (s &&& turnS s = s &&& turnS s) = true := decide_eq_true rfl
  generalize s ||| turnS s = S1 at *
  generalize s &&& turnS s = S2 at *
  generalize decide (turnS s = s) = t at *
  unfold setV setC
  go_enter Try.func6, Try.ntmps6
  go_wp2_with fail
  go_region_held3 (fun w' => HeldS w w.heap.size s w') (first | exact HS.out | exact HeldS.keep (by assumption) (by assumption)) (first
    | (go_at_call 22; refine (C1.out _).mono ?_; rintro e w' ⟨rfl, hb⟩)
    | (go_at_call 23; refine (C2.out _).mono ?_; rintro e w' ⟨rfl, hb⟩)
    | (go_at_call 20; refine (C3.out _).mono ?_; rintro e w' ⟨rfl, hb⟩; unfold setV setC)
    | (go_at_call 24; refine (C4.out _).mono ?_; rintro e w' ⟨rfl, hb⟩; unfold setV setC)
    | (go_at_call 25; refine (C5.out _).mono ?_; rintro e w' ⟨rfl, hb⟩; unfold setV setC)
    | (go_at_call 26; refine (C6.out _).mono ?_; rintro e w' ⟨rfl, hb⟩; unfold setV setC)
    | (go_at_call 11; refine (shown_p _).mono ?_; rintro e w' ⟨rfl, hb⟩))
  all_goals
    go_wp2_with fail
    go_ret
    refine ⟨rfl, HeldS.fin (B := w.heap.size) (s := s) ?_⟩
    assumption

theorem walk (cs : Array Value) (w : World) (hz : cs.size = [34, 34, 34, 34].length)
    (hc : ∀ (i : Nat) (u : TypeId) (x : Value), [34, 34, 34, 34][i]? = some u → cs[i]? = some x → Cell.okWide Try.prog w .any w.heap.size u x) :
    Calls Try.prog 6 #[.agg cs] w fun e w' => e = .returned (.bool true) ∧ Below w.heap.size w w' := by
  obtain ⟨s, hs⟩ := set_of hz hc
  rw [hs]
  exact walkS s w

theorem own : ownKnob Try.prog.godebug = none := by kernel_rfl
theorem laidOut : laidOutB Try.prog = true := by kernel_rfl

set_option maxRecDepth 100000 in
theorem lifted (os : Os) (started : os.Started) (H : Type) (enc : TypeId × Value → H) :
    ReturnsInHanded {} Try.checked os 6 .any (Rows.foldSetsSpec.pre6 enc Try.prog Try.f6 Rows.foldSetsRow.domain false) (Rows.foldSetsSpec.post enc Try.prog Try.f6 false true false false) := by
  refine returnsInHanded_of_change (C := Try.checked) own started (by kernel_rfl) Try.func6
    (ChangeSpec.witness6 (enc := enc) (C := Try.checked) false ⟨#[], #[.agg #[.int .u64 0, .int .u64 0, .int .u64 0, .int .u64 0]], []⟩ 8 (by kernel_rfl) (by kernel_rfl) (by kernel_rfl) (by kernel_rfl)) ?_
  intro W base args ds gs before hval0 hW hcnd _
  have hval : ∀ (j : Nat) t v, Try.f6.params[j]? = some t → args[j]? = some v → Value.okWide Try.prog W .any base t v := hval0
  have hW' := hW
  obtain ⟨p, q, hA0, hV, rfl, hfz, hnd⟩ := hW
  have hA : DataW.TrodAll enc Try.prog W 0 (fun _ => true) true Try.f6.params.toList args.toList ds p := hA0
  rw [Try.params6] at hA hval
  obtain ⟨v0, vs0, d0, ds0, p0, q0, hargs, rfl, rfl, k0, r0⟩ := trodAll_cons hA
  obtain ⟨rfl, rfl, rfl⟩ := trodAll_nil r0
  obtain rfl : args = #[v0] := by cases args; simp_all
  obtain ⟨rfl, rfl⟩ := trodVars_none hV
  have lt0 : ∀ x ∈ p0, x.block < W.heap.size := by obtain ⟨m, hm⟩ := k0; exact DataW.trod_lt m _ _ _ hm
  obtain ⟨c0, rfl, z0, g0⟩ := arg_agg (ts := [34, 34, 34, 34]) (by kernel_rfl) (by kernel_rfl) (by kernel_rfl) (hval 0 36 v0 rfl rfl)
  clear hA0 hval0
  refine (walk c0 W z0 g0).mono fun e W' ⟨he, bel⟩ => ?_
  subst he
  exact ⟨_, rfl, _, _, _, [], _, [], hW', trodAll_mk1 (shut_bool Try.underlying4 _), (trodAll_cons_mk (Below.trod laidOut (by kernel_rfl) (of_decide_eq_true (by kernel_rfl)) k0 bel lt0) trodAll_mk0), rfl, bel.frame _, fun h => by cases h⟩

theorem over : Rows.foldSetsRow.holds Try.pinned (OpenSpec.ofChange Rows.foldSetsSpec) :=
  OpenClaim.holds_of_wide 6 Try.f6 rfl rfl rfl rfl rfl rfl rfl ⟨rfl, rfl, rfl, rfl, rfl⟩ rfl rfl rfl rfl rfl (by kernel_rfl) Try.func6 (by kernel_rfl)
    (of_decide_eq_true (by kernel_rfl)) (by unfold Func.isWrapper; first | (rw [if_pos (by decide +kernel)]; kernel_rfl) | (rw [if_neg (by decide +kernel)]; exact ⟨rfl, rfl⟩))
    (fun os started H enc _ => lifted os started H enc)

theorem proved : Rows.FoldSetsSaid := over
#print axioms proved
end Go.Proofs.Ytfgfjapjpiilfaa.foldSets
