/- FoldKnown: the law of the document's examples returns true. No conditions. -/
import Derived.Test.YtfgfjapjpiilfaaArgs
import Derived.Test.YtfgfjapjpiilfaaFoldH
namespace Go.Proofs.Ytfgfjapjpiilfaa.foldKnown
open Go.ChangeShapes Go.WideShapes Go.ChangeAt Go.RowKit

theorem closedL : ofL [97, 49] ||| turnS (ofL [97, 49]) = ofL [65, 49, 97] := by decide +kernel
set_option maxRecDepth 100000 in
set_option maxHeartbeats 2000000 in
theorem walk (w : World) : Calls Try.prog 5 #[] w fun e w' => e = .returned (.bool true) ∧ Below w.heap.size w w' := by
  have k1 : ∀ w, Calls Try.prog 12 #[.string ⟨#[97, 98]⟩, .string ⟨#[99]⟩] w fun e w' => e = .returned (.tuple #[.int .i64 0, .int .i64 4]) ∧ Below w.heap.size w w' := fun w => find_p [97, 98] [99] w (by decide) (by decide)
  have k2 : ∀ w, Calls Try.prog 14 #[.string ⟨#[120, 65, 98, 65, 66]⟩, .string ⟨#[97, 66]⟩] w fun e w' => ∃ v, e = .returned (.tuple #[v, .int .i64 0]) ∧ w'.ownsRow w.heap.size 3 1 v 2 (icells [1, 3]) ∧ Below w.heap.size w w' := fun w => allP [120, 65, 98, 65, 66] [97, 66] w (by decide) (by decide)
  have k3 : ∀ w, Calls Try.prog 19 #[.int .u8 81] w fun e w' => e = .returned (.int .u8 113) ∧ w = w' := fun w => lower_p 81 (by decide) w
  have k4 : ∀ w, Calls Try.prog 19 #[.int .u8 91] w fun e w' => e = .returned (.int .u8 91) ∧ w = w' := fun w => lower_p 91 (by decide) w
  have k10 : ∀ w, Calls Try.prog 20 #[setV (ofL [97, 49])] w fun e w' => e = .returned (setV (ofL [65, 49, 97])) ∧ Below w.heap.size w w' := fun w => by have := close_p (ofL [97, 49]) w; rwa [closedL] at this
  have K1 := Lib.hid k1
  have K2 := Lib.hid k2
  have K10 := Lib.hid k10
  clear k1 k2 k10
  have kc := fun (w : World) (C : Array Value) (n c : Nat) => Lib.run_convert_bytes_const (P := Try.prog) w 39 5 C n c Try.underlying39 Try.underlying5
  go_enter Try.func5, Try.ntmps5
  go_wp2_with fail
  refine (K2.out _).mono ?_
  rintro e w2 ⟨v, rfl, hown, hb2⟩
  have HR := Lib.hid (Row.of_owns hown)
  have HB2 := Lib.hid hb2
  clear hown hb2
  go_wp2_with fail
  refine (K1.out _).mono ?_
  rintro e w5 ⟨rfl, hb3⟩
  have HB5 := Lib.hid (next HB2.out hb3)
  have HR5 := Lib.hid (HR.out.below hb3)
  clear hb3
  go_wp2_with (first
    | (go_at_call 19; refine (k3 _).mono ?_; clear k3; rintro e w' ⟨rfl, rfl⟩)
    | (go_at_call 19; refine (k4 _).mono ?_; clear k4; rintro e w' ⟨rfl, rfl⟩))
  refine (of_r _ [97, 49] _ (Row.marked w5 5 1 2 _ (bcells [97, 49]) rfl (by decide))).mono ?_
  rintro e w6 ⟨rfl, hb3⟩
  have HB6 := Lib.hid (next HB5.out (next ((Below.refl _ _).alloc (Nat.le_refl _) _) hb3))
  have HR6 := Lib.hid ((HR5.out.below ((Below.refl _ _).alloc (Nat.le_refl _) _)).below hb3)
  clear hb3
  go_wp2_with fail
  refine (K10.out _).mono ?_
  rintro e w7 ⟨rfl, hb3⟩
  have HB7 := Lib.hid (next HB6.out hb3)
  have HR7 := Lib.hid (HR6.out.below hb3)
  clear hb3
  go_wp2_with fail
  refine (of_r _ [65, 49, 97] _ (Row.marked w7 5 1 3 _ (bcells [65, 49, 97]) rfl (by decide))).mono ?_
  rintro e w8 ⟨rfl, hb3⟩
  have HB8 := Lib.hid (next HB7.out (next ((Below.refl _ _).alloc (Nat.le_refl _) _) hb3))
  have HR8 := Lib.hid ((HR7.out.below ((Below.refl _ _).alloc (Nat.le_refl _) _)).below hb3)
  clear hb3 kc
  have heq := fun w => eq_set w (ofL [65, 49, 97]) (ofL [65, 49, 97])
  generalize ofL [65, 49, 97] = S at *
  unfold setV setC
  have hd : decide (S = S) = true := decide_eq_true rfl
  go_wp2_with fail
  refine (ints4 v _ [1, 3] [1, 3] _ (HR8.out.below ((Below.refl _ _).alloc (Nat.le_refl _) _)) (Row.lit w8 3 1 2 (icells [1, 3]) rfl (by decide))).mono ?_
  rintro e w9 ⟨rfl, hb3⟩
  have HB9 := Lib.hid (next HB8.out (next ((Below.refl _ _).alloc (Nat.le_refl _) _) hb3))
  clear hb3
  go_wp2_with fail
  refine (shown_p _).mono ?_
  rintro e w10 ⟨rfl, hb3⟩
  have HB10 := Lib.hid (next HB9.out hb3)
  clear hb3
  go_wp2_with fail
  go_ret
  exact ⟨rfl, HB10.out⟩

theorem own : ownKnob Try.prog.godebug = none := by kernel_rfl
theorem laidOut : laidOutB Try.prog = true := by kernel_rfl

set_option maxRecDepth 100000 in
theorem lifted (os : Os) (started : os.Started) (H : Type) (enc : TypeId × Value → H) :
    ReturnsInHanded {} Try.checked os 5 .any (Rows.foldKnownSpec.pre6 enc Try.prog Try.f5 Rows.foldKnownRow.domain false) (Rows.foldKnownSpec.post enc Try.prog Try.f5 false true false false) := by
  refine returnsInHanded_of_change (C := Try.checked) own started (by kernel_rfl) Try.func5
    (ChangeSpec.witness6 (enc := enc) (C := Try.checked) false ⟨#[], #[], []⟩ 8 (by kernel_rfl) (by kernel_rfl) (by kernel_rfl) (by kernel_rfl)) ?_
  intro W base args ds gs before hval0 hW hcnd _
  have hval : ∀ (j : Nat) t v, Try.f5.params[j]? = some t → args[j]? = some v → Value.okWide Try.prog W .any base t v := hval0
  have hW' := hW
  obtain ⟨p, q, hA0, hV, rfl, hfz, hnd⟩ := hW
  have hA : DataW.TrodAll enc Try.prog W 0 (fun _ => true) true Try.f5.params.toList args.toList ds p := hA0
  rw [Try.params5] at hA hval
  obtain ⟨hargs, rfl, rfl⟩ := trodAll_nil hA
  obtain rfl : args = #[] := by cases args; simp_all
  obtain ⟨rfl, rfl⟩ := trodVars_none hV
  clear hA0 hval0
  refine (walk W).mono fun e W' ⟨he, bel⟩ => ?_
  subst he
  exact ⟨_, rfl, _, _, _, [], _, [], hW', trodAll_mk1 (shut_bool Try.underlying4 _), trodAll_mk0, rfl, bel.frame _, fun h => by cases h⟩

theorem over : Rows.foldKnownRow.holds Try.pinned (OpenSpec.ofChange Rows.foldKnownSpec) :=
  OpenClaim.holds_of_wide 5 Try.f5 rfl rfl rfl rfl rfl rfl rfl ⟨rfl, rfl, rfl, rfl, rfl⟩ rfl rfl rfl rfl rfl (by kernel_rfl) Try.func5 (by kernel_rfl)
    (of_decide_eq_true (by kernel_rfl)) (by unfold Func.isWrapper; first | (rw [if_pos (by decide +kernel)]; kernel_rfl) | (rw [if_neg (by decide +kernel)]; exact ⟨rfl, rfl⟩))
    (fun os started H enc _ => lifted os started H enc)

theorem proved : Rows.FoldKnownSaid := over
#print axioms proved
end Go.Proofs.Ytfgfjapjpiilfaa.foldKnown
