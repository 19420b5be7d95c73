/- BlocksKnown: the law of the document's examples returns true. No conditions. -/
import Derived.Test.YtfmngphmmhjicaaArgs
import Derived.Test.YtfmngphmmhjicaaBlkAwake
import Derived.Test.YtfmngphmmhjicaaBlkEnd
namespace Go.Proofs.Ytfmngphmmhjicaa.blocksKnown
open Go.ChangeShapes Go.WideShapes Go.ChangeAt Go.RowKit

theorem two {w : World} {g cap : Nat} {p q : Part} (h : Parts w (.slice (some ⟨g, 0, none⟩) 2 cap) [p, q]) :
    w.cell? ⟨g, 0, none⟩ = some (.string (str p.1)) ∧ w.cell? ⟨g, 1, none⟩ = some (.int .i64 p.2.1) ∧ w.cell? ⟨g, 2, none⟩ = some (.int .i64 p.2.2) ∧
    w.cell? ⟨g, 3, none⟩ = some (.string (str q.1)) ∧ w.cell? ⟨g, 4, none⟩ = some (.int .i64 q.2.1) ∧ w.cell? ⟨g, 5, none⟩ = some (.int .i64 q.2.2) := by
  obtain ⟨_, _, a, c, e, h3⟩ := h
  cases e
  rcases h3 with h3 | ⟨g', o, e, hc⟩
  · simp at h3
  · cases e
    have k := fun j hj => hc j hj
    simp only [Nat.zero_add, List.length_cons, List.length_nil] at k
    exact ⟨k 0 (by omega), k 1 (by omega), k 2 (by omega), k 3 (by omega), k 4 (by omega), k 5 (by omega)⟩

set_option maxHeartbeats 2000000 in
set_option maxRecDepth 100000 in
theorem walk (w : World) :
    Calls Try.prog 8 #[] w fun e w' => e = .returned (.bool true) ∧ Below w.heap.size w w' := by
  have m0 : manyV 0 4 = 0 := by decide
  have m1 : manyV 1 4 = 1 := by decide
  have m4 : manyV 4 4 = 1 := by decide
  have m5 : manyV 5 4 = 2 := by decide
  have l0 : lenE 0 4 = 0 := by decide
  have l1 : lenE 1 4 = 0 := by decide
  have l4 : lenE 4 4 = 0 := by decide
  have l5 : lenE 5 4 = 0 := by decide
  have p0 : padV 0 4 = 0 := by decide
  have p1 : padV 1 4 = 3 := by decide
  have p4 : padV 4 4 = 0 := by decide
  have p5 : padV 5 4 = 3 := by decide
  go_enter Try.func8, Try.ntmps8
  go_wp2_with fail
  refine wp_loop_rounds 5 ?_
  rw [rounds_succ]
  go_wp2_with (first | (go_at_call 13; refine (many_p _ _ _).mono ?_; rintro e w' ⟨rfl, rfl⟩) | (go_at_call 14; refine (padding_p _ _ _).mono ?_; rintro e w' ⟨rfl, rfl⟩))
  rw [rounds_succ]
  go_wp2_with (first | (go_at_call 13; refine (many_p _ _ _).mono ?_; rintro e w' ⟨rfl, rfl⟩) | (go_at_call 14; refine (padding_p _ _ _).mono ?_; rintro e w' ⟨rfl, rfl⟩))
  rw [rounds_succ]
  go_wp2_with (first | (go_at_call 13; refine (many_p _ _ _).mono ?_; rintro e w' ⟨rfl, rfl⟩) | (go_at_call 14; refine (padding_p _ _ _).mono ?_; rintro e w' ⟨rfl, rfl⟩))
  rw [rounds_succ]
  go_wp2_with (first | (go_at_call 13; refine (many_p _ _ _).mono ?_; rintro e w' ⟨rfl, rfl⟩) | (go_at_call 14; refine (padding_p _ _ _).mono ?_; rintro e w' ⟨rfl, rfl⟩))
  rw [rounds_succ]
  go_wp2_with (first | (go_at_call 13; refine (many_p _ _ _).mono ?_; rintro e w' ⟨rfl, rfl⟩) | (go_at_call 14; refine (padding_p _ _ _).mono ?_; rintro e w' ⟨rfl, rfl⟩))
  obtain ⟨W0, hW0⟩ : ∃ W0 : World, W0 = ((w.alloc (.cells #[.int .i64 0, .int .i64 1, .int .i64 4, .int .i64 5] 45)).alloc (.cells #[.int .i64 0, .int .i64 1, .int .i64 1, .int .i64 2] 45)).alloc (.cells #[.int .i64 0, .int .i64 3, .int .i64 0, .int .i64 3] 45) := ⟨_, rfl⟩
  have hB0 : Below w.heap.size w W0 := by rw [hW0]; exact (((Below.refl _ _).alloc (Nat.le_refl _) _).alloc (by simp) _).alloc (by simp; omega) _
  rw [← hW0]
  clear hW0
  refine (split_p [97, 98, 99, 100, 101] 4 10 _ (by decide)).mono ?_
  rintro e w1 ⟨v, rfl, hown, hb1⟩
  rw [show splitE ([97, 98, 99, 100, 101] : List UInt8).length 4 10 = 0 from by decide]
  rw [show parts [97, 98, 99, 100, 101] 4 10 = [([97, 98, 99, 100], 4, 10), ([101, 0, 0, 0], 1, 14)] from by decide] at hown
  obtain ⟨g, cap, rfl⟩ := ownsRow_succ hown
  have HP1 := Lib.hid (show Parts w1 _ [([97, 98, 99, 100], 4, 10), ([101, 0, 0, 0], 1, 14)] from Row.of_owns hown)
  have HB1 := Lib.hid (next hB0 hb1)
  clear hown hb1 hB0
  obtain ⟨c0, c1, c2, c3, c4, c5⟩ := two HP1.out
  go_wp2_with fail
  refine (end_p ([97, 98, 99, 100], 4, 10) 3 _ (by decide)).mono ?_
  rintro e w2 ⟨rfl, hb2⟩
  rw [show endV ([97, 98, 99, 100], 4, 10) 3 = 14 from by decide, show endE ([97, 98, 99, 100], 4, 10) 3 = 0 from by decide]
  have HP2 := Lib.hid (HP1.out.below hb2)
  have HB2 := Lib.hid (next HB1.out hb2)
  obtain ⟨x0, x1, x2, x3, x4, x5⟩ := two HP2.out
  clear hb2 c0 c1 c2 c3 c4 c5
  obtain ⟨c0, c1, c2, c3, c4, c5⟩ := two HP2.out
  clear x0 x1 x2 x3 x4 x5
  go_wp2_with fail
  refine (end_p ([101, 0, 0, 0], 1, 14) 0 _ (by decide)).mono ?_
  rintro e w3 ⟨rfl, hb3⟩
  rw [show endV ([101, 0, 0, 0], 1, 14) 0 = 15 from by decide, show endE ([101, 0, 0, 0], 1, 14) 0 = 0 from by decide]
  have HP3 := Lib.hid (HP2.out.below hb3)
  have HB3 := Lib.hid (next HB2.out hb3)
  obtain ⟨x0, x1, x2, x3, x4, x5⟩ := two HP3.out
  clear hb3 c0 c1 c2 c3 c4 c5
  obtain ⟨c0, c1, c2, c3, c4, c5⟩ := two HP3.out
  clear x0 x1 x2 x3 x4 x5
  go_wp2_with fail
  refine (end_p ([101, 0, 0, 0], 1, 14) 1 _ (by decide)).mono ?_
  rintro e w4 ⟨rfl, hb4⟩
  rw [show endV ([101, 0, 0, 0], 1, 14) 1 = 0 from by decide, show endE ([101, 0, 0, 0], 1, 14) 1 = 4 from by decide]
  have HP4 := Lib.hid (HP3.out.below hb4)
  have HB4 := Lib.hid (next HB3.out hb4)
  obtain ⟨x0, x1, x2, x3, x4, x5⟩ := two HP4.out
  clear hb4 c0 c1 c2 c3 c4 c5
  obtain ⟨c0, c1, c2, c3, c4, c5⟩ := two HP4.out
  clear x0 x1 x2 x3 x4 x5
  clear c0 c1 c2 c3 c4 c5
  go_wp2_with fail
  refine (real_p 5 4 1 0 _).mono ?_
  rintro e w' ⟨rfl, rfl⟩
  rw [show realV 5 4 1 0 = true from by decide, show realE 5 4 1 0 = 0 from by decide]
  go_wp2_with fail
  refine (real_p 5 4 1 1 _).mono ?_
  rintro e w' ⟨rfl, rfl⟩
  rw [show realV 5 4 1 1 = false from by decide, show realE 5 4 1 1 = 0 from by decide]
  go_wp2_with fail
  refine (real_p 5 4 2 0 _).mono ?_
  rintro e w' ⟨rfl, rfl⟩
  rw [show realV 5 4 2 0 = false from by decide, show realE 5 4 2 0 = 4 from by decide]
  go_wp2_with fail
  refine (many_p 1001 16 _).mono ?_
  rintro e w' ⟨rfl, rfl⟩
  rw [show manyV 1001 16 = 0 from by decide, show lenE 1001 16 = 3 from by decide]
  go_wp2_with fail
  refine (split_p [] 4 0 _ (by decide)).mono ?_
  rintro e w5 ⟨v5, rfl, hown, hb5⟩
  rw [show splitE ([] : List UInt8).length 4 0 = 0 from by decide]
  rw [show parts [] 4 0 = [] from by decide] at hown
  have HB5 := Lib.hid (next HB4.out hb5)
  obtain ⟨a5, cap5, rfl⟩ : ∃ a5 cap5, v5 = .slice a5 0 cap5 := by
    obtain ⟨_, _, a5, cap5, e, _⟩ := Row.of_owns hown
    exact ⟨a5, cap5, e⟩
  clear hown hb5
  go_wp2_with fail
  refine (check_p 3 _).mono ?_
  rintro e w' ⟨rfl, rfl⟩
  rw [show chk 3 = 7 from by decide]
  go_wp2_with fail
  refine (awake_p _).mono ?_
  rintro e w6 ⟨rfl, hb6⟩
  have HB6 := Lib.hid (next HB5.out hb6)
  clear hb6
  go_wp2_with fail
  go_ret
  exact ⟨rfl, HB6.out⟩

theorem own : ownKnob Try.prog.godebug = none := by kernel_rfl
theorem laidOut : laidOutB Try.prog = true := by kernel_rfl

set_option maxRecDepth 100000 in
theorem lifted (os : Os) (started : os.Started) (H : Type) (enc : TypeId × Value → H) :
    ReturnsInHanded {} Try.checked os 8 .any (Rows.blocksKnownSpec.pre6 enc Try.prog Try.f8 Rows.blocksKnownRow.domain false) (Rows.blocksKnownSpec.post enc Try.prog Try.f8 false true false false) := by
  refine returnsInHanded_of_change (C := Try.checked) own started (by kernel_rfl) Try.func8
    (ChangeSpec.witness6 (enc := enc) (C := Try.checked) false ⟨#[], #[], []⟩ 8 (by kernel_rfl) (by kernel_rfl) (by kernel_rfl) (by kernel_rfl)) ?_
  intro W base args ds gs before hval0 hW hcnd _
  have hval : ∀ (j : Nat) t v, Try.f8.params[j]? = some t → args[j]? = some v → Value.okWide Try.prog W .any base t v := hval0
  have hW' := hW
  obtain ⟨p, q, hA0, hV, rfl, hfz, hnd⟩ := hW
  have hA : DataW.TrodAll enc Try.prog W 0 (fun _ => true) true Try.f8.params.toList args.toList ds p := hA0
  rw [Try.params8] at hA hval
  obtain ⟨hargs, rfl, rfl⟩ := trodAll_nil hA
  obtain rfl : args = #[] := by cases args; simp_all
  obtain ⟨rfl, rfl⟩ := trodVars_none hV
  clear hA0 hval0
  refine (walk W).mono fun e W' ⟨he, bel⟩ => ?_
  subst he
  exact ⟨_, rfl, _, _, _, [], _, [], hW', trodAll_mk1 (shut_bool Try.underlying4 _), trodAll_mk0, rfl, bel.frame _, fun h => by cases h⟩

theorem over : Rows.blocksKnownRow.holds Try.pinned (OpenSpec.ofChange Rows.blocksKnownSpec) :=
  OpenClaim.holds_of_wide 8 Try.f8 rfl rfl rfl rfl rfl rfl rfl ⟨rfl, rfl, rfl, rfl, rfl⟩ rfl rfl rfl rfl rfl (by kernel_rfl) Try.func8 (by kernel_rfl)
    (of_decide_eq_true (by kernel_rfl)) (by unfold Func.isWrapper; first | (rw [if_pos (by decide +kernel)]; kernel_rfl) | (rw [if_neg (by decide +kernel)]; exact ⟨rfl, rfl⟩))
    (fun os started H enc _ => lifted os started H enc)

theorem proved : Rows.BlocksKnownSaid := over
#print axioms proved
end Go.Proofs.Ytfmngphmmhjicaa.blocksKnown
