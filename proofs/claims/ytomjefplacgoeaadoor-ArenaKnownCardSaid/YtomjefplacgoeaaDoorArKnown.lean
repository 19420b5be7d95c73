/- ArenaKnown: the examples of the document. Printed by tools/gen_ark.py. -/
import Derived.Test.YtomjefplacgoeaaDoorArAwake
import Derived.Test.YtomjefplacgoeaaDoorDLaid
import Derived.Test.YtomjefplacgoeaaDoorTie
import Derived.Test.YtomjefplacgoeaaDoorCards
import Derived.SevenTiedAt
namespace Go.Proofs.YtomjefplacgoeaaDoor.arenaKnown
open Go.ChangeShapes Go.WideShapes Go.ChangeAt Go.RowKit

set_option maxRecDepth 100000 in
set_option maxHeartbeats 20000000 in
theorem walk (w : World) :
    Calls Tryd.prog 5 #[] w fun e w' => e = .returned (.bool true) ∧ Below w.heap.size w w' := by
  have KN := Lib.hid (new_o (w := w) 4 (by omega) (by omega))
  go_enter Tryd.func5, Tryd.ntmps5
  go_wp2_with fail
  refine KN.out.mono ?_
  rintro e w0 ⟨A, F0, rfl, hO, _⟩
  rw [show List.replicate 4 0 = [0, 0, 0, 0] by rfl] at hO
  clear KN
  have K1 := Lib.hid (region_o [97] (by decide) 2 (regsOk_nil _) hO)
  rw [show regV ([0, 0, 0, 0] : List Nat).length [] [97] 2 = [([97], 0, 2)] by decide +kernel, show regB ([0, 0, 0, 0] : List Nat).length [] [97] 2 = 0 by decide +kernel, show regE ([0, 0, 0, 0] : List Nat).length [] [97] 2 = 0 by decide +kernel] at K1
  clear hO
  go_wp2_with fail
  refine K1.out.mono ?_
  rintro e w1 ⟨rfl, F1, hO, -⟩
  have K2 := Lib.hid (region_o [98] (by decide) 3 (rs := [([97], 0, 2)]) (by intro r hr; simp at hr; first | (rcases hr with rfl | rfl <;> simp) | (subst hr; simp)) hO)
  rw [show regV ([0, 0, 0, 0] : List Nat).length [([97], 0, 2)] [98] 3 = [([97], 0, 2)] by decide +kernel, show regB ([0, 0, 0, 0] : List Nat).length [([97], 0, 2)] [98] 3 = 0 by decide +kernel, show regE ([0, 0, 0, 0] : List Nat).length [([97], 0, 2)] [98] 3 = 5 by decide +kernel] at K2
  clear hO K1
  go_wp2_with fail
  refine K2.out.mono ?_
  rintro e w2 ⟨rfl, F2, hO, -⟩
  have K3 := Lib.hid (region_o [98] (by decide) 2 (rs := [([97], 0, 2)]) (by intro r hr; simp at hr; first | (rcases hr with rfl | rfl <;> simp) | (subst hr; simp)) hO)
  rw [show regV ([0, 0, 0, 0] : List Nat).length [([97], 0, 2)] [98] 2 = [([97], 0, 2), ([98], 2, 2)] by decide +kernel, show regB ([0, 0, 0, 0] : List Nat).length [([97], 0, 2)] [98] 2 = 2 by decide +kernel, show regE ([0, 0, 0, 0] : List Nat).length [([97], 0, 2)] [98] 2 = 0 by decide +kernel] at K3
  clear hO K2
  go_wp2_with fail
  refine K3.out.mono ?_
  rintro e w3 ⟨rfl, F3, hO, -⟩
  have K4 := Lib.hid (region_o [97] (by decide) 1 (rs := [([97], 0, 2), ([98], 2, 2)]) (by intro r hr; simp at hr; first | (rcases hr with rfl | rfl <;> simp) | (subst hr; simp)) hO)
  rw [show regV ([0, 0, 0, 0] : List Nat).length [([97], 0, 2), ([98], 2, 2)] [97] 1 = [([97], 0, 2), ([98], 2, 2)] by decide +kernel, show regB ([0, 0, 0, 0] : List Nat).length [([97], 0, 2), ([98], 2, 2)] [97] 1 = 0 by decide +kernel, show regE ([0, 0, 0, 0] : List Nat).length [([97], 0, 2), ([98], 2, 2)] [97] 1 = 8 by decide +kernel] at K4
  clear hO K3
  go_wp2_with fail
  refine K4.out.mono ?_
  rintro e w4 ⟨rfl, F4, hO, -⟩
  have K5 := Lib.hid (region_o [99] (by decide) 1 (rs := [([97], 0, 2), ([98], 2, 2)]) (by intro r hr; simp at hr; first | (rcases hr with rfl | rfl <;> simp) | (subst hr; simp)) hO)
  rw [show regV ([0, 0, 0, 0] : List Nat).length [([97], 0, 2), ([98], 2, 2)] [99] 1 = [([97], 0, 2), ([98], 2, 2)] by decide +kernel, show regB ([0, 0, 0, 0] : List Nat).length [([97], 0, 2), ([98], 2, 2)] [99] 1 = 0 by decide +kernel, show regE ([0, 0, 0, 0] : List Nat).length [([97], 0, 2), ([98], 2, 2)] [99] 1 = 5 by decide +kernel] at K5
  clear hO K4
  go_wp2_with fail
  refine K5.out.mono ?_
  rintro e w5 ⟨rfl, F5, hO, -⟩
  have K6 := Lib.hid (store_o 3 7 (by omega) hO)
  rw [show stepV ([0, 0, 0, 0] : List Nat).length [] 2 3 = [(2, 3)] by decide +kernel, show storeV [0, 0, 0, 0] ([] : List Ev).length 3 7 = [0, 0, 0, 7] by decide +kernel, show stepE ([0, 0, 0, 0] : List Nat).length ([] : List Ev).length 3 = 0 by decide +kernel] at K6
  clear hO K5
  go_wp2_with fail
  refine K6.out.mono ?_
  rintro e w6 ⟨rfl, F6, hO, -⟩
  have K7 := Lib.hid (load_o 3 hO)
  rw [show stepV ([0, 0, 0, 7] : List Nat).length [(2, 3)] 1 3 = [(2, 3), (1, 3)] by decide +kernel, show loadV [0, 0, 0, 7] ([(2, 3)] : List Ev).length 3 = 7 by decide +kernel, show stepE ([0, 0, 0, 7] : List Nat).length ([(2, 3)] : List Ev).length 3 = 0 by decide +kernel] at K7
  clear hO K6
  go_wp2_with fail
  refine K7.out.mono ?_
  rintro e w7 ⟨rfl, F7, hO, -⟩
  have K8 := Lib.hid (load_o 4 hO)
  rw [show stepV ([0, 0, 0, 7] : List Nat).length [(2, 3), (1, 3)] 1 4 = [(2, 3), (1, 3)] by decide +kernel, show loadV [0, 0, 0, 7] ([(2, 3), (1, 3)] : List Ev).length 4 = 0 by decide +kernel, show stepE ([0, 0, 0, 7] : List Nat).length ([(2, 3), (1, 3)] : List Ev).length 4 = 7 by decide +kernel] at K8
  clear hO K7
  go_wp2_with fail
  refine K8.out.mono ?_
  rintro e w8 ⟨rfl, F8, hO, -⟩
  have K9 := Lib.hid (load_o 0 hO)
  rw [show stepV ([0, 0, 0, 7] : List Nat).length [(2, 3), (1, 3)] 1 0 = [(2, 3), (1, 3), (1, 0)] by decide +kernel, show loadV [0, 0, 0, 7] ([(2, 3), (1, 3)] : List Ev).length 0 = 0 by decide +kernel, show stepE ([0, 0, 0, 7] : List Nat).length ([(2, 3), (1, 3)] : List Ev).length 0 = 0 by decide +kernel] at K9
  clear hO K8
  go_wp2_with fail
  refine K9.out.mono ?_
  rintro e w9 ⟨rfl, F9, hO, -⟩
  have K10 := Lib.hid (since_o 2 hO)
  rw [show sinceV [(2, 3), (1, 3), (1, 0)] 2 = [(1, 0)] by decide +kernel, show sinceE ([(2, 3), (1, 3), (1, 0)] : List Ev).length 2 = 0 by decide +kernel] at K10
  clear hO K9
  go_wp2_with fail
  refine K10.out.mono ?_
  rintro e w10 ⟨v, rfl, hr, -, hO, -⟩
  have HR := Lib.hid hr
  clear hr
  have K11 := Lib.hid (steps_o hO)
  have HO11 := Lib.hid hO
  clear hO K10
  go_wp2_with fail
  refine K11.out.mono ?_
  rintro e w11 ⟨rfl, rfl⟩
  have hO := HO11.out
  clear HO11
  have HO := Lib.hid hO
  have K8 := Lib.hid (fun (w' : World) (vb : Value) (hb : Evs w' vb [(1, 0)]) (hbb : Below w10.heap.size w10 w') => same_ev v vb _ _ w' (Row.below HR.out hbb) hb)
  clear hO K11
  go_wp2_with fail
  have hb7 : Below w10.heap.size w10 (w10.alloc (.cells #[.int .i32 1, .int .i32 0] 54)) := (Below.refl _ _).alloc (Nat.le_refl _) _
  have hrow : Evs (w10.alloc (.cells #[.int .i32 1, .int .i32 0] 54)) (.slice (some ⟨w10.heap.size, 0, none⟩) 1 1) [(1, 0)] := by
    refine Row.of_owns (base := w10.heap.size) (e := 54) (World.ownsRow_lit w10 #[.int .i32 1, .int .i32 0] 1 (Nat.le_refl _) (by decide) rfl)
  refine (K8.out _ _ hrow hb7).mono ?_
  rintro e w19 ⟨rfl, hb9⟩
  have hO := HO.out.below (next hb7 hb9)
  clear hb7 hb9 K8 HO HR
  have K20 := Lib.hid (has_o 2 2 hO)
  rw [show hasE ([0, 0, 0, 7] : List Nat).length 2 2 = 0 by decide +kernel] at K20
  have HO20 := Lib.hid hO
  clear hO
  go_wp2_with fail
  refine K20.out.mono ?_
  rintro e w20 ⟨rfl, rfl⟩
  have hO := HO20.out
  clear HO20
  have K21 := Lib.hid (has_o 2 3 hO)
  rw [show hasE ([0, 0, 0, 7] : List Nat).length 2 3 = 7 by decide +kernel] at K21
  have HO21 := Lib.hid hO
  clear hO K20
  go_wp2_with fail
  refine K21.out.mono ?_
  rintro e w21 ⟨rfl, rfl⟩
  have hO := HO21.out
  clear HO21
  have K22 := Lib.hid (has_o 4 0 hO)
  rw [show hasE ([0, 0, 0, 7] : List Nat).length 4 0 = 0 by decide +kernel] at K22
  have HO22 := Lib.hid hO
  clear hO K21
  go_wp2_with fail
  refine K22.out.mono ?_
  rintro e w22 ⟨rfl, rfl⟩
  have hO := HO22.out
  clear HO22
  have K23 := Lib.hid (has_o 5 0 hO)
  rw [show hasE ([0, 0, 0, 7] : List Nat).length 5 0 = 7 by decide +kernel] at K23
  have HO23 := Lib.hid hO
  clear hO K22
  go_wp2_with fail
  refine K23.out.mono ?_
  rintro e w23 ⟨rfl, rfl⟩
  have hO := HO23.out
  clear HO23
  have K24 := Lib.hid (has_o (-1) 1 hO)
  rw [show hasE ([0, 0, 0, 7] : List Nat).length (-1) 1 = 7 by decide +kernel] at K24
  have HO24 := Lib.hid hO
  clear hO K23
  go_wp2_with fail
  refine K24.out.mono ?_
  rintro e w24 ⟨rfl, rfl⟩
  have hO := HO24.out
  clear HO24
  have K25 := Lib.hid (room_o 8388605 hO)
  rw [show roomE ([(2, 3), (1, 3), (1, 0)] : List Ev).length 8388605 = 0 by decide +kernel] at K25
  have HO25 := Lib.hid hO
  clear hO K24
  go_wp2_with fail
  refine K25.out.mono ?_
  rintro e w25 ⟨rfl, rfl⟩
  have hO := HO25.out
  clear HO25
  have K26 := Lib.hid (room_o 8388606 hO)
  rw [show roomE ([(2, 3), (1, 3), (1, 0)] : List Ev).length 8388606 = 3 by decide +kernel] at K26
  have HO26 := Lib.hid hO
  clear hO K25
  go_wp2_with fail
  refine K26.out.mono ?_
  rintro e w26 ⟨rfl, rfl⟩
  have hO := HO26.out
  clear HO26
  have K27 := Lib.hid (forget_o hO)
  clear hO K26
  go_wp2_with fail
  refine K27.out.mono ?_
  rintro e w27 ⟨rfl, F27, hO, -⟩
  have K28 := Lib.hid (room_o 8388606 hO)
  rw [show roomE ([] : List Ev).length 8388606 = 0 by decide +kernel] at K28
  have HO28 := Lib.hid hO
  clear hO K27
  go_wp2_with fail
  refine K28.out.mono ?_
  rintro e w28 ⟨rfl, rfl⟩
  have hO := HO28.out
  clear HO28
  have HB := Lib.hid hO.b
  clear hO K28
  go_wp2_with fail
  refine (awake_p _).mono ?_
  rintro e w99 ⟨rfl, hb⟩
  have HB2 := Lib.hid (HB.out.trans (hb.mono HB.out.size))
  clear hb
  go_wp2_with fail
  go_ret
  exact ⟨rfl, HB2.out⟩

theorem own : ownKnob Tryd.prog.godebug = none := by kernel_rfl
theorem laidOut : laidOutB Tryd.prog = true := by kernel_rfl
abbrev laidL : List (String × DataW Unit) := [("unicode/utf8.acceptRanges", Rows.laid_unicode_utf8_acceptRanges), ("unicode/utf8.first", Rows.laid_unicode_utf8_first)]

set_option maxRecDepth 100000 in
theorem lifted (os : Os) (started : os.Started) (H : Type) (enc : TypeId × Value → H) :
    ReturnsInHanded {} Tryd.checked os 5 .any (fun w args => (Rows.arenaKnownSpec.pre enc Tryd.prog Tryd.f5 [] false w args ∧ laidMetH Tryd.prog laidL w) ∧ sizedMet enc Tryd.prog Tryd.f5 (OpenSpec.ofChange Rows.arenaKnownSpec) false w args) (Rows.arenaKnownSpec.post enc Tryd.prog Tryd.f5 false true false false) := by
  refine returnsInHanded_of_change_and (C := Tryd.checked) (X := fun w _ => laidMetH Tryd.prog laidL w) (fun _ _ _ hh h => h.of_heap hh) own started (by kernel_rfl) Tryd.func5
    (ChangeSpec.witness_shaped (enc := enc) (C := Tryd.checked) (os := os) (X := fun w _ => laidMetH Tryd.prog laidL w) false (laidWorld os) #[] 8 rfl (World.shaped_of_RefB (by kernel_rfl) (by kernel_rfl)) (by kernel_rfl) (by kernel_rfl) (by kernel_rfl) (door_met os _)) ?_
  intro W base args ds gs before hval0 hW _ _ _ _
  have hval : ∀ (j : Nat) t v, Tryd.f5.params[j]? = some t → args[j]? = some v → Value.okWide Tryd.prog W .any base t v := hval0
  have hW' := hW
  obtain ⟨p, q, hA0, hV, rfl, hfz, hnd⟩ := hW
  have hA : DataW.TrodAll enc Tryd.prog W 0 (fun _ => true) true Tryd.f5.params.toList args.toList ds p := hA0
  rw [Tryd.params5] at hA hval
  obtain ⟨hargs, rfl, rfl⟩ := trodAll_nil hA
  obtain rfl : args = #[] := by cases args; simp_all
  obtain ⟨rfl, rfl⟩ := trodVars_none hV
  clear hA0 hval0
  refine (walk W).mono fun e W' ⟨he, bel⟩ => ?_
  subst he
  exact ⟨_, rfl, _, _, _, [], _, [], hW', trodAll_mk1 (shut_bool Tryd.underlying4 _), trodAll_mk0, rfl, bel.frame _, fun h => by cases h⟩

theorem over : Rows.arenaKnownRow.holds Tryd.pinned (OpenSpec.ofChange Rows.arenaKnownSpec) :=
  OpenClaim.holds_of_wide 5 Tryd.f5 rfl rfl rfl rfl rfl rfl rfl ⟨rfl, rfl, rfl, rfl, rfl⟩ rfl rfl rfl rfl rfl (by kernel_rfl) Tryd.func5 (by kernel_rfl)
    (of_decide_eq_true (by kernel_rfl)) (by unfold Func.isWrapper; first | (rw [if_pos (by decide +kernel)]; kernel_rfl) | (rw [if_neg (by decide +kernel)]; exact ⟨rfl, rfl⟩))
    (fun os started H enc _ => lifted os started H enc)

theorem proved : Rows.ArenaKnownCardSaid :=
  Claim7.holds_tied_plain_at .later [] [.data, .pinned] true (true, "fa0ba3bc22dc5505d8766bf6efcc6355ea8fadaca26ff31e805dd7d45e3f142c") false
    over (fun _ h => by cases h) (by kernel_rfl) (fun _ h => by cases h) arenaKnown_row_tie rfl ⟨rfl, rfl⟩ (by kernel_rfl) rfl
    (fun f fn hf hfn => by
      obtain rfl : f = 5 := Option.some.inj ((show Tryd.prog.funcNamed "dragnet/dragnetlaw05.ArenaKnown" = some 5 by kernel_rfl).symm.trans hf) |>.symm
      obtain rfl : fn = Tryd.f5 := (Option.some.inj (Tryd.func5.symm.trans hfn)).symm
      exact ⟨by kernel_rfl, fun j t ht => by
        rw [Tryd.params5] at ht
        have hm : t ∈ ([] : List Nat) := by simpa using Array.mem_of_getElem? ht
        have hall : (([] : List Nat).all fun u => !Tryd.prog.wantsStandIn u) = true := by kernel_rfl
        exact (show Tryd.prog.wantsStandIn t = false by simpa using List.all_eq_true.1 hall t hm)⟩)
    (by kernel_rfl)
#print axioms proved
end Go.Proofs.YtomjefplacgoeaaDoor.arenaKnown
