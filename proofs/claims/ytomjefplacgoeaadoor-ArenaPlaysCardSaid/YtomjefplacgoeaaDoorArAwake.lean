/- awake, far. -/
import Derived.Test.YtomjefplacgoeaaDoorArOwn
namespace Go.Proofs.YtomjefplacgoeaaDoor
open Go.RowKit

theorem regsOk_nil (n : Nat) : RegsOk n [] := fun r hr => by simp at hr
set_option maxRecDepth 100000 in
set_option maxHeartbeats 4000000 in
theorem awake_p (w : World) : Calls Tryd.prog 11 #[] w fun e w' => e = .returned (.bool true) ∧ Below w.heap.size w w' := by
  have KN := Lib.hid (new_o (w := w) 4 (by omega) (by omega))
  go_enter Tryd.func11, Tryd.ntmps11
  go_wp2_with fail
  refine KN.out.mono ?_
  rintro e w1 ⟨A, F, rfl, hO, _⟩
  have HO := Lib.hid hO
  have K := Lib.hid (region_o [97] (by decide) 2 (regsOk_nil _) hO)
  rw [show regV (List.replicate 4 0).length [] [97] 2 = [([97], 0, 2)] by decide +kernel, show regB (List.replicate 4 0).length [] [97] 2 = 0 by decide +kernel, show regE (List.replicate 4 0).length [] [97] 2 = 0 by decide +kernel] at K
  clear hO
  go_wp2_with fail
  refine K.out.mono ?_
  rintro e w2 ⟨rfl, F2, hO, -⟩
  have K2 := Lib.hid (region_o [98] (by decide) 2 (rs := [([97], 0, 2)]) (by intro r hr; simp at hr; subst hr; simp) hO)
  rw [show regV (List.replicate 4 0).length [([97], 0, 2)] [98] 2 = [([97], 0, 2), ([98], 2, 2)] by decide +kernel, show regB (List.replicate 4 0).length [([97], 0, 2)] [98] 2 = 2 by decide +kernel, show regE (List.replicate 4 0).length [([97], 0, 2)] [98] 2 = 0 by decide +kernel] at K2
  clear hO K
  go_wp2_with fail
  refine K2.out.mono ?_
  rintro e w3 ⟨rfl, F3, hO, -⟩
  have K3 := Lib.hid (store_o 3 7 (by omega) hO)
  rw [show stepV (List.replicate 4 0).length [] 2 3 = [(2, 3)] by decide +kernel, show storeV (List.replicate 4 0) ([] : List Ev).length 3 7 = [0, 0, 0, 7] by decide +kernel, show stepE (List.replicate 4 0).length ([] : List Ev).length 3 = 0 by decide +kernel] at K3
  clear hO K2
  go_wp2_with fail
  refine K3.out.mono ?_
  rintro e w4 ⟨rfl, F4, hO, -⟩
  have K4 := Lib.hid (load_o 3 hO)
  rw [show stepV [0, 0, 0, 7].length [(2, 3)] 1 3 = [(2, 3), (1, 3)] by decide +kernel, show loadV [0, 0, 0, 7] ([(2, 3)] : List Ev).length 3 = 7 by decide +kernel, show stepE [0, 0, 0, 7].length ([(2, 3)] : List Ev).length 3 = 0 by decide +kernel] at K4
  clear hO K3
  go_wp2_with fail
  refine K4.out.mono ?_
  rintro e w5 ⟨rfl, F5, hO, -⟩
  have K5 := Lib.hid (load_o 4 hO)
  rw [show stepV [0, 0, 0, 7].length [(2, 3), (1, 3)] 1 4 = [(2, 3), (1, 3)] by decide +kernel, show loadV [0, 0, 0, 7] ([(2, 3), (1, 3)] : List Ev).length 4 = 0 by decide +kernel, show stepE [0, 0, 0, 7].length ([(2, 3), (1, 3)] : List Ev).length 4 = 7 by decide +kernel] at K5
  clear hO K4
  go_wp2_with fail
  refine K5.out.mono ?_
  rintro e w6 ⟨rfl, F6, hO, -⟩
  have K6 := Lib.hid (events_o hO)
  clear hO K5
  go_wp2_with fail
  refine K6.out.mono ?_
  rintro e w7 ⟨v, rfl, hr, -, hO, -⟩
  have K7 := Lib.hid (steps_o hO)
  have HB := Lib.hid hO.b
  have HR := Lib.hid hr
  clear hO K6 hr
  go_wp2_with fail
  refine K7.out.mono ?_
  rintro e w8 ⟨rfl, rfl⟩
  have K8 := Lib.hid (fun (w' : World) (vb : Value) (hb : Evs w' vb [(2, 3), (1, 3)]) (hbb : Below w7.heap.size w7 w') => same_ev v vb _ _ w' (Row.below HR.out hbb) hb)
  clear K7
  go_wp2_with fail
  have hal := heap_alloc_new w7 (.cells #[.int .i32 2, .int .i32 3, .int .i32 1, .int .i32 3] 54)
  have hb7 : Below w7.heap.size w7 (w7.alloc (.cells #[.int .i32 2, .int .i32 3, .int .i32 1, .int .i32 3] 54)) := (Below.refl _ _).alloc (Nat.le_refl _) _
  have hrow : Evs (w7.alloc (.cells #[.int .i32 2, .int .i32 3, .int .i32 1, .int .i32 3] 54)) (.slice (some ⟨w7.heap.size, 0, none⟩) 2 2) [(2, 3), (1, 3)] := by
    refine Row.of_owns (base := w7.heap.size) (e := 54) (World.ownsRow_lit w7 #[.int .i32 2, .int .i32 3, .int .i32 1, .int .i32 3] 2 (Nat.le_refl _) (by decide) rfl)
  refine (K8.out _ _ hrow hb7).mono ?_
  rintro e w9 ⟨rfl, hb9⟩
  have HB9 := Lib.hid ((HB.out.trans (hb7.mono HB.out.size)).trans (hb9.mono (by have := HB.out.size; simp; omega)))
  clear hb9 hal hb7 hrow
  go_wp2_with fail
  go_ret
  exact ⟨rfl, HB9.out⟩

end Go.Proofs.YtomjefplacgoeaaDoor
