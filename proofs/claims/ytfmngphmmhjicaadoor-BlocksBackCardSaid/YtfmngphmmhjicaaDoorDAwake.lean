/- Layer 27: awake. -/
import Derived.Test.YtfmngphmmhjicaaDoorDSame
namespace Go.Proofs.YtfmngphmmhjicaaDoor
open Go.RowKit

theorem awake_p (w : World) :
    Calls Tryd.prog 6 #[] w fun e w' => e = .returned (.bool true) ∧ Below w.heap.size w w' := by
  go_enter Tryd.func6, Tryd.ntmps6
  go_wp2_with fail
  refine (split_p [97, 98, 99, 100, 101] 4 10 w (by decide)).mono ?_
  rintro e w1 ⟨v, rfl, hown, hb1⟩
  rw [show splitE ([97, 98, 99, 100, 101] : List UInt8).length 4 10 = 0 from by decide]
  have hp : Parts w1 v (parts [97, 98, 99, 100, 101] 4 10) := Row.of_owns hown
  rw [show parts [97, 98, 99, 100, 101] 4 10 = [([97, 98, 99, 100], 4, 10), ([101, 0, 0, 0], 1, 14)] from by decide] at hp
  have HP := Lib.hid hp
  have HB := Lib.hid hb1
  clear hown hp hb1
  go_wp2_with fail
  refine (many_p 5 4 w1).mono ?_
  rintro e w2 ⟨rfl, rfl⟩
  rw [show manyV 5 4 = 2 from by decide, show lenE 5 4 = 0 from by decide]
  go_wp2_with fail
  refine (padding_p 5 4 w1).mono ?_
  rintro e w2 ⟨rfl, rfl⟩
  rw [show padV 5 4 = 3 from by decide, show lenE 5 4 = 0 from by decide]
  go_wp2_with fail
  refine (same_r v _ [([97, 98, 99, 100], 4, 10), ([101, 0, 0, 0], 1, 14)] [([97, 98, 99, 100], 4, 10), ([101, 0, 0, 0], 1, 14)] _ (HP.out.below ((Below.refl _ _).alloc (Nat.le_refl _) _)) (Row.lit w1 33 3 2 (pcells [([97, 98, 99, 100], 4, 10), ([101, 0, 0, 0], 1, 14)]) rfl (by decide))).mono ?_
  rintro e w3 ⟨rfl, hb3⟩
  rw [show decide (([([97, 98, 99, 100], 4, 10), ([101, 0, 0, 0], 1, 14)] : List Part) = [([97, 98, 99, 100], 4, 10), ([101, 0, 0, 0], 1, 14)]) = true from by simp]
  have HB3 := Lib.hid hb3
  clear hb3
  go_wp2_with fail
  go_ret
  exact ⟨rfl, next HB.out (next ((Below.refl _ _).alloc (Nat.le_refl _) _) HB3.out)⟩

end Go.Proofs.YtfmngphmmhjicaaDoor
