/- Layer 30, the reference: Open of what is no configuration. -/
import Derived.Test.YtdfofojlnkhjjaaCOp30
namespace Go.Proofs.Ytdfofojlnkhjjaa
open Go.RowKit

set_option maxRecDepth 100000 in
set_option maxHeartbeats 1000000 in
theorem layout_bad (b k l s r : Int) (hz : ¬ slotOk b k l s r = true) (w : World) :
    Calls Try.prog 46 #[cfgV b k l, shpV s r] w fun e w' => e = .returned (.tuple #[.slice none 0 0, .int .i64 7]) ∧ Below w.heap.size w w' := by
  have C1 := Lib.hid (fun w => slots_r b k l s r w)
  have HP := Lib.hid (Plain.start w b k l s r)
  rw [show slotE b k l s r = 7 by unfold slotE; rw [if_neg hz]] at C1
  generalize slotV b k l s r = q at *
  clear hz
  obtain ⟨⟨d0, d1, d2⟩, ⟨d3, d4⟩, _⟩ := HP.out.cells
  unfold cfgV shpV at *
  go_enter Try.func46, Try.ntmps46
  go_wp2_with fail
  refine (C1.out _).mono ?_
  rintro e w1 ⟨rfl, hb⟩
  have P1 := Lib.hid (HP.out.keep hb rfl)
  clear d0 d1 d2 d3 d4 hb
  go_wp2_with fail
  go_ret2
  exact ⟨rfl, P1.out.bel⟩

set_option maxRecDepth 100000 in
set_option maxHeartbeats 1000000 in
theorem begun30_bad (b k l s r : Int) (hz : ¬ slotOk b k l s r = true) (w : World) :
    Calls Try.prog 52 #[cfgV b k l, shpV s r] w fun e w' => e = .returned (.tuple #[.pointer none, .int .i64 7]) ∧ Below w.heap.size w w' := by
  have C1 := Lib.hid (fun w => layout_bad b k l s r hz w)
  have HP := Lib.hid (Plain.start w b k l s r)
  clear hz
  obtain ⟨⟨d0, d1, d2⟩, ⟨d3, d4⟩, _⟩ := HP.out.cells
  unfold cfgV shpV at *
  go_enter Try.func52, Try.ntmps52
  go_wp2_with fail
  refine (C1.out _).mono ?_
  rintro e w1 ⟨rfl, hb⟩
  have P1 := Lib.hid (HP.out.keep hb rfl)
  clear d0 d1 d2 d3 d4 hb
  go_wp2_with fail
  go_ret2
  exact ⟨rfl, P1.out.bel⟩

set_option maxRecDepth 100000 in
set_option maxHeartbeats 1000000 in
theorem open30_bad (b k l s r : Int) (hz : ¬ slotOk b k l s r = true) (w : World) :
    Calls Try.prog 29 #[cfgV b k l, shpV s r] w fun e w' => e = .returned (.tuple #[.slice none 0 0, .int .i64 7]) ∧ Below w.heap.size w w' := by
  have C1 := Lib.hid (fun w => begun30_bad b k l s r hz w)
  have HP := Lib.hid (Plain.start w b k l s r)
  clear hz
  obtain ⟨⟨d0, d1, d2⟩, ⟨d3, d4⟩, _⟩ := HP.out.cells
  unfold cfgV shpV at *
  go_enter Try.func29, Try.ntmps29
  go_wp2_with fail
  refine (C1.out _).mono ?_
  rintro e w1 ⟨rfl, hb⟩
  have P1 := Lib.hid (HP.out.keep hb rfl)
  clear d0 d1 d2 d3 d4 hb
  go_wp2_with fail
  go_ret2
  exact ⟨rfl, P1.out.bel⟩

end Go.Proofs.Ytdfofojlnkhjjaa
