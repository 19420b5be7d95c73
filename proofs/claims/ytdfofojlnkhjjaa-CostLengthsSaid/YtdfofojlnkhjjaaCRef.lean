/- Layer 31: the reference's block, many, Open, Block, Feed; plan.feed. -/
import Derived.Test.YtdfofojlnkhjjaaCFuns
namespace Go.Proofs.Ytdfofojlnkhjjaa
open Go.RowKit

/-- the error, and how many blocks, of a Feed -/
def fdE (b k l s r n : Int) : Int := if slotOk b k l s r then lenE n b else 7
def fdM (b k l s r n : Int) : Int := if slotOk b k l s r then manyV n b else 0

set_option maxRecDepth 100000 in
set_option maxHeartbeats 2000000 in
theorem block_r (b k l s r : Int) (hz : slotOk b k l s r = true) (w : World) :
    Calls Try.prog 39 #[cfgV b k l, shpV s r] w fun e w' => e = .returned (.int .i64 (blockV b s r (k + b * r))) ∧ Below w.heap.size w w' := by
  obtain ⟨b1, b2, _, f1, f2, _, _, s1, s2, r1, r2, f5, f6⟩ := fine hz
  have hc := fun w => moves_r (k + b * r) (by omega) (by omega) w
  obtain ⟨m1, m2⟩ := moves_bd (q := k + b * r) (by omega) (by omega)
  obtain ⟨l1, l2⟩ := line_bd s1 s2 r1 r2
  obtain ⟨x1, x2⟩ := mulb_bd (X := 261 * s + r * (2 * s + 5)) b1 b2 (by omega) (by omega)
  have HS := two w (.cells #[.int .i64 b, .int .i64 k, .int .i64 l] 23) (.cells #[.int .i64 s, .int .i64 r] 25)
  obtain ⟨a1, a2, hB⟩ := HS
  obtain ⟨d0, d1, d2⟩ := c3 a1
  obtain ⟨d3, d4⟩ := c2 a2
  have HB := Lib.hid hB
  clear hB a1 a2 hz
  unfold blockV cfgV shpV
  generalize movesV (k + b * r) = M at *
  go_enter Try.func39, Try.ntmps39
  go_wp2_with fail
  have w1 : IntKind.i64.wrap (261 * s) = 261 * s := IntWalk.i64_in _ (by omega)
  have w2 : IntKind.i64.wrap (2 * s) = 2 * s := IntWalk.i64_in _ (by omega)
  have w3 : IntKind.i64.wrap (2 * s + 5) = 2 * s + 5 := IntWalk.i64_in _ (by omega)
  have w4 : IntKind.i64.wrap (r * (2 * s + 5)) = r * (2 * s + 5) := IntWalk.i64_in _ (by omega)
  have w5 : IntKind.i64.wrap (261 * s + r * (2 * s + 5)) = 261 * s + r * (2 * s + 5) := IntWalk.i64_in _ (by omega)
  have w6 : IntKind.i64.wrap (b * (261 * s + r * (2 * s + 5))) = b * (261 * s + r * (2 * s + 5)) := IntWalk.i64_in _ (by omega)
  have w7 : IntKind.i64.wrap (8 * (k + b * r)) = 8 * (k + b * r) := IntWalk.i64_in _ (by omega)
  have w8 : IntKind.i64.wrap (b * (261 * s + r * (2 * s + 5)) + 8 * (k + b * r)) = b * (261 * s + r * (2 * s + 5)) + 8 * (k + b * r) := IntWalk.i64_in _ (by omega)
  have w9 : IntKind.i64.wrap (b * (261 * s + r * (2 * s + 5)) + 8 * (k + b * r) + 4) = b * (261 * s + r * (2 * s + 5)) + 8 * (k + b * r) + 4 := IntWalk.i64_in _ (by omega)
  have w10 : IntKind.i64.wrap (16 * M) = 16 * M := IntWalk.i64_in _ (by omega)
  have w11 : IntKind.i64.wrap (b * (261 * s + r * (2 * s + 5)) + 8 * (k + b * r) + 4 + 16 * M) = b * (261 * s + r * (2 * s + 5)) + 8 * (k + b * r) + 4 + 16 * M := IntWalk.i64_in _ (by omega)
  go_quiet ((go_at_call 36; exact quiet_left (hc _)))
  clear w1 w2 w3 w4 w5 w6 w7 w8 w9 w10 w11
  go_wp2_with fail
  go_ret
  exact ⟨rfl, below_drewN HB.out _⟩

set_option maxRecDepth 100000 in
set_option maxHeartbeats 1000000 in
theorem manyS_r (b k l s r n : Int) (w : World) :
    Calls Try.prog 42 #[cfgV b k l, shpV s r, .int .i64 n] w fun e w' => e = .returned (.tuple #[.int .i64 (fdM b k l s r n), .int .i64 (fdE b k l s r n)]) ∧ Below w.heap.size w w' := by
  have C1 := Lib.hid (fun w => slots_r b k l s r w)
  have C2 := Lib.hid (fun w => many_r n b w)
  have HS := Lib.hid (two w (.cells #[.int .i64 b, .int .i64 k, .int .i64 l] 23) (.cells #[.int .i64 s, .int .i64 r] 25))
  by_cases hz : slotOk b k l s r = true
  · rw [show slotE b k l s r = 0 by unfold slotE; rw [if_pos hz]] at C1
    rw [show fdM b k l s r n = manyV n b by unfold fdM; rw [if_pos hz], show fdE b k l s r n = lenE n b by unfold fdE; rw [if_pos hz]]
    clear hz
    unfold cfgV shpV
    go_enter Try.func42, Try.ntmps42
    go_wp2_with fail
    refine (C1.out _).mono ?_
    rintro e w1 ⟨rfl, hb1⟩
    obtain ⟨a1, a2, hB⟩ := HS.out
    have k1 := later a1 hb1
    have HB := Lib.hid (next hB hb1)
    obtain ⟨d0, d1, d2⟩ := c3 k1
    clear a1 a2 hB k1 hb1
    go_wp2_with (go_at_call 60; refine (C2.out _).mono ?_; rintro e w' ⟨rfl, rfl⟩)
    go_ret2
    exact ⟨rfl, HB.out⟩
  · rw [show slotE b k l s r = 7 by unfold slotE; rw [if_neg hz]] at C1
    rw [show fdM b k l s r n = 0 by unfold fdM; rw [if_neg hz], show fdE b k l s r n = 7 by unfold fdE; rw [if_neg hz]]
    clear hz
    unfold cfgV shpV
    go_enter Try.func42, Try.ntmps42
    go_wp2_with fail
    refine (C1.out _).mono ?_
    rintro e w1 ⟨rfl, hb1⟩
    have HB := Lib.hid (next HS.out.2.2 hb1)
    clear hb1
    go_wp2_with fail
    go_ret2
    exact ⟨rfl, HB.out⟩

end Go.Proofs.Ytdfofojlnkhjjaa
