/- Layer 31: Moves, Open, Block of program and reference. -/
import Derived.Test.YtdfofojlnkhjjaaCRef
namespace Go.Proofs.Ytdfofojlnkhjjaa
open Go.RowKit

def mvE (n : Int) : Int := if 1 ≤ n ∧ n ≤ 288 then 0 else 7
def mvV (n : Int) : Int := if 1 ≤ n ∧ n ≤ 288 then movesV n else 0
def openV (b k l s r : Int) : Int := if slotOk b k l s r then 258 * s + r * s + 4 else 0
def blkV (b k l s r : Int) : Int := if slotOk b k l s r then blockV b s r (k + b * r) else 0

theorem pubMoves_p (n : Int) (w : World) :
    Calls Try.prog 10 #[.int .i64 n] w fun e w' => e = .returned (.tuple #[.int .i64 (mvV n), .int .i64 (mvE n)]) ∧ w = w' := by
  by_cases h : 1 ≤ n ∧ n ≤ 288
  · rw [show mvV n = movesV n from if_pos h, show mvE n = 0 from if_pos h]
    obtain ⟨h1, h2⟩ := h
    have hc := fun w => moves_p n h1 h2 w
    go_enter Try.func10, Try.ntmps10
    go_wp2_with (go_at_call 35; refine (hc _).mono ?_; rintro e w' ⟨rfl, rfl⟩)
    go_ret2
    exact ⟨rfl, rfl⟩
  · rw [show mvV n = 0 from if_neg h, show mvE n = 7 from if_neg h]
    have h3 : n < 1 ∨ 288 < n := by omega
    clear h
    rcases h3 with h3 | h3
    · go_enter Try.func10, Try.ntmps10
      go_wp2_with fail
      go_ret2
      exact ⟨rfl, rfl⟩
    · have h4 : ¬ n < 1 := by omega
      go_enter Try.func10, Try.ntmps10
      go_wp2_with fail
      go_ret2
      exact ⟨rfl, rfl⟩
theorem pubMoves_r (n : Int) (w : World) :
    Calls Try.prog 11 #[.int .i64 n] w fun e w' => e = .returned (.tuple #[.int .i64 (mvV n), .int .i64 (mvE n)]) ∧ w = w' := by
  by_cases h : 1 ≤ n ∧ n ≤ 288
  · rw [show mvV n = movesV n from if_pos h, show mvE n = 0 from if_pos h]
    obtain ⟨h1, h2⟩ := h
    have hc := fun w => moves_r n h1 h2 w
    go_enter Try.func11, Try.ntmps11
    go_wp2_with (go_at_call 36; refine (hc _).mono ?_; rintro e w' ⟨rfl, rfl⟩)
    go_ret2
    exact ⟨rfl, rfl⟩
  · rw [show mvV n = 0 from if_neg h, show mvE n = 7 from if_neg h]
    have h3 : n < 1 ∨ 288 < n := by omega
    clear h
    rcases h3 with h3 | h3
    · go_enter Try.func11, Try.ntmps11
      go_wp2_with fail
      go_ret2
      exact ⟨rfl, rfl⟩
    · have h4 : ¬ n < 1 := by omega
      go_enter Try.func11, Try.ntmps11
      go_wp2_with fail
      go_ret2
      exact ⟨rfl, rfl⟩

theorem rs_bd {s r : Int} (s1 : 1 ≤ s) (s2 : s ≤ 4) (r1 : 1 ≤ r) (r2 : r ≤ 16) : 0 ≤ r * s ∧ r * s ≤ 64 := by
  have h1 : 0 ≤ r * s := Int.mul_nonneg (by omega) (by omega)
  have h2 : r * s ≤ 16 * 4 := Int.mul_le_mul r2 (by omega) (by omega) (by omega)
  omega

set_option maxRecDepth 100000 in
set_option maxHeartbeats 1000000 in
theorem open_r (b k l s r : Int) (w : World) :
    Calls Try.prog 13 #[cfgV b k l, shpV s r] w fun e w' => e = .returned (.tuple #[.int .i64 (openV b k l s r), .int .i64 (slotE b k l s r)]) ∧ Below w.heap.size w w' := by
  have C1 := Lib.hid (fun w => slots_r b k l s r w)
  have HS := Lib.hid (two w (.cells #[.int .i64 b, .int .i64 k, .int .i64 l] 23) (.cells #[.int .i64 s, .int .i64 r] 25))
  by_cases hz : slotOk b k l s r = true
  · obtain ⟨_, _, _, f1, f2, _, _, s1, s2, r1, r2, f5, f6⟩ := fine hz
    obtain ⟨n1, n2⟩ := rs_bd s1 s2 r1 r2
    rw [show slotE b k l s r = 0 by unfold slotE; rw [if_pos hz]] at C1 ⊢
    rw [show openV b k l s r = 258 * s + r * s + 4 by unfold openV; rw [if_pos hz]]
    clear hz
    unfold cfgV shpV
    go_enter Try.func13, Try.ntmps13
    go_wp2_with fail
    refine (C1.out _).mono ?_
    rintro e w1 ⟨rfl, hb1⟩
    obtain ⟨a1, a2, hB⟩ := HS.out
    have k2 := later a2 hb1
    have HB := Lib.hid (next hB hb1)
    obtain ⟨d3, d4⟩ := c2 k2
    clear a1 a2 hB k2 hb1
    go_wp2_with fail
    go_ret2
    exact ⟨rfl, HB.out⟩
  · rw [show slotE b k l s r = 7 by unfold slotE; rw [if_neg hz]] at C1 ⊢
    rw [show openV b k l s r = 0 by unfold openV; rw [if_neg hz]]
    clear hz
    unfold cfgV shpV
    go_enter Try.func13, Try.ntmps13
    go_wp2_with fail
    refine (C1.out _).mono ?_
    rintro e w1 ⟨rfl, hb1⟩
    have HB := Lib.hid (next HS.out.2.2 hb1)
    clear hb1
    go_wp2_with fail
    go_ret2
    exact ⟨rfl, HB.out⟩

set_option maxRecDepth 100000 in
set_option maxHeartbeats 1000000 in
theorem blockPub_r (b k l s r : Int) (w : World) :
    Calls Try.prog 15 #[cfgV b k l, shpV s r] w fun e w' => e = .returned (.tuple #[.int .i64 (blkV b k l s r), .int .i64 (slotE b k l s r)]) ∧ Below w.heap.size w w' := by
  have C1 := Lib.hid (fun w => slots_r b k l s r w)
  have HS := Lib.hid (two w (.cells #[.int .i64 b, .int .i64 k, .int .i64 l] 23) (.cells #[.int .i64 s, .int .i64 r] 25))
  by_cases hz : slotOk b k l s r = true
  · have C2 := Lib.hid (fun w => block_r b k l s r hz w)
    rw [show slotE b k l s r = 0 by unfold slotE; rw [if_pos hz]] at C1 ⊢
    rw [show blkV b k l s r = blockV b s r (k + b * r) by unfold blkV; rw [if_pos hz]]
    generalize blockV b s r (k + b * r) = V at *
    clear hz
    unfold cfgV shpV
    go_enter Try.func15, Try.ntmps15
    go_wp2_with fail
    refine (C1.out _).mono ?_
    rintro e w1 ⟨rfl, hb1⟩
    obtain ⟨a1, a2, hB⟩ := HS.out
    have k1 := later a1 hb1
    have k2 := later a2 hb1
    have HB := Lib.hid (next hB hb1)
    obtain ⟨d0, d1, d2⟩ := c3 k1
    obtain ⟨d3, d4⟩ := c2 k2
    clear a1 a2 hB k1 k2 hb1
    go_wp2_with (go_at_call 39; refine (C2.out _).mono ?_; rintro e w2 ⟨rfl, hb2⟩; have HB2 := Lib.hid (next HB.out hb2); clear hb2)
    go_ret2
    exact ⟨rfl, HB2.out⟩
  · rw [show slotE b k l s r = 7 by unfold slotE; rw [if_neg hz]] at C1 ⊢
    rw [show blkV b k l s r = 0 by unfold blkV; rw [if_neg hz]]
    clear hz
    unfold cfgV shpV
    go_enter Try.func15, Try.ntmps15
    go_wp2_with fail
    refine (C1.out _).mono ?_
    rintro e w1 ⟨rfl, hb1⟩
    have HB := Lib.hid (next HS.out.2.2 hb1)
    clear hb1
    go_wp2_with fail
    go_ret2
    exact ⟨rfl, HB.out⟩

end Go.Proofs.Ytdfofojlnkhjjaa
