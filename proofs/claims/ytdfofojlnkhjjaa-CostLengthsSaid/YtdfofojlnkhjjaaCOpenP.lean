/- Layer 31: Open and Block of the program. -/
import Derived.Test.YtdfofojlnkhjjaaCOpen
namespace Go.Proofs.Ytdfofojlnkhjjaa
open Go.RowKit

set_option maxRecDepth 100000 in
set_option maxHeartbeats 1000000 in
theorem open_p (b k l s r : Int) (w : World) :
    Calls Try.prog 12 #[cfgV b k l, shpV s r] w fun e w' => e = .returned (.tuple #[.int .i64 (openV b k l s r), .int .i64 (slotE b k l s r)]) ∧ Below w.heap.size w w' := by
  have C1 := Lib.hid (fun w => begun_p b k l s r w)
  have HS := Lib.hid (two w (.cells #[.int .i64 b, .int .i64 k, .int .i64 l] 23) (.cells #[.int .i64 s, .int .i64 r] 25))
  by_cases hz : slotOk b k l s r = true
  · obtain ⟨_, _, _, f1, f2, _, _, s1, s2, r1, r2, f5, f6⟩ := fine hz
    obtain ⟨n1, n2⟩ := rs_bd s1 s2 r1 r2
    have hm : (258 + r) * s = 258 * s + r * s := by rw [Int.add_mul]
    have HM := Lib.hid hm
    rw [show slotE b k l s r = 0 by unfold slotE; rw [if_pos hz]] at C1 ⊢
    rw [show openV b k l s r = (258 + r) * s + 4 by unfold openV; rw [if_pos hz, hm]]
    have n3 : 0 ≤ (258 + r) * s := by omega
    have n4 : (258 + r) * s ≤ 1200 := by omega
    generalize slotV b k l s r = q at *
    clear hz hm
    unfold cfgV shpV planV at *
    go_enter Try.func12, Try.ntmps12
    go_wp2_with fail
    refine (C1.out _).mono ?_
    rintro e w1 ⟨rfl, hb1⟩
    obtain ⟨a1, a2, hB⟩ := HS.out
    have k2 := later a2 hb1
    have HB := Lib.hid (next hB hb1)
    obtain ⟨d3, d4⟩ := c2 k2
    have hl : w.heap.size + 1 < w1.heap.size := (Array.getElem?_eq_some_iff.1 k2).1
    have HBL := Lib.hid HB.out.size
    clear a1 a2 hB k2 hb1
    go_wp2_with fail
    go_ret2
    exact ⟨rfl, HB.out.trans ((Below.refl _ _).alloc HBL.out _)⟩
  · rw [show slotE b k l s r = 7 by unfold slotE; rw [if_neg hz]] at C1 ⊢
    rw [show openV b k l s r = 0 by unfold openV; rw [if_neg hz]]
    generalize slotV b k l s r = q at *
    clear hz
    unfold cfgV shpV planV at *
    go_enter Try.func12, Try.ntmps12
    go_wp2_with fail
    refine (C1.out _).mono ?_
    rintro e w1 ⟨rfl, hb1⟩
    have HB := Lib.hid (next HS.out.2.2 hb1)
    clear hb1
    go_wp2_with fail
    go_ret2
    exact ⟨rfl, HB.out.trans ((Below.refl _ _).alloc HB.out.size _)⟩

set_option maxRecDepth 100000 in
set_option maxHeartbeats 1000000 in
theorem blockPub_p (b k l s r : Int) (w : World) :
    Calls Try.prog 14 #[cfgV b k l, shpV s r] w fun e w' => e = .returned (.tuple #[.int .i64 (blkV b k l s r), .int .i64 (slotE b k l s r)]) ∧ Below w.heap.size w w' := by
  have C1 := Lib.hid (fun w => begun_p b k l s r w)
  have HB0 := Lib.hid (((Below.refl _ w).alloc (Nat.le_refl _) (.cells #[.int .i64 b, .int .i64 k, .int .i64 l] 23)).alloc (by simp) (.cells #[.int .i64 s, .int .i64 r] 25))
  by_cases hz : slotOk b k l s r = true
  · obtain ⟨b1, b2, _, f1, f2, _, _, s1, s2, r1, r2, f5, f6⟩ := fine hz
    have hq : slotV b k l s r = k + b * r := by unfold slotV; rw [if_pos hz]
    have C2 := Lib.hid (fun w => block_p b k l s r (k + b * r) b1 b2 s1 s2 r1 r2 (by omega) (by omega) w)
    rw [show slotE b k l s r = 0 by unfold slotE; rw [if_pos hz], hq] at C1
    rw [show slotE b k l s r = 0 by unfold slotE; rw [if_pos hz], show blkV b k l s r = blockV b s r (k + b * r) by unfold blkV; rw [if_pos hz]]
    generalize blockV b s r (k + b * r) = V at *
    generalize k + b * r = q at *
    clear hz hq
    unfold cfgV shpV planV at *
    go_enter Try.func14, Try.ntmps14
    go_wp2_with fail
    refine (C1.out _).mono ?_
    rintro e w1 ⟨rfl, hb1⟩
    have HB := Lib.hid (next HB0.out hb1)
    clear hb1
    go_wp2_with fail
    refine (C2.out _).mono ?_
    rintro e w2 ⟨rfl, hb2⟩
    have HB2 := Lib.hid (next HB.out (next ((Below.refl _ _).alloc (Nat.le_refl _) _) hb2))
    clear hb2
    go_wp2_with fail
    go_ret2
    exact ⟨rfl, HB2.out⟩
  · rw [show slotE b k l s r = 7 by unfold slotE; rw [if_neg hz]] at C1 ⊢
    rw [show blkV b k l s r = 0 by unfold blkV; rw [if_neg hz]]
    generalize slotV b k l s r = q at *
    clear hz
    unfold cfgV shpV planV at *
    go_enter Try.func14, Try.ntmps14
    go_wp2_with fail
    refine (C1.out _).mono ?_
    rintro e w1 ⟨rfl, hb1⟩
    have HB := Lib.hid (next HB0.out hb1)
    clear hb1
    go_wp2_with fail
    go_ret2
    exact ⟨rfl, HB.out.trans ((Below.refl _ _).alloc HB.out.size _)⟩

end Go.Proofs.Ytdfofojlnkhjjaa
