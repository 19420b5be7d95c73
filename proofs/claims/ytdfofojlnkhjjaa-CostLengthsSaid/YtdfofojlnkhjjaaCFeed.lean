/- Layer 31: plan.feed, Feed of program and reference. -/
import Derived.Test.YtdfofojlnkhjjaaCOpenP
import Derived.Lib.QuietBelow
namespace Go.Proofs.Ytdfofojlnkhjjaa
open Go.RowKit

/-- the steps of a Feed of m blocks -/
def feedV (b k s r q m : Int) : Int := 6 * k + 10 + m * blockV b s r q
def fdV (b k l s r n : Int) : Int := if fdE b k l s r n = 0 then feedV b k s r (k + b * r) (manyV n b) else 0
theorem block_bd {b s r q : Int} (b1 : 1 ≤ b) (b2 : b ≤ 16) (s1 : 1 ≤ s) (s2 : s ≤ 4) (r1 : 1 ≤ r) (r2 : r ≤ 16) (q1 : 1 ≤ q) (q2 : q ≤ 288) : 0 ≤ blockV b s r q ∧ blockV b s r q ≤ 100000 := by
  obtain ⟨m1, m2⟩ := moves_bd q1 q2
  obtain ⟨l1, l2⟩ := line_bd s1 s2 r1 r2
  obtain ⟨x1, x2⟩ := mulb_bd (X := 261 * s + r * (2 * s + 5)) b1 b2 (by omega) (by omega)
  have h0 : 0 ≤ 8 * q + 4 + 16 * movesV q := by omega
  unfold blockV
  omega
theorem mB_bd {m B : Int} (m1 : 0 ≤ m) (m2 : m ≤ 1000) (h1 : 0 ≤ B) (h2 : B ≤ 100000) : 0 ≤ m * B ∧ m * B ≤ 100000000 := by
  have a : 0 ≤ m * B := Int.mul_nonneg m1 h1
  have b : m * B ≤ 1000 * 100000 := Int.mul_le_mul m2 h2 h1 (by omega)
  omega
theorem fdE_zero {b k l s r n : Int} (h : fdE b k l s r n = 0) : slotOk b k l s r = true ∧ lenE n b = 0 := by
  unfold fdE at h
  split at h
  · exact ⟨by assumption, h⟩
  · cases h

set_option maxRecDepth 100000 in
set_option maxHeartbeats 2000000 in
theorem feedM_p (b k l s r q n : Int) (b1 : 1 ≤ b) (b2 : b ≤ 16) (f1 : 0 ≤ k) (f2 : k ≤ 64) (s1 : 1 ≤ s) (s2 : s ≤ 4) (r1 : 1 ≤ r) (r2 : r ≤ 16) (q1 : 1 ≤ q) (q2 : q ≤ 288) (w : World) :
    Calls Try.prog 41 #[planV b k l s r q, .int .i64 n] w fun e w' => e = .returned (.int .i64 (feedV b k s r q (manyV n b))) ∧ Below w.heap.size w w' := by
  have C1 := fun w => many_p n b w
  have C2 := Lib.hid (fun w => block_p b k l s r q b1 b2 s1 s2 r1 r2 q1 q2 w)
  obtain ⟨m1, m2⟩ := manyV_bd n b
  obtain ⟨v1, v2⟩ := block_bd b1 b2 s1 s2 r1 r2 q1 q2
  obtain ⟨x1, x2⟩ := mB_bd m1 m2 v1 v2
  have a1 := heap_alloc_new w (.cells #[.int .i64 b, .int .i64 k, .int .i64 l, .int .i64 s, .int .i64 r, .int .i64 q] 61)
  obtain ⟨⟨d0, d1, d2, d3, d4, d5⟩, _⟩ := c6 a1
  have g0 := fun d os => cell_regrown d0 d os
  have g1 := fun d os => cell_regrown d1 d os
  have g2 := fun d os => cell_regrown d2 d os
  have g3 := fun d os => cell_regrown d3 d os
  have g4 := fun d os => cell_regrown d4 d os
  have g5 := fun d os => cell_regrown d5 d os
  unfold feedV
  generalize blockV b s r q = V at *
  generalize lenE n b = le at *
  generalize manyV n b = m at *
  clear a1
  have HB := Lib.hid ((Below.refl _ w).alloc (Nat.le_refl _) (.cells #[.int .i64 b, .int .i64 k, .int .i64 l, .int .i64 s, .int .i64 r, .int .i64 q] 61))
  unfold planV at *
  go_enter Try.func41, Try.ntmps41
  go_wp2_with (go_at_call 40; refine (C1 _).mono ?_; rintro e w' ⟨rfl, rfl⟩)
  have w1 : IntKind.i64.wrap (6 * k) = 6 * k := IntWalk.i64_in _ (by omega)
  have w2 : IntKind.i64.wrap (6 * k + 10) = 6 * k + 10 := IntWalk.i64_in _ (by omega)
  have w3 : IntKind.i64.wrap (m * V) = m * V := IntWalk.i64_in _ (by omega)
  have w4 : IntKind.i64.wrap (6 * k + 10 + m * V) = 6 * k + 10 + m * V := IntWalk.i64_in _ (by omega)
  refine wp_region_quiet_below (by kernel_rfl) (by kernel_rfl) ?_
  repeat (go_big_quiet_step ((go_at_call 38; exact Calls.regrown_of (C2.out _))))
  refine wpQuiet_nil ?_
  intro _ hw'
  obtain ⟨⟨dq, osq⟩, hw''⟩ := hw'
  subst hw''
  clear w1 w2 w3 w4 g0 g1 g2 g3 g4 g5
  go_wp2_with fail
  go_ret
  exact ⟨rfl, next HB.out (below_regrown _ _ _)⟩

set_option maxRecDepth 100000 in
set_option maxHeartbeats 2000000 in
theorem feed_p (b k l s r n : Int) (w : World) :
    Calls Try.prog 16 #[cfgV b k l, shpV s r, .int .i64 n] w fun e w' => e = .returned (.tuple #[.int .i64 (fdV b k l s r n), .int .i64 (fdE b k l s r n)]) ∧ Below w.heap.size w w' := by
  have C1 := Lib.hid (fun w => begun_p b k l s r w)
  have C2 := fun w => many_p n b w
  have HS := Lib.hid (two w (.cells #[.int .i64 b, .int .i64 k, .int .i64 l] 23) (.cells #[.int .i64 s, .int .i64 r] 25))
  by_cases hz : slotOk b k l s r = true
  · obtain ⟨b1, b2, _, f1, f2, _, _, s1, s2, r1, r2, f5, f6⟩ := fine hz
    have hq : slotV b k l s r = k + b * r := by unfold slotV; rw [if_pos hz]
    have C3 := Lib.hid (fun w => feedM_p b k l s r (k + b * r) n b1 b2 (by omega) (by omega) s1 s2 r1 r2 (by omega) (by omega) w)
    have he : fdE b k l s r n = lenE n b := by unfold fdE; rw [if_pos hz]
    rw [show slotE b k l s r = 0 by unfold slotE; rw [if_pos hz], hq] at C1
    unfold fdV
    rw [he]
    generalize feedV b k s r (k + b * r) (manyV n b) = V at *
    generalize k + b * r = q at *
    clear hz hq he
    by_cases h0 : lenE n b = 0
    · rw [h0] at C2 ⊢
      rw [if_pos rfl]
      clear h0
      unfold cfgV shpV planV at *
      go_enter Try.func16, Try.ntmps16
      go_wp2_with fail
      refine (C1.out _).mono ?_
      rintro e w1 ⟨rfl, hb1⟩
      obtain ⟨a1, a2, hB⟩ := HS.out
      have k1 := later a1 hb1
      have HB := Lib.hid (next hB hb1)
      obtain ⟨d0, d1, d2⟩ := c3 k1
      have hl : w.heap.size < w1.heap.size := (Array.getElem?_eq_some_iff.1 k1).1
      clear a1 a2 hB k1 hb1
      go_wp2_with (go_at_call 40; refine (C2 _).mono ?_; rintro e w' ⟨rfl, rfl⟩)
      refine (C3.out _).mono ?_
      rintro e w2 ⟨rfl, hb2⟩
      have HB2 := Lib.hid (next HB.out (next ((Below.refl _ _).alloc (Nat.le_refl _) _) hb2))
      clear hb2
      go_wp2_with fail
      go_ret2
      exact ⟨rfl, HB2.out⟩
    · rw [if_neg h0]
      generalize lenE n b = le at *
      have hne : (le != 0) = true := bne_iff_ne.2 h0
      clear h0
      unfold cfgV shpV planV at *
      go_enter Try.func16, Try.ntmps16
      go_wp2_with fail
      refine (C1.out _).mono ?_
      rintro e w1 ⟨rfl, hb1⟩
      obtain ⟨a1, a2, hB⟩ := HS.out
      have k1 := later a1 hb1
      have HB := Lib.hid (next hB hb1)
      obtain ⟨d0, d1, d2⟩ := c3 k1
      have hl : w.heap.size < w1.heap.size := (Array.getElem?_eq_some_iff.1 k1).1
      clear a1 a2 hB k1 hb1
      go_wp2_with (go_at_call 40; refine (C2 _).mono ?_; rintro e w' ⟨rfl, rfl⟩)
      go_ret2
      exact ⟨rfl, HB.out.trans ((Below.refl _ _).alloc HB.out.size _)⟩
  · have he : fdE b k l s r n = 7 := by unfold fdE; rw [if_neg hz]
    rw [show slotE b k l s r = 7 by unfold slotE; rw [if_neg hz]] at C1
    rw [show fdV b k l s r n = 0 by unfold fdV; rw [he, if_neg (by decide)], he]
    generalize slotV b k l s r = q at *
    clear hz he C2
    unfold cfgV shpV planV at *
    go_enter Try.func16, Try.ntmps16
    go_wp2_with fail
    refine (C1.out _).mono ?_
    rintro e w1 ⟨rfl, hb1⟩
    have HB := Lib.hid (next HS.out.2.2 hb1)
    clear hb1
    go_wp2_with fail
    go_ret2
    exact ⟨rfl, HB.out.trans ((Below.refl _ _).alloc HB.out.size _)⟩

set_option maxRecDepth 100000 in
set_option maxHeartbeats 2000000 in
theorem feed_r (b k l s r n : Int) (w : World) :
    Calls Try.prog 17 #[cfgV b k l, shpV s r, .int .i64 n] w fun e w' => e = .returned (.tuple #[.int .i64 (fdV b k l s r n), .int .i64 (fdE b k l s r n)]) ∧ Below w.heap.size w w' := by
  have C1 := Lib.hid (fun w => manyS_r b k l s r n w)
  have HS := Lib.hid (two w (.cells #[.int .i64 b, .int .i64 k, .int .i64 l] 23) (.cells #[.int .i64 s, .int .i64 r] 25))
  by_cases h0 : fdE b k l s r n = 0
  · obtain ⟨hz, hl⟩ := fdE_zero h0
    obtain ⟨b1, b2, _, f1, f2, _, _, s1, s2, r1, r2, f5, f6⟩ := fine hz
    have C2 := Lib.hid (fun w => block_r b k l s r hz w)
    obtain ⟨v1, v2⟩ := block_bd (q := k + b * r) b1 b2 s1 s2 r1 r2 (by omega) (by omega)
    obtain ⟨m1, m2⟩ := manyV_bd n b
    obtain ⟨x1, x2⟩ := mB_bd m1 m2 v1 v2
    rw [show fdV b k l s r n = feedV b k s r (k + b * r) (manyV n b) by unfold fdV; rw [if_pos h0]]
    rw [h0, show fdM b k l s r n = manyV n b by unfold fdM; rw [if_pos hz]] at C1
    rw [h0]
    unfold feedV
    generalize blockV b s r (k + b * r) = V at *
    generalize manyV n b = m at *
    clear hz hl h0
    unfold cfgV shpV at *
    go_enter Try.func17, Try.ntmps17
    go_wp2_with fail
    refine (C1.out _).mono ?_
    rintro e w1 ⟨rfl, hb1⟩
    obtain ⟨a1, a2, hB⟩ := HS.out
    have k1 := later a1 hb1
    have k2 := later a2 hb1
    have HB := Lib.hid (next hB hb1)
    obtain ⟨d0, d1, d2⟩ := c3 k1
    obtain ⟨d3, d4⟩ := c2 k2
    have g0 := fun d os => cell_regrown d0 d os
    have g1 := fun d os => cell_regrown d1 d os
    have g2 := fun d os => cell_regrown d2 d os
    have g3 := fun d os => cell_regrown d3 d os
    have g4 := fun d os => cell_regrown d4 d os
    clear a1 a2 hB k1 k2 hb1
    go_wp2_with fail
    have w1 : IntKind.i64.wrap (6 * k) = 6 * k := IntWalk.i64_in _ (by omega)
    have w2 : IntKind.i64.wrap (6 * k + 10) = 6 * k + 10 := IntWalk.i64_in _ (by omega)
    have w3 : IntKind.i64.wrap (m * V) = m * V := IntWalk.i64_in _ (by omega)
    have w4 : IntKind.i64.wrap (6 * k + 10 + m * V) = 6 * k + 10 + m * V := IntWalk.i64_in _ (by omega)
    refine wp_region_quiet_below (by kernel_rfl) (by kernel_rfl) ?_
    repeat (go_big_quiet_step ((go_at_call 39; exact Calls.regrown_of (C2.out _))))
    refine wpQuiet_nil ?_
    intro _ hw'
    obtain ⟨⟨dq, osq⟩, hw''⟩ := hw'
    subst hw''
    clear w1 w2 w3 w4 g0 g1 g2 g3 g4
    go_wp2_with fail
    go_ret2
    exact ⟨rfl, next HB.out (below_regrown _ _ _)⟩
  · rw [show fdV b k l s r n = 0 by unfold fdV; rw [if_neg h0]]
    generalize fdE b k l s r n = le at *
    generalize fdM b k l s r n = fm at *
    have hne : (le != 0) = true := bne_iff_ne.2 h0
    clear h0
    unfold cfgV shpV at *
    go_enter Try.func17, Try.ntmps17
    go_wp2_with fail
    refine (C1.out _).mono ?_
    rintro e w1 ⟨rfl, hb1⟩
    have HB := Lib.hid (next HS.out.2.2 hb1)
    clear hb1
    go_wp2_with fail
    go_ret2
    exact ⟨rfl, HB.out⟩

end Go.Proofs.Ytdfofojlnkhjjaa
