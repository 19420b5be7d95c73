/- Layer 31: Bound of program and reference. -/
import Derived.Test.YtdfofojlnkhjjaaCFeed
namespace Go.Proofs.Ytdfofojlnkhjjaa
open Go.RowKit

def bndV (b k l s r n : Int) : Int := if fdE b k l s r n = 0 then 26 * manyV n b * (256 * (b * s) + (k + b * r) * (rnd (k + b * r) : Int)) + 202 else 0
theorem bs_bd {b s : Int} (b1 : 1 ≤ b) (b2 : b ≤ 16) (s1 : 1 ≤ s) (s2 : s ≤ 4) : 1 ≤ b * s ∧ b * s ≤ 64 := by
  have h1 : 1 * 1 ≤ b * s := Int.mul_le_mul b1 s1 (by omega) (by omega)
  have h2 : b * s ≤ 16 * 4 := Int.mul_le_mul b2 s2 (by omega) (by omega)
  omega
theorem qr_bd {q : Int} (q1 : 1 ≤ q) (q2 : q ≤ 288) : 0 ≤ q * (rnd q : Int) ∧ q * (rnd q : Int) ≤ 2592 := by
  have hr := rnd_bd q
  have h2 : q * (rnd q : Int) ≤ 288 * 9 := Int.mul_le_mul q2 (by omega) (by omega) (by omega)
  exact ⟨Int.mul_nonneg (by omega) (by omega), by omega⟩
theorem mX_bd {m X : Int} (m1 : 0 ≤ m) (m2 : m ≤ 1000) (h1 : 0 ≤ X) (h2 : X ≤ 18976) : 0 ≤ 26 * m * X ∧ 26 * m * X ≤ 493376000 := by
  have a : 0 ≤ 26 * m * X := Int.mul_nonneg (by omega) h1
  have b : 26 * m * X ≤ 26000 * 18976 := Int.mul_le_mul (by omega) h2 h1 (by omega)
  omega

set_option maxRecDepth 100000 in
set_option maxHeartbeats 2000000 in
theorem bound_r (b k l s r n : Int) (w : World) :
    Calls Try.prog 19 #[cfgV b k l, shpV s r, .int .i64 n] w fun e w' => e = .returned (.tuple #[.int .i64 (bndV b k l s r n), .int .i64 (fdE b k l s r n)]) ∧ Below w.heap.size w w' := by
  have C1 := Lib.hid (fun w => manyS_r b k l s r n w)
  have HS := Lib.hid (two w (.cells #[.int .i64 b, .int .i64 k, .int .i64 l] 23) (.cells #[.int .i64 s, .int .i64 r] 25))
  by_cases h0 : fdE b k l s r n = 0
  · obtain ⟨hz, hl⟩ := fdE_zero h0
    obtain ⟨b1, b2, _, f1, f2, _, _, s1, s2, r1, r2, f5, f6⟩ := fine hz
    have C2 := fun w => rounds_r (k + b * r) (by omega) (by omega) w
    obtain ⟨m1, m2⟩ := manyV_bd n b
    obtain ⟨y1, y2⟩ := bs_bd b1 b2 s1 s2
    obtain ⟨z1, z2⟩ := qr_bd (q := k + b * r) (by omega) (by omega)
    obtain ⟨x1, x2⟩ := mX_bd (X := 256 * (b * s) + (k + b * r) * (rnd (k + b * r) : Int)) m1 m2 (by omega) (by omega)
    have hm : 256 * b * s = 256 * (b * s) := Int.mul_assoc _ _ _
    rw [show bndV b k l s r n = 26 * manyV n b * (256 * b * s + (k + b * r) * (rnd (k + b * r) : Int)) + 202 by unfold bndV; rw [if_pos h0, hm]]
    rw [← hm] at x1 x2
    have y3 : 1 ≤ 256 * b * s ∧ 256 * b * s ≤ 16384 := by omega
    obtain ⟨y4, y5⟩ := y3
    rw [h0, show fdM b k l s r n = manyV n b by unfold fdM; rw [if_pos hz]] at C1
    rw [h0]
    generalize rnd (k + b * r) = R at *
    generalize manyV n b = m at *
    clear hz hl h0 hm
    unfold cfgV shpV at *
    go_enter Try.func19, Try.ntmps19
    go_wp2_with fail
    refine (C1.out _).mono ?_
    rintro e w1 ⟨rfl, hb1⟩
    obtain ⟨a1, a2, hB⟩ := HS.out
    have k1 := later a1 hb1
    have k2 := later a2 hb1
    have HB := Lib.hid (next hB hb1)
    obtain ⟨d0, d1, d2⟩ := c3 k1
    obtain ⟨d3, d4⟩ := c2 k2
    clear a1 a2 hB k1 k2 hb1
    go_wp2_with fail
    have w1 : IntKind.i64.wrap (26 * m) = 26 * m := IntWalk.i64_in _ (by omega)
    have w2 : IntKind.i64.wrap (256 * b) = 256 * b := IntWalk.i64_in _ (by omega)
    have w3 : IntKind.i64.wrap (256 * b * s) = 256 * b * s := IntWalk.i64_in _ (by omega)
    have w4 : IntKind.i64.wrap ((k + b * r) * (R : Int)) = (k + b * r) * (R : Int) := IntWalk.i64_in _ (by omega)
    have w5 : IntKind.i64.wrap (256 * b * s + (k + b * r) * (R : Int)) = 256 * b * s + (k + b * r) * (R : Int) := IntWalk.i64_in _ (by omega)
    have w6 : IntKind.i64.wrap (26 * m * (256 * b * s + (k + b * r) * (R : Int))) = 26 * m * (256 * b * s + (k + b * r) * (R : Int)) := IntWalk.i64_in _ (by omega)
    have w7 : IntKind.i64.wrap (26 * m * (256 * b * s + (k + b * r) * (R : Int)) + 202) = 26 * m * (256 * b * s + (k + b * r) * (R : Int)) + 202 := IntWalk.i64_in _ (by omega)
    go_quiet ((go_at_call 44; exact quiet_left (C2 _)))
    clear w1 w2 w3 w4 w5 w6 w7
    go_wp2_with fail
    go_ret2
    exact ⟨rfl, below_drewN HB.out _⟩
  · rw [show bndV b k l s r n = 0 by unfold bndV; rw [if_neg h0]]
    generalize fdE b k l s r n = le at *
    generalize fdM b k l s r n = fm at *
    have hne : (le != 0) = true := bne_iff_ne.2 h0
    clear h0
    unfold cfgV shpV at *
    go_enter Try.func19, Try.ntmps19
    go_wp2_with fail
    refine (C1.out _).mono ?_
    rintro e w1 ⟨rfl, hb1⟩
    have HB := Lib.hid (next HS.out.2.2 hb1)
    clear hb1
    go_wp2_with fail
    go_ret2
    exact ⟨rfl, HB.out⟩

set_option maxRecDepth 100000 in
set_option maxHeartbeats 2000000 in
theorem bound_p (b k l s r n : Int) (w : World) :
    Calls Try.prog 18 #[cfgV b k l, shpV s r, .int .i64 n] w fun e w' => e = .returned (.tuple #[.int .i64 (bndV b k l s r n), .int .i64 (fdE b k l s r n)]) ∧ Below w.heap.size w w' := by
  have C1 := Lib.hid (fun w => begun_p b k l s r w)
  have C2 := fun w => many_p n b w
  have HS := Lib.hid (two w (.cells #[.int .i64 b, .int .i64 k, .int .i64 l] 23) (.cells #[.int .i64 s, .int .i64 r] 25))
  by_cases hz : slotOk b k l s r = true
  · obtain ⟨b1, b2, _, f1, f2, _, _, s1, s2, r1, r2, f5, f6⟩ := fine hz
    have hq : slotV b k l s r = k + b * r := by unfold slotV; rw [if_pos hz]
    have C3 := fun w => rounds_p (k + b * r) (by omega) (by omega) w
    have he : fdE b k l s r n = lenE n b := by unfold fdE; rw [if_pos hz]
    obtain ⟨m1, m2⟩ := manyV_bd n b
    obtain ⟨y1, y2⟩ := bs_bd b1 b2 s1 s2
    obtain ⟨z1, z2⟩ := qr_bd (q := k + b * r) (by omega) (by omega)
    obtain ⟨x1, x2⟩ := mX_bd (X := 256 * (b * s) + (k + b * r) * (rnd (k + b * r) : Int)) m1 m2 (by omega) (by omega)
    rw [show slotE b k l s r = 0 by unfold slotE; rw [if_pos hz], hq] at C1
    unfold bndV
    rw [he]
    have hm : b * s * 256 = 256 * (b * s) := Int.mul_comm _ _
    rw [← hm] at x1 x2 ⊢
    generalize pow2 (rnd (k + b * r)) = pp at *
    generalize rnd (k + b * r) = R at *
    generalize manyV n b = m at *
    generalize k + b * r = q at *
    clear hz hq he hm
    by_cases h0 : lenE n b = 0
    · rw [h0] at C2 ⊢
      rw [if_pos rfl]
      clear h0
      unfold cfgV shpV planV at *
      go_enter Try.func18, Try.ntmps18
      go_wp2_with fail
      refine (C1.out _).mono ?_
      rintro e w1 ⟨rfl, hb1⟩
      obtain ⟨a1, a2, hB⟩ := HS.out
      have k1 := later a1 hb1
      have k2 := later a2 hb1
      have HB := Lib.hid (next hB hb1)
      obtain ⟨d0, d1, d2⟩ := c3 k1
      obtain ⟨d3, d4⟩ := c2 k2
      have hl : w.heap.size + 1 < w1.heap.size := (Array.getElem?_eq_some_iff.1 k2).1
      have hl2 : w.heap.size < w1.heap.size := by omega
      clear a1 a2 hB k1 k2 hb1
      go_wp2_with (first | (go_at_call 40; refine (C2 _).mono ?_; rintro e w' ⟨rfl, rfl⟩) | (go_at_call 43; refine (C3 _).mono ?_; rintro e w' ⟨rfl, rfl⟩))
      go_ret2
      exact ⟨rfl, HB.out.trans ((Below.refl _ _).alloc HB.out.size _)⟩
    · rw [if_neg h0]
      generalize lenE n b = le at *
      have hne : (le != 0) = true := bne_iff_ne.2 h0
      clear h0
      unfold cfgV shpV planV at *
      go_enter Try.func18, Try.ntmps18
      go_wp2_with fail
      refine (C1.out _).mono ?_
      rintro e w1 ⟨rfl, hb1⟩
      obtain ⟨a1, a2, hB⟩ := HS.out
      have k1 := later a1 hb1
      have HB := Lib.hid (next hB hb1)
      obtain ⟨d0, d1, d2⟩ := c3 k1
      have hl : w.heap.size < w1.heap.size := (Array.getElem?_eq_some_iff.1 k1).1
      clear a1 a2 hB k1 hb1
      go_wp2_with (go_at_call 40; refine (C2 _).mono ?_; rintro e w' ⟨rfl, rfl⟩)
      go_ret2
      exact ⟨rfl, HB.out.trans ((Below.refl _ _).alloc HB.out.size _)⟩
  · have he : fdE b k l s r n = 7 := by unfold fdE; rw [if_neg hz]
    rw [show slotE b k l s r = 7 by unfold slotE; rw [if_neg hz]] at C1
    rw [show bndV b k l s r n = 0 by unfold bndV; rw [he, if_neg (by decide)], he]
    generalize slotV b k l s r = q at *
    clear hz he C2
    unfold cfgV shpV planV at *
    go_enter Try.func18, Try.ntmps18
    go_wp2_with fail
    refine (C1.out _).mono ?_
    rintro e w1 ⟨rfl, hb1⟩
    have HB := Lib.hid (next HS.out.2.2 hb1)
    clear hb1
    go_wp2_with fail
    go_ret2
    exact ⟨rfl, HB.out.trans ((Below.refl _ _).alloc HB.out.size _)⟩

end Go.Proofs.Ytdfofojlnkhjjaa
