/- Layer 30, the reference: Open, Feed, Flush, Reset: the lengths of their traces. -/
import Derived.Test.YtdfofojlnkhjjaaCBg
namespace Go.Proofs.Ytdfofojlnkhjjaa
open Go.RowKit

structure TF (s r q : Int) (t : Nat → Int) : Prop where
  t0 : t 0 = 0
  t1 : t 1 = 256 * s
  t2 : t 2 = 257 * s
  t3 : t 3 = 257 * s + r * s
  t4 : t 4 = 258 * s + r * s
  t6 : t 6 = 259 * s + r * s + r
  t8 : t 8 = 259 * s + r * s + r + 4 * q
  t9 : t 9 = 259 * s + r * s + r + 4 * q + 4
theorem tf (b k s r : Int) : TF s r (k + b * r) (sumTo (szAt b k s r)) := by
  constructor <;> simp only [sumTo, szAt, szL, List.getD_cons_zero, List.getD_cons_succ] <;> omega

set_option maxRecDepth 100000 in
set_option maxHeartbeats 4000000 in
theorem open30 (b k l s r : Int) (hz : slotOk b k l s r = true) (w : World) :
    Calls Try.prog 29 #[cfgV b k l, shpV s r] w fun e w' => ∃ a cap, e = .returned (.tuple #[.slice a (openV b k l s r).toNat cap, .int .i64 0]) ∧ Below w.heap.size w w' := by
  have K1 := Lib.hid (fun w => begun30 b k l s r hz w)
  have F := fine hz
  have T := tf b k s r
  have HP := Lib.hid (Plain.start w b k l s r)
  obtain ⟨b1, b2, bb, k1, k2, l1, l2, s1, s2, r1, r2, m1, m2⟩ := F
  have hrs1 : 0 ≤ r * s := Int.mul_nonneg (by omega) (by omega)
  have hrs2 : r * s ≤ 16 * 4 := Int.mul_le_mul r2 s2 (by omega) (by omega)
  obtain ⟨t0, t1, t2, t3, t4, t6, t8, t9⟩ := T
  generalize sumTo (szAt b k s r) = t at *
  have q1 : 2 ≤ k + b * r := by omega
  have q2 : k + b * r ≤ 288 := by omega
  generalize hq : k + b * r = q at *
  have u0 : 0 ≤ t 0 ∧ t 0 ≤ t 1 ∧ t 1 ≤ t 2 ∧ t 2 ≤ t 3 ∧ t 3 ≤ t 4 ∧ t 4 ≤ 5000 := by omega
  have u1 : 0 ≤ t 6 ∧ t 6 ≤ 5000 ∧ 0 ≤ t 8 ∧ t 8 ≤ t 9 ∧ t 9 ≤ 5000 := by omega
  have HN := Lib.hid (show 0 + (t 1 - t 0).toNat + (t 2 - t 1).toNat + (t 3 - t 2).toNat + (t 4 - t 3).toNat + (t 9 - t 8).toNat = (openV b k l s r).toNat by unfold openV; rw [if_pos hz]; omega)
  generalize (openV b k l s r).toNat = N at *
  clear t0 t1 t2 t3 t4 t6 t8 t9 hq hz bb
  obtain ⟨⟨d0, d1, d2⟩, ⟨d3, d4⟩, _⟩ := HP.out.cells
  unfold cfgV shpV at *
  go_enter Try.func29, Try.ntmps29
  go_wp2_with fail
  refine (K1.out _).mono ?_
  rintro e w1 ⟨B, rfl, hp, hBs, hb⟩
  have P1 := Lib.hid (HP.out.keep hb rfl)
  have HX := Lib.hid hp
  have HW := Lib.hid (Below.refl B w1)
  have hB2 : w.heap.size ≤ B := by have := hBs; (try simp only [World.size_alloc] at this); omega
  clear d0 d1 d2 d3 d4 hp hb hBs
  obtain ⟨⟨d0, d1, d2, d3, d4, d5⟩, ⟨x0, x1, x2, x3, x4, x5, x6, x7, x8, x9⟩⟩ := HX.out.cells
  go_wp2_with fail
  go_still_tail 9, (by kernel_rfl)
  go_wp2_with fail
  replace HX := Lib.hid (HX.out.keep ((Below.refl _ _).drew) rfl)
  replace HW := Lib.hid HW.out.drew
  refine (stores_r B b k l s r q t _ _ _ _ (by omega) (by omega) (by omega) (by omega) HX.out).mono ?_
  rintro e u ⟨rfl, hp, hb⟩
  replace HX := Lib.hid hp
  replace HW := Lib.hid (HW.out.trans hb)
  clear hp hb d0 d1 d2 d3 d4 d5 x0 x1 x2 x3 x4 x5 x6 x7 x8 x9
  obtain ⟨⟨d0, d1, d2, d3, d4, d5⟩, ⟨x0, x1, x2, x3, x4, x5, x6, x7, x8, x9⟩⟩ := HX.out.cells
  go_wp2_with fail
  go_still_tail 9, (by kernel_rfl)
  go_wp2_with fail
  replace HX := Lib.hid (HX.out.keep ((Below.refl _ _).drew) rfl)
  replace HW := Lib.hid HW.out.drew
  refine (stores_r B b k l s r q t _ _ _ _ (by omega) (by omega) (by omega) (by omega) HX.out).mono ?_
  rintro e u ⟨rfl, hp, hb⟩
  replace HX := Lib.hid hp
  replace HW := Lib.hid (HW.out.trans hb)
  clear hp hb d0 d1 d2 d3 d4 d5 x0 x1 x2 x3 x4 x5 x6 x7 x8 x9
  obtain ⟨⟨d0, d1, d2, d3, d4, d5⟩, ⟨x0, x1, x2, x3, x4, x5, x6, x7, x8, x9⟩⟩ := HX.out.cells
  go_wp2_with fail
  go_still_tail 9, (by kernel_rfl)
  go_wp2_with fail
  replace HX := Lib.hid (HX.out.keep ((Below.refl _ _).drew) rfl)
  replace HW := Lib.hid HW.out.drew
  refine (stores_r B b k l s r q t _ _ _ _ (by omega) (by omega) (by omega) (by omega) HX.out).mono ?_
  rintro e u ⟨rfl, hp, hb⟩
  replace HX := Lib.hid hp
  replace HW := Lib.hid (HW.out.trans hb)
  clear hp hb d0 d1 d2 d3 d4 d5 x0 x1 x2 x3 x4 x5 x6 x7 x8 x9
  obtain ⟨⟨d0, d1, d2, d3, d4, d5⟩, ⟨x0, x1, x2, x3, x4, x5, x6, x7, x8, x9⟩⟩ := HX.out.cells
  go_wp2_with fail
  go_still_tail 9, (by kernel_rfl)
  go_wp2_with fail
  replace HX := Lib.hid (HX.out.keep ((Below.refl _ _).drew) rfl)
  replace HW := Lib.hid HW.out.drew
  refine (stores_r B b k l s r q t _ _ _ _ (by omega) (by omega) (by omega) (by omega) HX.out).mono ?_
  rintro e u ⟨rfl, hp, hb⟩
  replace HX := Lib.hid hp
  replace HW := Lib.hid (HW.out.trans hb)
  clear hp hb d0 d1 d2 d3 d4 d5 x0 x1 x2 x3 x4 x5 x6 x7 x8 x9
  obtain ⟨⟨d0, d1, d2, d3, d4, d5⟩, ⟨x0, x1, x2, x3, x4, x5, x6, x7, x8, x9⟩⟩ := HX.out.cells
  go_wp2_with fail
  go_still_tail 9, (by kernel_rfl)
  go_wp2_with fail
  replace HX := Lib.hid (HX.out.keep ((Below.refl _ _).drew) rfl)
  replace HW := Lib.hid HW.out.drew
  refine (stores_r B b k l s r q t _ _ _ _ (by omega) (by omega) (by omega) (by omega) HX.out).mono ?_
  rintro e u ⟨rfl, hp, hb⟩
  replace HX := Lib.hid hp
  replace HW := Lib.hid (HW.out.trans hb)
  clear hp hb d0 d1 d2 d3 d4 d5 x0 x1 x2 x3 x4 x5 x6 x7 x8 x9
  obtain ⟨⟨d0, d1, d2, d3, d4, d5⟩, ⟨x0, x1, x2, x3, x4, x5, x6, x7, x8, x9⟩⟩ := HX.out.cells
  obtain ⟨a, cap, hc⟩ := (HX.out.cast HN.out).out
  go_wp2_with fail
  go_ret2
  exact ⟨a, cap, rfl, P1.out.bel.trans (HW.out.mono hB2)⟩

set_option maxRecDepth 100000 in
set_option maxHeartbeats 4000000 in
theorem feed30 (b k l s r : Int) (nn : Int) (hz : slotOk b k l s r = true) (hL : lenE nn b = 0) (hM : manyV nn b ≤ 40) (w : World) :
    Calls Try.prog 30 #[cfgV b k l, shpV s r, .int .i64 nn] w fun e w' => ∃ a cap, e = .returned (.tuple #[.slice a (fdV b k l s r nn).toNat cap, .int .i64 0]) ∧ Below w.heap.size w w' := by
  have K1 := Lib.hid (fun w => begun30 b k l s r hz w)
  have F := fine hz
  have T := tf b k s r
  have HP := Lib.hid (Plain.start w b k l s r)
  obtain ⟨b1, b2, bb, k1, k2, l1, l2, s1, s2, r1, r2, m1, m2⟩ := F
  have hrs1 : 0 ≤ r * s := Int.mul_nonneg (by omega) (by omega)
  have hrs2 : r * s ≤ 16 * 4 := Int.mul_le_mul r2 s2 (by omega) (by omega)
  obtain ⟨_, nn1, nn2⟩ := lenE_zero hL
  have hfd : 0 + (6 * k.toNat + 10 + (manyV nn b).toNat * cBlk b s r (k + b * r)) = (fdV b k l s r nn).toNat := by
    obtain ⟨M1, M2⟩ := manyV_bd nn b
    obtain ⟨mv1, mv2⟩ := moves_bd (q := k + b * r) (by omega) (by omega)
    have hB : (cBlk b s r (k + b * r) : Int) = blockV b s r (k + b * r) := by
      unfold cBlk cByte blockV
      push_cast
      rw [Int.toNat_of_nonneg (show 0 ≤ b by omega), Int.toNat_of_nonneg (show 0 ≤ s by omega), Int.toNat_of_nonneg (show 0 ≤ r by omega), Int.toNat_of_nonneg (show 0 ≤ k + b * r by omega), Int.toNat_of_nonneg mv1]
      have e : 261 * s + r * (2 * s + 1) + 4 * r = 261 * s + r * (2 * s + 5) := by rw [Int.mul_add, Int.mul_add]; omega
      rw [e]; omega
    have hv : fdV b k l s r nn = 6 * k + 10 + manyV nn b * blockV b s r (k + b * r) := by
      unfold fdV; rw [if_pos (by unfold fdE; rw [if_pos hz]; exact hL)]; rfl
    have hMB : (((manyV nn b).toNat * cBlk b s r (k + b * r) : Nat) : Int) = manyV nn b * blockV b s r (k + b * r) := by
      rw [Int.natCast_mul, hB, Int.toNat_of_nonneg M1]
    omega
  have HN := Lib.hid hfd
  have HQ := Lib.hid (show 1 ≤ k + b * r ∧ k + b * r ≤ 288 by omega)
  clear hfd
  generalize (fdV b k l s r nn).toNat = N at *
  obtain ⟨t0, t1, t2, t3, t4, t6, t8, t9⟩ := T
  generalize sumTo (szAt b k s r) = t at *
  have q1 : 2 ≤ k + b * r := by omega
  have q2 : k + b * r ≤ 288 := by omega
  generalize hq : k + b * r = q at *
  have u0 : 0 ≤ t 0 ∧ t 0 ≤ t 1 ∧ t 1 ≤ t 2 ∧ t 2 ≤ t 3 ∧ t 3 ≤ t 4 ∧ t 4 ≤ 5000 := by omega
  have u1 : 0 ≤ t 6 ∧ t 6 ≤ 5000 ∧ 0 ≤ t 8 ∧ t 8 ≤ t 9 ∧ t 9 ≤ 5000 := by omega
  clear t0 t1 t2 t3 t4 t6 t8 t9 hq hz bb
  obtain ⟨⟨d0, d1, d2⟩, ⟨d3, d4⟩, _⟩ := HP.out.cells
  unfold cfgV shpV at *
  go_enter Try.func30, Try.ntmps30
  go_wp2_with fail
  refine (K1.out _).mono ?_
  rintro e w1 ⟨B, rfl, hp, hBs, hb⟩
  have P1 := Lib.hid (HP.out.keep hb rfl)
  have HX := Lib.hid hp
  have HW := Lib.hid (Below.refl B w1)
  have hB2 : w.heap.size ≤ B := by have := hBs; (try simp only [World.size_alloc] at this); omega
  clear d0 d1 d2 d3 d4 hp hb hBs
  obtain ⟨⟨d0, d1, d2, d3, d4, d5⟩, ⟨x0, x1, x2, x3, x4, x5, x6, x7, x8, x9⟩⟩ := HX.out.cells
  go_wp2_with fail
  refine (feedT_r B b k l s r q t 0 nn _ (by omega) ⟨b1, b2⟩ ⟨k1, k2⟩ ⟨r1, r2⟩ ⟨s1, s2⟩ HQ.out (by omega) (by omega) hM HX.out).mono ?_
  rintro e u ⟨rfl, hp, hb⟩
  replace HX := Lib.hid hp
  replace HW := Lib.hid (HW.out.trans hb)
  clear hp hb d0 d1 d2 d3 d4 d5 x0 x1 x2 x3 x4 x5 x6 x7 x8 x9
  obtain ⟨a, cap, hc⟩ := (HX.out.cast HN.out).out
  go_wp2_with fail
  go_ret2
  exact ⟨a, cap, rfl, P1.out.bel.trans (HW.out.mono hB2)⟩

set_option maxRecDepth 100000 in
set_option maxHeartbeats 4000000 in
theorem flush30 (b k l s r : Int) (hz : slotOk b k l s r = true) (w : World) :
    Calls Try.prog 56 #[cfgV b k l, shpV s r] w fun e w' => ∃ a cap, e = .returned (.tuple #[.slice a 2 cap, .int .i64 0]) ∧ Below w.heap.size w w' := by
  have K1 := Lib.hid (fun w => begun30 b k l s r hz w)
  have F := fine hz
  have T := tf b k s r
  have HP := Lib.hid (Plain.start w b k l s r)
  obtain ⟨b1, b2, bb, k1, k2, l1, l2, s1, s2, r1, r2, m1, m2⟩ := F
  have hrs1 : 0 ≤ r * s := Int.mul_nonneg (by omega) (by omega)
  have hrs2 : r * s ≤ 16 * 4 := Int.mul_le_mul r2 s2 (by omega) (by omega)
  obtain ⟨t0, t1, t2, t3, t4, t6, t8, t9⟩ := T
  generalize sumTo (szAt b k s r) = t at *
  have q1 : 2 ≤ k + b * r := by omega
  have q2 : k + b * r ≤ 288 := by omega
  generalize hq : k + b * r = q at *
  have u0 : 0 ≤ t 0 ∧ t 0 ≤ t 1 ∧ t 1 ≤ t 2 ∧ t 2 ≤ t 3 ∧ t 3 ≤ t 4 ∧ t 4 ≤ 5000 := by omega
  have u1 : 0 ≤ t 6 ∧ t 6 ≤ 5000 ∧ 0 ≤ t 8 ∧ t 8 ≤ t 9 ∧ t 9 ≤ 5000 := by omega
  clear t0 t1 t2 t3 t4 t6 t8 t9 hq hz bb
  obtain ⟨⟨d0, d1, d2⟩, ⟨d3, d4⟩, _⟩ := HP.out.cells
  unfold cfgV shpV at *
  go_enter Try.func56, Try.ntmps56
  go_wp2_with fail
  refine (K1.out _).mono ?_
  rintro e w1 ⟨B, rfl, hp, hBs, hb⟩
  have P1 := Lib.hid (HP.out.keep hb rfl)
  have HX := Lib.hid hp
  have HW := Lib.hid (Below.refl B w1)
  have hB2 : w.heap.size ≤ B := by have := hBs; (try simp only [World.size_alloc] at this); omega
  clear d0 d1 d2 d3 d4 hp hb hBs
  obtain ⟨⟨d0, d1, d2, d3, d4, d5⟩, ⟨x0, x1, x2, x3, x4, x5, x6, x7, x8, x9⟩⟩ := HX.out.cells
  go_wp2_with fail
  refine (load_r B b k l s r q t _ _ _ (by omega) HX.out).mono ?_
  rintro e u ⟨rfl, hp, hb⟩
  replace HX := Lib.hid hp
  replace HW := Lib.hid (HW.out.trans hb)
  clear hp hb d0 d1 d2 d3 d4 d5 x0 x1 x2 x3 x4 x5 x6 x7 x8 x9
  obtain ⟨⟨d0, d1, d2, d3, d4, d5⟩, ⟨x0, x1, x2, x3, x4, x5, x6, x7, x8, x9⟩⟩ := HX.out.cells
  go_wp2_with fail
  refine (load_r B b k l s r q t _ _ _ (by omega) HX.out).mono ?_
  rintro e u ⟨rfl, hp, hb⟩
  replace HX := Lib.hid hp
  replace HW := Lib.hid (HW.out.trans hb)
  clear hp hb d0 d1 d2 d3 d4 d5 x0 x1 x2 x3 x4 x5 x6 x7 x8 x9
  obtain ⟨⟨d0, d1, d2, d3, d4, d5⟩, ⟨x0, x1, x2, x3, x4, x5, x6, x7, x8, x9⟩⟩ := HX.out.cells
  obtain ⟨a, cap, hc⟩ := (HX.out.cast (show 0 + 1 + 1 = 2 from rfl)).out
  go_wp2_with fail
  go_ret2
  exact ⟨a, cap, rfl, P1.out.bel.trans (HW.out.mono hB2)⟩

set_option maxRecDepth 100000 in
set_option maxHeartbeats 4000000 in
theorem reset30 (b k l s r : Int) (hz : slotOk b k l s r = true) (w : World) :
    Calls Try.prog 57 #[cfgV b k l, shpV s r] w fun e w' => ∃ a cap, e = .returned (.tuple #[.slice a (s + 4).toNat cap, .int .i64 0]) ∧ Below w.heap.size w w' := by
  have K1 := Lib.hid (fun w => begun30 b k l s r hz w)
  have F := fine hz
  have T := tf b k s r
  have HP := Lib.hid (Plain.start w b k l s r)
  obtain ⟨b1, b2, bb, k1, k2, l1, l2, s1, s2, r1, r2, m1, m2⟩ := F
  have hrs1 : 0 ≤ r * s := Int.mul_nonneg (by omega) (by omega)
  have hrs2 : r * s ≤ 16 * 4 := Int.mul_le_mul r2 s2 (by omega) (by omega)
  obtain ⟨t0, t1, t2, t3, t4, t6, t8, t9⟩ := T
  generalize sumTo (szAt b k s r) = t at *
  have q1 : 2 ≤ k + b * r := by omega
  have q2 : k + b * r ≤ 288 := by omega
  generalize hq : k + b * r = q at *
  have u0 : 0 ≤ t 0 ∧ t 0 ≤ t 1 ∧ t 1 ≤ t 2 ∧ t 2 ≤ t 3 ∧ t 3 ≤ t 4 ∧ t 4 ≤ 5000 := by omega
  have u1 : 0 ≤ t 6 ∧ t 6 ≤ 5000 ∧ 0 ≤ t 8 ∧ t 8 ≤ t 9 ∧ t 9 ≤ 5000 := by omega
  have HN := Lib.hid (show 0 + (t 4 - t 3).toNat + (t 9 - t 8).toNat = (s + 4).toNat by omega)
  generalize (s + 4).toNat = N at *
  clear t0 t1 t2 t3 t4 t6 t8 t9 hq hz bb
  obtain ⟨⟨d0, d1, d2⟩, ⟨d3, d4⟩, _⟩ := HP.out.cells
  unfold cfgV shpV at *
  go_enter Try.func57, Try.ntmps57
  go_wp2_with fail
  refine (K1.out _).mono ?_
  rintro e w1 ⟨B, rfl, hp, hBs, hb⟩
  have P1 := Lib.hid (HP.out.keep hb rfl)
  have HX := Lib.hid hp
  have HW := Lib.hid (Below.refl B w1)
  have hB2 : w.heap.size ≤ B := by have := hBs; (try simp only [World.size_alloc] at this); omega
  clear d0 d1 d2 d3 d4 hp hb hBs
  obtain ⟨⟨d0, d1, d2, d3, d4, d5⟩, ⟨x0, x1, x2, x3, x4, x5, x6, x7, x8, x9⟩⟩ := HX.out.cells
  go_wp2_with fail
  go_still_tail 9, (by kernel_rfl)
  go_wp2_with fail
  replace HX := Lib.hid (HX.out.keep ((Below.refl _ _).drew) rfl)
  replace HW := Lib.hid HW.out.drew
  refine (stores_r B b k l s r q t _ _ _ _ (by omega) (by omega) (by omega) (by omega) HX.out).mono ?_
  rintro e u ⟨rfl, hp, hb⟩
  replace HX := Lib.hid hp
  replace HW := Lib.hid (HW.out.trans hb)
  clear hp hb d0 d1 d2 d3 d4 d5 x0 x1 x2 x3 x4 x5 x6 x7 x8 x9
  obtain ⟨⟨d0, d1, d2, d3, d4, d5⟩, ⟨x0, x1, x2, x3, x4, x5, x6, x7, x8, x9⟩⟩ := HX.out.cells
  go_wp2_with fail
  go_still_tail 9, (by kernel_rfl)
  go_wp2_with fail
  replace HX := Lib.hid (HX.out.keep ((Below.refl _ _).drew) rfl)
  replace HW := Lib.hid HW.out.drew
  refine (stores_r B b k l s r q t _ _ _ _ (by omega) (by omega) (by omega) (by omega) HX.out).mono ?_
  rintro e u ⟨rfl, hp, hb⟩
  replace HX := Lib.hid hp
  replace HW := Lib.hid (HW.out.trans hb)
  clear hp hb d0 d1 d2 d3 d4 d5 x0 x1 x2 x3 x4 x5 x6 x7 x8 x9
  obtain ⟨⟨d0, d1, d2, d3, d4, d5⟩, ⟨x0, x1, x2, x3, x4, x5, x6, x7, x8, x9⟩⟩ := HX.out.cells
  obtain ⟨a, cap, hc⟩ := (HX.out.cast HN.out).out
  go_wp2_with fail
  go_ret2
  exact ⟨a, cap, rfl, P1.out.bel.trans (HW.out.mono hB2)⟩

end Go.Proofs.Ytdfofojlnkhjjaa
