/- Layer 30, the reference: feed. -/
import Derived.Test.YtdfofojlnkhjjaaCComp
import Derived.StillTailTactics
namespace Go.Proofs.Ytdfofojlnkhjjaa
open Go.RowKit

/-- the steps of a byte, and of a block, as numbers -/
def cByte (s r : Int) : Nat := 261 * s.toNat + r.toNat * (2 * s.toNat + 1) + 4 * r.toNat
def cBlk (b s r q : Int) : Nat := b.toNat * cByte s r + (8 * q.toNat + 4 + 16 * (movesV q).toNat)
set_option maxRecDepth 100000 in
set_option maxHeartbeats 4000000 in
theorem feedT_r (B : Nat) (b k l s r q : Int) (t : Nat → Int) (n : Nat) (nn : Int) (W : World) (hn : n ≤ 1000000) (hb : 1 ≤ b ∧ b ≤ 16) (hk : 1 ≤ k ∧ k ≤ 32) (hr : 1 ≤ r ∧ r ≤ 16) (hs : 1 ≤ s ∧ s ≤ 4) (hq : 1 ≤ q ∧ q ≤ 288) (h6 : 0 ≤ t 6 ∧ t 6 ≤ 5000) (h8 : 0 ≤ t 8 ∧ t 8 ≤ 5000) (hM : manyV nn b ≤ 40) (h : P30 B b k l s r q t n W) :
    Calls Try.prog 54 #[.pointer (some ⟨B, 0, none⟩), .int .i64 nn] W fun e w' => e = .returned (.tuple #[]) ∧ P30 B b k l s r q t (n + (6 * k.toNat + 10 + (manyV nn b).toNat * cBlk b s r q)) w' ∧ Below B W w' := by
  have HX := Lib.hid h
  have HW := Lib.hid (Below.refl B W)
  clear h
  obtain ⟨⟨d0, d1, d2, d3, d4, d5⟩, ⟨x0, x1, x2, x3, x4, x5, x6, x7, x8, x9⟩⟩ := HX.out.cells
  have C0 := Lib.hid (fun w => many_r nn b w)
  obtain ⟨M1, M2⟩ := manyV_bd nn b
  obtain ⟨M, hMM⟩ : ∃ M : Nat, manyV nn b = (M : Int) := ⟨(manyV nn b).toNat, by omega⟩
  rw [hMM] at C0 hM ⊢
  have hMt : ((M : Int)).toNat = M := by omega
  rw [hMt]
  obtain ⟨mv1, mv2⟩ := moves_bd hq.1 hq.2
  have c1 : r.toNat * (2 * s.toNat + 1) ≤ 16 * 9 := Nat.mul_le_mul (by omega) (by omega)
  have hC1 : cByte s r ≤ 1252 := by unfold cByte; omega
  have HC := Lib.hid (show cByte s r = 261 * s.toNat + r.toNat * (2 * s.toNat + 1) + 4 * r.toNat from rfl)
  have hbc : b.toNat * cByte s r ≤ 16 * 1252 := Nat.mul_le_mul (by omega) hC1
  have hBV : cBlk b s r q ≤ 80000 := by unfold cBlk; omega
  have HV := Lib.hid (show cBlk b s r q = b.toNat * cByte s r + (8 * q.toNat + 4 + 16 * (movesV q).toNat) from rfl)
  generalize cBlk b s r q = BV at *
  generalize cByte s r = C1 at *
  generalize lenE nn b = le at *
  clear hMM M1 M2 hMt hbc
  go_enter Try.func54, Try.ntmps54
  go_wp2_with fail
  go_still_tail 11, (by kernel_rfl)
  go_wp2_with fail
  replace HX := Lib.hid (HX.out.keep ((Below.refl _ _).drew) rfl)
  replace HW := Lib.hid HW.out.drew
  refine (stores_r B b k l s r q t _ _ _ _ (by omega) (by omega) (by omega) (by omega) HX.out).mono ?_
  rintro e u ⟨rfl, hp, hb⟩
  replace HX := Lib.hid hp
  replace HW := Lib.hid (HW.out.trans hb)
  clear hp hb d0 d1 d2 d3 d4 d5 x0 x1 x2 x3 x4 x5 x6 x7 x8 x9
  obtain ⟨⟨d0, d1, d2, d3, d4, d5⟩, ⟨x0, x1, x2, x3, x4, x5, x6, x7, x8, x9⟩⟩ := HX.out.cells
  go_wp2_with fail
  go_still_tail 10, (by kernel_rfl)
  go_wp2_with fail
  replace HX := Lib.hid (HX.out.keep ((Below.refl _ _).drew) rfl)
  replace HW := Lib.hid HW.out.drew
  refine (stores_r B b k l s r q t _ _ _ _ (by omega) (by omega) (by omega) (by omega) HX.out).mono ?_
  rintro e u ⟨rfl, hp, hb⟩
  replace HX := Lib.hid hp
  replace HW := Lib.hid (HW.out.trans hb)
  clear hp hb d0 d1 d2 d3 d4 d5 x0 x1 x2 x3 x4 x5 x6 x7 x8 x9
  obtain ⟨⟨d0, d1, d2, d3, d4, d5⟩, ⟨x0, x1, x2, x3, x4, x5, x6, x7, x8, x9⟩⟩ := HX.out.cells
  go_wp2_with fail
  refine (C0.out _).mono ?_
  rintro e u ⟨rfl, rfl⟩
  go_wp2_with fail
  clear d0 d1 d2 d3 d4 d5 x0 x1 x2 x3 x4 x5 x6 x7 x8 x9
  go_loopw [7] (fun iv wr => ∃ y : Nat, iv = .int .i64 (y : Nat) ∧ y ≤ M ∧ P30 B b k l s r q t (n + 3 * k.toNat + 2 + y * BV) wr ∧ Below B W wr) (fun iv _ => M - (intOf iv).toNat)
  case atStart => exact ⟨0, rfl, by omega, HX.out.cast (by omega), HW.out⟩
  case round =>
    obtain ⟨y, rfl, y1, hp, hb⟩ := hrel
    replace HX := Lib.hid hp
    replace HW := Lib.hid hb
    clear hp hb
    have y0 : (0 : Int) ≤ (y : Int) := by omega
    by_cases hlt : y < M
    · have hyb : y * BV ≤ 40 * 80000 := Nat.mul_le_mul (by omega) hBV
      have HYS := Lib.hid (Nat.succ_mul y BV)
      generalize y * BV = yb at *
      go_wp2_with fail
      go_loopw [8] (fun iv wr => ∃ i : Nat, iv = .int .i64 (i : Nat) ∧ (i : Int) ≤ b ∧ P30 B b k l s r q t (n + 3 * k.toNat + 2 + yb + i * C1) wr ∧ Below B W wr) (fun iv _ => (b - intOf iv).toNat)
      case atStart => exact ⟨0, rfl, by omega, HX.out.cast (by omega), HW.out⟩
      case round =>
        obtain ⟨i, rfl, i1, hp, hb⟩ := hrel
        replace HX := Lib.hid hp
        replace HW := Lib.hid hb
        clear hp hb
        obtain ⟨⟨d0, d1, d2, d3, d4, d5⟩, ⟨x0, x1, x2, x3, x4, x5, x6, x7, x8, x9⟩⟩ := HX.out.cells
        have i0 : (0 : Int) ≤ (i : Int) := by omega
        have hic : i * C1 ≤ 16 * 1252 := Nat.mul_le_mul (by omega) hC1
        by_cases hlt2 : (i : Int) < b
        · have HIS := Lib.hid (Nat.succ_mul i C1)
          generalize i * C1 = ic at *
          go_wp2_with fail
          refine (byte_r B b k l s r q t _ _ (by omega) hr hs HX.out).mono ?_
          rintro e u ⟨rfl, hp, hb⟩
          replace HX := Lib.hid hp
          replace HW := Lib.hid (HW.out.trans hb)
          clear hp hb d0 d1 d2 d3 d4 d5 x0 x1 x2 x3 x4 x5 x6 x7 x8 x9
          obtain ⟨⟨d0, d1, d2, d3, d4, d5⟩, ⟨x0, x1, x2, x3, x4, x5, x6, x7, x8, x9⟩⟩ := HX.out.cells
          go_wp2_with fail
          refine (fill_r B b k l s r q t _ _ _ (by omega) hr (by omega) (by omega) h6 HX.out).mono ?_
          rintro e u ⟨rfl, hp, hb⟩
          replace HX := Lib.hid hp
          replace HW := Lib.hid (HW.out.trans hb)
          clear hp hb d0 d1 d2 d3 d4 d5 x0 x1 x2 x3 x4 x5 x6 x7 x8 x9
          obtain ⟨⟨d0, d1, d2, d3, d4, d5⟩, ⟨x0, x1, x2, x3, x4, x5, x6, x7, x8, x9⟩⟩ := HX.out.cells
          go_wp2_with fail
          exact ⟨⟨i + 1, by go_num, by omega, HX.out.cast (by rw [HIS.out]; have := HC.out; omega), HW.out⟩, by simp [intOf]; omega⟩
        · have hib : i = b.toNat := by omega
          have HI := Lib.hid (show i * C1 = b.toNat * C1 by rw [hib])
          generalize i * C1 = ic at *
          go_wp2_with fail
          refine (compact_r B b k l s r q t _ _ (by omega) hq HX.out).mono ?_
          rintro e u ⟨rfl, hp, hb⟩
          replace HX := Lib.hid hp
          replace HW := Lib.hid (HW.out.trans hb)
          clear hp hb d0 d1 d2 d3 d4 d5 x0 x1 x2 x3 x4 x5 x6 x7 x8 x9
          obtain ⟨⟨d0, d1, d2, d3, d4, d5⟩, ⟨x0, x1, x2, x3, x4, x5, x6, x7, x8, x9⟩⟩ := HX.out.cells
          go_wp2_with fail
          exact ⟨⟨y + 1, by go_num, by omega, HX.out.cast (by rw [HYS.out]; have h1 := HV.out; have h2 := HI.out; omega), HW.out⟩, by simp [intOf]; omega⟩
    · obtain rfl : y = M := by omega
      have hyb : y * BV ≤ 40 * 80000 := Nat.mul_le_mul (by omega) hBV
      obtain ⟨yb, hyb2⟩ : ∃ yb, yb = y * BV := ⟨_, rfl⟩
      rw [← hyb2] at HX hyb
      have HYB := Lib.hid hyb2
      clear hyb2
      obtain ⟨⟨d0, d1, d2, d3, d4, d5⟩, ⟨x0, x1, x2, x3, x4, x5, x6, x7, x8, x9⟩⟩ := HX.out.cells
      go_wp2_with fail
      refine wp_loop_rounds 3 ?_
      rw [rounds_succ]
      go_wp2_with fail
      refine (load_r B b k l s r q t _ _ _ (by omega) HX.out).mono ?_
      rintro e u ⟨rfl, hp, hb⟩
      replace HX := Lib.hid hp
      replace HW := Lib.hid (HW.out.trans hb)
      clear hp hb d0 d1 d2 d3 d4 d5 x0 x1 x2 x3 x4 x5 x6 x7 x8 x9
      obtain ⟨⟨d0, d1, d2, d3, d4, d5⟩, ⟨x0, x1, x2, x3, x4, x5, x6, x7, x8, x9⟩⟩ := HX.out.cells
      go_wp2_with fail
      refine (load_r B b k l s r q t _ _ _ (by omega) HX.out).mono ?_
      rintro e u ⟨rfl, hp, hb⟩
      replace HX := Lib.hid hp
      replace HW := Lib.hid (HW.out.trans hb)
      clear hp hb d0 d1 d2 d3 d4 d5 x0 x1 x2 x3 x4 x5 x6 x7 x8 x9
      obtain ⟨⟨d0, d1, d2, d3, d4, d5⟩, ⟨x0, x1, x2, x3, x4, x5, x6, x7, x8, x9⟩⟩ := HX.out.cells
      go_wp2_with fail
      refine (store_r B b k l s r q t _ _ _ (by omega) HX.out).mono ?_
      rintro e u ⟨rfl, hp, hb⟩
      replace HX := Lib.hid hp
      replace HW := Lib.hid (HW.out.trans hb)
      clear hp hb d0 d1 d2 d3 d4 d5 x0 x1 x2 x3 x4 x5 x6 x7 x8 x9
      obtain ⟨⟨d0, d1, d2, d3, d4, d5⟩, ⟨x0, x1, x2, x3, x4, x5, x6, x7, x8, x9⟩⟩ := HX.out.cells
      go_wp2_with fail
      rw [rounds_succ]
      go_wp2_with fail
      refine (load_r B b k l s r q t _ _ _ (by omega) HX.out).mono ?_
      rintro e u ⟨rfl, hp, hb⟩
      replace HX := Lib.hid hp
      replace HW := Lib.hid (HW.out.trans hb)
      clear hp hb d0 d1 d2 d3 d4 d5 x0 x1 x2 x3 x4 x5 x6 x7 x8 x9
      obtain ⟨⟨d0, d1, d2, d3, d4, d5⟩, ⟨x0, x1, x2, x3, x4, x5, x6, x7, x8, x9⟩⟩ := HX.out.cells
      go_wp2_with fail
      refine (load_r B b k l s r q t _ _ _ (by omega) HX.out).mono ?_
      rintro e u ⟨rfl, hp, hb⟩
      replace HX := Lib.hid hp
      replace HW := Lib.hid (HW.out.trans hb)
      clear hp hb d0 d1 d2 d3 d4 d5 x0 x1 x2 x3 x4 x5 x6 x7 x8 x9
      obtain ⟨⟨d0, d1, d2, d3, d4, d5⟩, ⟨x0, x1, x2, x3, x4, x5, x6, x7, x8, x9⟩⟩ := HX.out.cells
      go_wp2_with fail
      refine (store_r B b k l s r q t _ _ _ (by omega) HX.out).mono ?_
      rintro e u ⟨rfl, hp, hb⟩
      replace HX := Lib.hid hp
      replace HW := Lib.hid (HW.out.trans hb)
      clear hp hb d0 d1 d2 d3 d4 d5 x0 x1 x2 x3 x4 x5 x6 x7 x8 x9
      obtain ⟨⟨d0, d1, d2, d3, d4, d5⟩, ⟨x0, x1, x2, x3, x4, x5, x6, x7, x8, x9⟩⟩ := HX.out.cells
      go_wp2_with fail
      rw [rounds_succ]
      go_wp2_with fail
      clear d0 d1 d2 d3 d4 d5 x0 x1 x2 x3 x4 x5 x6 x7 x8 x9
      go_loopw [10] (fun iv wr => ∃ i : Int, iv = .int .i64 i ∧ 0 ≤ i ∧ i ≤ 3 * k ∧ P30 B b k l s r q t (n + 3 * k.toNat + 2 + yb + 6 + i.toNat) wr ∧ Below B W wr) (fun iv _ => (3 * k - intOf iv).toNat)
      case atStart => exact ⟨0, rfl, by omega, by omega, HX.out.cast (by omega), HW.out⟩
      case round =>
        obtain ⟨i, rfl, i0, i1, hp, hb⟩ := hrel
        replace HX := Lib.hid hp
        replace HW := Lib.hid hb
        clear hp hb
        obtain ⟨⟨d0, d1, d2, d3, d4, d5⟩, ⟨x0, x1, x2, x3, x4, x5, x6, x7, x8, x9⟩⟩ := HX.out.cells
        by_cases hlt3 : i < 3 * k
        · go_wp2_with fail
          refine (load_r B b k l s r q t _ _ _ (by omega) HX.out).mono ?_
          rintro e u ⟨rfl, hp, hb⟩
          replace HX := Lib.hid hp
          replace HW := Lib.hid (HW.out.trans hb)
          clear hp hb d0 d1 d2 d3 d4 d5 x0 x1 x2 x3 x4 x5 x6 x7 x8 x9
          obtain ⟨⟨d0, d1, d2, d3, d4, d5⟩, ⟨x0, x1, x2, x3, x4, x5, x6, x7, x8, x9⟩⟩ := HX.out.cells
          go_wp2_with fail
          exact ⟨⟨i + 1, rfl, by omega, by omega, HX.out.cast (by omega), HW.out⟩, by simp [intOf]; omega⟩
        · have hik : i.toNat = 3 * k.toNat := by omega
          go_wp2_with fail
          refine (load_r B b k l s r q t _ _ _ (by omega) HX.out).mono ?_
          rintro e u ⟨rfl, hp, hb⟩
          replace HX := Lib.hid hp
          replace HW := Lib.hid (HW.out.trans hb)
          clear hp hb d0 d1 d2 d3 d4 d5 x0 x1 x2 x3 x4 x5 x6 x7 x8 x9
          obtain ⟨⟨d0, d1, d2, d3, d4, d5⟩, ⟨x0, x1, x2, x3, x4, x5, x6, x7, x8, x9⟩⟩ := HX.out.cells
          go_wp2_with fail
          refine (load_r B b k l s r q t _ _ _ (by omega) HX.out).mono ?_
          rintro e u ⟨rfl, hp, hb⟩
          replace HX := Lib.hid hp
          replace HW := Lib.hid (HW.out.trans hb)
          clear hp hb d0 d1 d2 d3 d4 d5 x0 x1 x2 x3 x4 x5 x6 x7 x8 x9
          obtain ⟨⟨d0, d1, d2, d3, d4, d5⟩, ⟨x0, x1, x2, x3, x4, x5, x6, x7, x8, x9⟩⟩ := HX.out.cells
          go_wp2_with fail
          (try simp only [Exit.inBlock, Exit.then])
          exact bodyPost_end (v := .tuple #[]) (by simp [results, Try.results54, go_sem]) rfl ⟨rfl, HX.out.cast (by have := HYB.out; omega), HW.out⟩
end Go.Proofs.Ytdfofojlnkhjjaa
