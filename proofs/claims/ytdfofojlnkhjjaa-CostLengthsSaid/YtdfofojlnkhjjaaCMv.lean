/- Layer 30, the reference: move, fill. -/
import Derived.Test.YtdfofojlnkhjjaaCEv
import Derived.BigQuiet
import Derived.Deep.QuietTactic
namespace Go.Proofs.Ytdfofojlnkhjjaa
open Go.RowKit

theorem P30.cast {B : Nat} {b k l s r q : Int} {t : Nat → Int} {n m : Nat} {W : World} (h : P30 B b k l s r q t n W) (e : n = m) : P30 B b k l s r q t m W := e ▸ h

set_option maxRecDepth 100000 in
set_option maxHeartbeats 4000000 in
theorem move_r (B : Nat) (b k l s r q : Int) (t : Nat → Int) (n : Nat) (i j : Int) (W : World) (hn : n ≤ 9990000) (h : P30 B b k l s r q t n W) :
    Calls Try.prog 75 #[.pointer (some ⟨B, 0, none⟩), .int .i64 i, .int .i64 j] W fun e w' => e = .returned (.tuple #[]) ∧ P30 B b k l s r q t (n + 16) w' ∧ Below B W w' := by
  have HX := Lib.hid h
  have HW := Lib.hid (Below.refl B W)
  clear h
  obtain ⟨⟨d0, d1, d2, d3, d4, d5⟩, ⟨x0, x1, x2, x3, x4, x5, x6, x7, x8, x9⟩⟩ := HX.out.cells
  go_enter Try.func75, Try.ntmps75
  go_wp2_with fail
  refine (load_r B b k l s r q t _ _ _ (by omega) HX.out).mono ?_
  rintro e u ⟨rfl, hp, hb⟩
  replace HX := Lib.hid hp
  replace HW := Lib.hid (HW.out.trans hb)
  clear hp hb d0 d1 d2 d3 d4 d5 x0 x1 x2 x3 x4 x5 x6 x7 x8 x9
  obtain ⟨⟨d0, d1, d2, d3, d4, d5⟩, ⟨x0, x1, x2, x3, x4, x5, x6, x7, x8, x9⟩⟩ := HX.out.cells
  go_wp2_with fail
  refine (load_r B b k l s r q t _ _ _ (by omega) HX.out).mono ?_
  rintro e u ⟨rfl, hp, hb⟩
  replace HX := Lib.hid hp
  replace HW := Lib.hid (HW.out.trans hb)
  clear hp hb d0 d1 d2 d3 d4 d5 x0 x1 x2 x3 x4 x5 x6 x7 x8 x9
  obtain ⟨⟨d0, d1, d2, d3, d4, d5⟩, ⟨x0, x1, x2, x3, x4, x5, x6, x7, x8, x9⟩⟩ := HX.out.cells
  go_wp2_with fail
  refine (store_r B b k l s r q t _ _ _ (by omega) HX.out).mono ?_
  rintro e u ⟨rfl, hp, hb⟩
  replace HX := Lib.hid hp
  replace HW := Lib.hid (HW.out.trans hb)
  clear hp hb d0 d1 d2 d3 d4 d5 x0 x1 x2 x3 x4 x5 x6 x7 x8 x9
  obtain ⟨⟨d0, d1, d2, d3, d4, d5⟩, ⟨x0, x1, x2, x3, x4, x5, x6, x7, x8, x9⟩⟩ := HX.out.cells
  go_wp2_with fail
  refine (store_r B b k l s r q t _ _ _ (by omega) HX.out).mono ?_
  rintro e u ⟨rfl, hp, hb⟩
  replace HX := Lib.hid hp
  replace HW := Lib.hid (HW.out.trans hb)
  clear hp hb d0 d1 d2 d3 d4 d5 x0 x1 x2 x3 x4 x5 x6 x7 x8 x9
  obtain ⟨⟨d0, d1, d2, d3, d4, d5⟩, ⟨x0, x1, x2, x3, x4, x5, x6, x7, x8, x9⟩⟩ := HX.out.cells
  go_wp2_with fail
  refine wp_loop_rounds 4 ?_
  rw [rounds_succ]
  go_wp2_with fail
  refine (load_r B b k l s r q t _ _ _ (by omega) HX.out).mono ?_
  rintro e u ⟨rfl, hp, hb⟩
  replace HX := Lib.hid hp
  replace HW := Lib.hid (HW.out.trans hb)
  clear hp hb d0 d1 d2 d3 d4 d5 x0 x1 x2 x3 x4 x5 x6 x7 x8 x9
  obtain ⟨⟨d0, d1, d2, d3, d4, d5⟩, ⟨x0, x1, x2, x3, x4, x5, x6, x7, x8, x9⟩⟩ := HX.out.cells
  go_wp2_with fail
  refine (load_r B b k l s r q t _ _ _ (by omega) HX.out).mono ?_
  rintro e u ⟨rfl, hp, hb⟩
  replace HX := Lib.hid hp
  replace HW := Lib.hid (HW.out.trans hb)
  clear hp hb d0 d1 d2 d3 d4 d5 x0 x1 x2 x3 x4 x5 x6 x7 x8 x9
  obtain ⟨⟨d0, d1, d2, d3, d4, d5⟩, ⟨x0, x1, x2, x3, x4, x5, x6, x7, x8, x9⟩⟩ := HX.out.cells
  go_wp2_with fail
  refine (store_r B b k l s r q t _ _ _ (by omega) HX.out).mono ?_
  rintro e u ⟨rfl, hp, hb⟩
  replace HX := Lib.hid hp
  replace HW := Lib.hid (HW.out.trans hb)
  clear hp hb d0 d1 d2 d3 d4 d5 x0 x1 x2 x3 x4 x5 x6 x7 x8 x9
  obtain ⟨⟨d0, d1, d2, d3, d4, d5⟩, ⟨x0, x1, x2, x3, x4, x5, x6, x7, x8, x9⟩⟩ := HX.out.cells
  go_wp2_with fail
  refine (store_r B b k l s r q t _ _ _ (by omega) HX.out).mono ?_
  rintro e u ⟨rfl, hp, hb⟩
  replace HX := Lib.hid hp
  replace HW := Lib.hid (HW.out.trans hb)
  clear hp hb d0 d1 d2 d3 d4 d5 x0 x1 x2 x3 x4 x5 x6 x7 x8 x9
  obtain ⟨⟨d0, d1, d2, d3, d4, d5⟩, ⟨x0, x1, x2, x3, x4, x5, x6, x7, x8, x9⟩⟩ := HX.out.cells
  go_wp2_with fail
  rw [rounds_succ]
  go_wp2_with fail
  refine (load_r B b k l s r q t _ _ _ (by omega) HX.out).mono ?_
  rintro e u ⟨rfl, hp, hb⟩
  replace HX := Lib.hid hp
  replace HW := Lib.hid (HW.out.trans hb)
  clear hp hb d0 d1 d2 d3 d4 d5 x0 x1 x2 x3 x4 x5 x6 x7 x8 x9
  obtain ⟨⟨d0, d1, d2, d3, d4, d5⟩, ⟨x0, x1, x2, x3, x4, x5, x6, x7, x8, x9⟩⟩ := HX.out.cells
  go_wp2_with fail
  refine (load_r B b k l s r q t _ _ _ (by omega) HX.out).mono ?_
  rintro e u ⟨rfl, hp, hb⟩
  replace HX := Lib.hid hp
  replace HW := Lib.hid (HW.out.trans hb)
  clear hp hb d0 d1 d2 d3 d4 d5 x0 x1 x2 x3 x4 x5 x6 x7 x8 x9
  obtain ⟨⟨d0, d1, d2, d3, d4, d5⟩, ⟨x0, x1, x2, x3, x4, x5, x6, x7, x8, x9⟩⟩ := HX.out.cells
  go_wp2_with fail
  refine (store_r B b k l s r q t _ _ _ (by omega) HX.out).mono ?_
  rintro e u ⟨rfl, hp, hb⟩
  replace HX := Lib.hid hp
  replace HW := Lib.hid (HW.out.trans hb)
  clear hp hb d0 d1 d2 d3 d4 d5 x0 x1 x2 x3 x4 x5 x6 x7 x8 x9
  obtain ⟨⟨d0, d1, d2, d3, d4, d5⟩, ⟨x0, x1, x2, x3, x4, x5, x6, x7, x8, x9⟩⟩ := HX.out.cells
  go_wp2_with fail
  refine (store_r B b k l s r q t _ _ _ (by omega) HX.out).mono ?_
  rintro e u ⟨rfl, hp, hb⟩
  replace HX := Lib.hid hp
  replace HW := Lib.hid (HW.out.trans hb)
  clear hp hb d0 d1 d2 d3 d4 d5 x0 x1 x2 x3 x4 x5 x6 x7 x8 x9
  obtain ⟨⟨d0, d1, d2, d3, d4, d5⟩, ⟨x0, x1, x2, x3, x4, x5, x6, x7, x8, x9⟩⟩ := HX.out.cells
  go_wp2_with fail
  rw [rounds_succ]
  go_wp2_with fail
  refine (load_r B b k l s r q t _ _ _ (by omega) HX.out).mono ?_
  rintro e u ⟨rfl, hp, hb⟩
  replace HX := Lib.hid hp
  replace HW := Lib.hid (HW.out.trans hb)
  clear hp hb d0 d1 d2 d3 d4 d5 x0 x1 x2 x3 x4 x5 x6 x7 x8 x9
  obtain ⟨⟨d0, d1, d2, d3, d4, d5⟩, ⟨x0, x1, x2, x3, x4, x5, x6, x7, x8, x9⟩⟩ := HX.out.cells
  go_wp2_with fail
  refine (load_r B b k l s r q t _ _ _ (by omega) HX.out).mono ?_
  rintro e u ⟨rfl, hp, hb⟩
  replace HX := Lib.hid hp
  replace HW := Lib.hid (HW.out.trans hb)
  clear hp hb d0 d1 d2 d3 d4 d5 x0 x1 x2 x3 x4 x5 x6 x7 x8 x9
  obtain ⟨⟨d0, d1, d2, d3, d4, d5⟩, ⟨x0, x1, x2, x3, x4, x5, x6, x7, x8, x9⟩⟩ := HX.out.cells
  go_wp2_with fail
  refine (store_r B b k l s r q t _ _ _ (by omega) HX.out).mono ?_
  rintro e u ⟨rfl, hp, hb⟩
  replace HX := Lib.hid hp
  replace HW := Lib.hid (HW.out.trans hb)
  clear hp hb d0 d1 d2 d3 d4 d5 x0 x1 x2 x3 x4 x5 x6 x7 x8 x9
  obtain ⟨⟨d0, d1, d2, d3, d4, d5⟩, ⟨x0, x1, x2, x3, x4, x5, x6, x7, x8, x9⟩⟩ := HX.out.cells
  go_wp2_with fail
  refine (store_r B b k l s r q t _ _ _ (by omega) HX.out).mono ?_
  rintro e u ⟨rfl, hp, hb⟩
  replace HX := Lib.hid hp
  replace HW := Lib.hid (HW.out.trans hb)
  clear hp hb d0 d1 d2 d3 d4 d5 x0 x1 x2 x3 x4 x5 x6 x7 x8 x9
  obtain ⟨⟨d0, d1, d2, d3, d4, d5⟩, ⟨x0, x1, x2, x3, x4, x5, x6, x7, x8, x9⟩⟩ := HX.out.cells
  go_wp2_with fail
  rw [rounds_succ]
  go_wp2_with fail
  (try simp only [Exit.inBlock, Exit.then])
  exact bodyPost_end (v := .tuple #[]) (by simp [results, Try.results75, go_sem]) rfl ⟨rfl, HX.out, HW.out⟩

set_option maxRecDepth 100000 in
set_option maxHeartbeats 4000000 in
theorem fill_r (B : Nat) (b k l s r q : Int) (t : Nat → Int) (n : Nat) (i : Int) (W : World) (hn : n ≤ 9890000) (hr : 1 ≤ r ∧ r ≤ 16) (hk : 0 ≤ k ∧ k ≤ 64) (hi : 0 ≤ i ∧ i ≤ 16) (ht : 0 ≤ t 6 ∧ t 6 ≤ 5000) (h : P30 B b k l s r q t n W) :
    Calls Try.prog 68 #[.pointer (some ⟨B, 0, none⟩), .int .i64 i] W fun e w' => e = .returned (.tuple #[]) ∧ P30 B b k l s r q t (n + 4 * r.toNat) w' ∧ Below B W w' := by
  have HX := Lib.hid h
  have HW := Lib.hid (Below.refl B W)
  clear h
  obtain ⟨⟨d0, d1, d2, d3, d4, d5⟩, ⟨x0, x1, x2, x3, x4, x5, x6, x7, x8, x9⟩⟩ := HX.out.cells
  have hm1 : 0 ≤ i * r := Int.mul_nonneg hi.1 (by omega)
  have hm2 : i * r ≤ 16 * 16 := Int.mul_le_mul hi.2 hr.2 (by omega) (by omega)
  have W1 := Lib.hid (show IntKind.i64.wrap (i * r) = i * r from IntWalk.i64_in _ (by omega))
  go_enter Try.func68, Try.ntmps68
  go_wp2_with fail
  clear d0 d1 d2 d3 d4 d5 x0 x1 x2 x3 x4 x5 x6 x7 x8 x9
  go_loopw [4] (fun iv wr => ∃ y : Int, iv = .int .i64 y ∧ 0 ≤ y ∧ y ≤ r ∧ P30 B b k l s r q t (n + 4 * y.toNat) wr ∧ Below B W wr) (fun iv _ => (r - intOf iv).toNat)
  case atStart => exact ⟨0, rfl, by omega, by omega, by simpa using HX.out, HW.out⟩
  case round =>
    obtain ⟨y, rfl, y0, y1, hp, hb⟩ := hrel
    replace HX := Lib.hid hp
    replace HW := Lib.hid hb
    clear hp hb
    obtain ⟨⟨d0, d1, d2, d3, d4, d5⟩, ⟨x0, x1, x2, x3, x4, x5, x6, x7, x8, x9⟩⟩ := HX.out.cells
    by_cases hlt : y < r
    · have w1 := W1.out
      have w2 : IntKind.i64.wrap (k + i * r) = k + i * r := IntWalk.i64_in _ (by omega)
      have w3 : IntKind.i64.wrap (k + i * r + y) = k + i * r + y := IntWalk.i64_in _ (by omega)
      have w4 : IntKind.i64.wrap (3 * (k + i * r + y)) = 3 * (k + i * r + y) := IntWalk.i64_in _ (by omega)
      have w5 : IntKind.i64.wrap (t 6 + 3 * (k + i * r + y)) = t 6 + 3 * (k + i * r + y) := IntWalk.i64_in _ (by omega)
      go_wp2_with fail
      go_quiet (fail)
      replace HX := Lib.hid (HX.out.keep (below_drewN (Below.refl _ _) nq) rfl)
      replace HW := Lib.hid (below_drewN HW.out nq)
      clear w1 w2 w3 w4 w5 d0 d1 d2 d3 d4 d5 x0 x1 x2 x3 x4 x5 x6 x7 x8 x9
      obtain ⟨⟨d0, d1, d2, d3, d4, d5⟩, ⟨x0, x1, x2, x3, x4, x5, x6, x7, x8, x9⟩⟩ := HX.out.cells
      go_wp2_with fail
      refine (load_r B b k l s r q t _ _ _ (by omega) HX.out).mono ?_
      rintro e u ⟨rfl, hp, hb⟩
      replace HX := Lib.hid hp
      replace HW := Lib.hid (HW.out.trans hb)
      clear hp hb d0 d1 d2 d3 d4 d5 x0 x1 x2 x3 x4 x5 x6 x7 x8 x9
      obtain ⟨⟨d0, d1, d2, d3, d4, d5⟩, ⟨x0, x1, x2, x3, x4, x5, x6, x7, x8, x9⟩⟩ := HX.out.cells
      go_wp2_with fail
      refine (stores_r B b k l s r q t _ _ _ _ (by omega) (by omega) (by omega) (by omega) HX.out).mono ?_
      rintro e u ⟨rfl, hp, hb⟩
      replace HX := Lib.hid hp
      replace HW := Lib.hid (HW.out.trans hb)
      clear hp hb d0 d1 d2 d3 d4 d5 x0 x1 x2 x3 x4 x5 x6 x7 x8 x9
      obtain ⟨⟨d0, d1, d2, d3, d4, d5⟩, ⟨x0, x1, x2, x3, x4, x5, x6, x7, x8, x9⟩⟩ := HX.out.cells
      go_wp2_with fail
      exact ⟨⟨y + 1, rfl, by omega, by omega, HX.out.cast (by omega), HW.out⟩, by simp [intOf]; omega⟩
    · obtain rfl : y = r := by omega
      go_wp2_with fail
      (try simp only [Exit.inBlock, Exit.then])
      exact bodyPost_end (v := .tuple #[]) (by simp [results, Try.results68, go_sem]) rfl ⟨rfl, HX.out, HW.out⟩
end Go.Proofs.Ytdfofojlnkhjjaa
