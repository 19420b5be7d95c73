/- Layer 30, the reference: byte. -/
import Derived.Test.YtdfofojlnkhjjaaCMv
namespace Go.Proofs.Ytdfofojlnkhjjaa
open Go.RowKit

set_option maxRecDepth 100000 in
set_option maxHeartbeats 4000000 in
theorem byte_r (B : Nat) (b k l s r q : Int) (t : Nat → Int) (n : Nat) (W : World) (hn : n ≤ 9890000) (hr : 1 ≤ r ∧ r ≤ 16) (hs : 1 ≤ s ∧ s ≤ 4) (h : P30 B b k l s r q t n W) :
    Calls Try.prog 67 #[.pointer (some ⟨B, 0, none⟩)] W fun e w' => e = .returned (.tuple #[]) ∧ P30 B b k l s r q t (n + 261 * s.toNat + r.toNat * (2 * s.toNat + 1)) w' ∧ Below B W w' := by
  have HX := Lib.hid h
  have HW := Lib.hid (Below.refl B W)
  clear h
  obtain ⟨⟨d0, d1, d2, d3, d4, d5⟩, ⟨x0, x1, x2, x3, x4, x5, x6, x7, x8, x9⟩⟩ := HX.out.cells
  go_enter Try.func67, Try.ntmps67
  go_wp2_with fail
  go_quiet (fail)
  replace HX := Lib.hid (HX.out.keep (below_drewN (Below.refl _ _) nq) rfl)
  replace HW := Lib.hid (below_drewN HW.out nq)
  clear d0 d1 d2 d3 d4 d5 x0 x1 x2 x3 x4 x5 x6 x7 x8 x9
  go_wp2_with fail
  go_loopw [4] (fun iv wr => ∃ i : Int, iv = .int .i64 i ∧ 0 ≤ i ∧ i ≤ s ∧ P30 B b k l s r q t (n + 257 * i.toNat) wr ∧ Below B W wr) (fun iv _ => (s - intOf iv).toNat)
  case atStart => exact ⟨0, rfl, by omega, by omega, by simpa using HX.out, HW.out⟩
  case round =>
    obtain ⟨i, rfl, i0, i1, hp, hb⟩ := hrel
    replace HX := Lib.hid hp
    replace HW := Lib.hid hb
    clear hp hb
    by_cases hlt : i < s
    · go_wp2_with fail
      go_loopw [5] (fun jv wr => ∃ j : Int, jv = .int .i64 j ∧ 0 ≤ j ∧ j ≤ 256 ∧ P30 B b k l s r q t (n + 257 * i.toNat + j.toNat) wr ∧ Below B W wr) (fun jv _ => (256 - intOf jv).toNat)
      case atStart => exact ⟨0, rfl, by omega, by omega, by simpa using HX.out, HW.out⟩
      case round =>
        obtain ⟨j, rfl, j0, j1, hp, hb⟩ := hrel
        replace HX := Lib.hid hp
        replace HW := Lib.hid hb
        clear hp hb
        obtain ⟨⟨d0, d1, d2, d3, d4, d5⟩, ⟨x0, x1, x2, x3, x4, x5, x6, x7, x8, x9⟩⟩ := HX.out.cells
        by_cases hlt2 : j < 256
        · go_wp2_with fail
          refine (load_r B b k l s r q t _ _ _ (by omega) HX.out).mono ?_
          rintro e u ⟨rfl, hp, hb⟩
          replace HX := Lib.hid hp
          replace HW := Lib.hid (HW.out.trans hb)
          clear hp hb d0 d1 d2 d3 d4 d5 x0 x1 x2 x3 x4 x5 x6 x7 x8 x9
          obtain ⟨⟨d0, d1, d2, d3, d4, d5⟩, ⟨x0, x1, x2, x3, x4, x5, x6, x7, x8, x9⟩⟩ := HX.out.cells
          go_wp2_with fail
          exact ⟨⟨j + 1, rfl, by omega, by omega, HX.out.cast (by omega), HW.out⟩, by simp [intOf]; omega⟩
        · obtain rfl : j = 256 := by omega
          go_wp2_with fail
          refine (store_r B b k l s r q t _ _ _ (by omega) HX.out).mono ?_
          rintro e u ⟨rfl, hp, hb⟩
          replace HX := Lib.hid hp
          replace HW := Lib.hid (HW.out.trans hb)
          clear hp hb d0 d1 d2 d3 d4 d5 x0 x1 x2 x3 x4 x5 x6 x7 x8 x9
          obtain ⟨⟨d0, d1, d2, d3, d4, d5⟩, ⟨x0, x1, x2, x3, x4, x5, x6, x7, x8, x9⟩⟩ := HX.out.cells
          go_wp2_with fail
          exact ⟨⟨i + 1, rfl, by omega, by omega, HX.out.cast (by omega), HW.out⟩, by simp [intOf]; omega⟩
    · obtain rfl : i = s := by omega
      go_wp2_with fail
      go_loopw [6] (fun jv wr => ∃ j : Int, jv = .int .i64 j ∧ 0 ≤ j ∧ j ≤ i ∧ P30 B b k l i r q t (n + 257 * i.toNat + 4 * j.toNat) wr ∧ Below B W wr) (fun jv _ => (i - intOf jv).toNat)
      case atStart => exact ⟨0, rfl, by omega, by omega, by simpa using HX.out, HW.out⟩
      case round =>
        obtain ⟨j, rfl, j0, j1, hp, hb⟩ := hrel
        replace HX := Lib.hid hp
        replace HW := Lib.hid hb
        clear hp hb
        obtain ⟨⟨d0, d1, d2, d3, d4, d5⟩, ⟨x0, x1, x2, x3, x4, x5, x6, x7, x8, x9⟩⟩ := HX.out.cells
        by_cases hlt2 : j < i
        · go_wp2_with fail
          refine (load_r B b k l i r q t _ _ _ (by omega) HX.out).mono ?_
          rintro e u ⟨rfl, hp, hb⟩
          replace HX := Lib.hid hp
          replace HW := Lib.hid (HW.out.trans hb)
          clear hp hb d0 d1 d2 d3 d4 d5 x0 x1 x2 x3 x4 x5 x6 x7 x8 x9
          obtain ⟨⟨d0, d1, d2, d3, d4, d5⟩, ⟨x0, x1, x2, x3, x4, x5, x6, x7, x8, x9⟩⟩ := HX.out.cells
          go_wp2_with fail
          refine (load_r B b k l i r q t _ _ _ (by omega) HX.out).mono ?_
          rintro e u ⟨rfl, hp, hb⟩
          replace HX := Lib.hid hp
          replace HW := Lib.hid (HW.out.trans hb)
          clear hp hb d0 d1 d2 d3 d4 d5 x0 x1 x2 x3 x4 x5 x6 x7 x8 x9
          obtain ⟨⟨d0, d1, d2, d3, d4, d5⟩, ⟨x0, x1, x2, x3, x4, x5, x6, x7, x8, x9⟩⟩ := HX.out.cells
          go_wp2_with fail
          refine (load_r B b k l i r q t _ _ _ (by omega) HX.out).mono ?_
          rintro e u ⟨rfl, hp, hb⟩
          replace HX := Lib.hid hp
          replace HW := Lib.hid (HW.out.trans hb)
          clear hp hb d0 d1 d2 d3 d4 d5 x0 x1 x2 x3 x4 x5 x6 x7 x8 x9
          obtain ⟨⟨d0, d1, d2, d3, d4, d5⟩, ⟨x0, x1, x2, x3, x4, x5, x6, x7, x8, x9⟩⟩ := HX.out.cells
          go_wp2_with fail
          refine (store_r B b k l i r q t _ _ _ (by omega) HX.out).mono ?_
          rintro e u ⟨rfl, hp, hb⟩
          replace HX := Lib.hid hp
          replace HW := Lib.hid (HW.out.trans hb)
          clear hp hb d0 d1 d2 d3 d4 d5 x0 x1 x2 x3 x4 x5 x6 x7 x8 x9
          obtain ⟨⟨d0, d1, d2, d3, d4, d5⟩, ⟨x0, x1, x2, x3, x4, x5, x6, x7, x8, x9⟩⟩ := HX.out.cells
          go_wp2_with fail
          exact ⟨⟨j + 1, rfl, by omega, by omega, HX.out.cast (by omega), HW.out⟩, by simp [intOf]; omega⟩
        · obtain rfl : j = i := by omega
          go_wp2_with fail
          clear d0 d1 d2 d3 d4 d5 x0 x1 x2 x3 x4 x5 x6 x7 x8 x9
          obtain ⟨c, hc⟩ : ∃ c : Nat, c = 2 * j.toNat + 1 := ⟨_, rfl⟩
          have hc9 : c ≤ 9 := by omega
          go_loopw [7] (fun yv wr => ∃ y : Int, yv = .int .i64 y ∧ 0 ≤ y ∧ y ≤ r ∧ P30 B b k l j r q t (n + 261 * j.toNat + y.toNat * c) wr ∧ Below B W wr) (fun yv _ => (r - intOf yv).toNat)
          case atStart => exact ⟨0, rfl, by omega, by omega, HX.out.cast (by simp; omega), HW.out⟩
          case round =>
            obtain ⟨y, rfl, y0, y1, hp, hb⟩ := hrel
            replace HX := Lib.hid hp
            replace HW := Lib.hid hb
            clear hp hb
            have hyc : y.toNat * c ≤ 16 * 9 := Nat.mul_le_mul (by omega) hc9
            by_cases hlt3 : y < r
            · have hys : (y + 1).toNat * c = y.toNat * c + c := by rw [show (y + 1).toNat = y.toNat + 1 by omega, Nat.succ_mul]
              generalize y.toNat * c = yc at *
              have HYS := Lib.hid hys
              clear hys
              go_wp2_with fail
              go_loopw [8] (fun zv wr => ∃ z : Int, zv = .int .i64 z ∧ 0 ≤ z ∧ z ≤ j ∧ P30 B b k l j r q t (n + 261 * j.toNat + yc + 2 * z.toNat) wr ∧ Below B W wr) (fun zv _ => (j - intOf zv).toNat)
              case atStart => exact ⟨0, rfl, by omega, by omega, by simpa using HX.out, HW.out⟩
              case round =>
                obtain ⟨z, rfl, z0, z1, hp, hb⟩ := hrel
                replace HX := Lib.hid hp
                replace HW := Lib.hid hb
                clear hp hb
                obtain ⟨⟨d0, d1, d2, d3, d4, d5⟩, ⟨x0, x1, x2, x3, x4, x5, x6, x7, x8, x9⟩⟩ := HX.out.cells
                by_cases hlt4 : z < j
                · go_wp2_with fail
                  refine (load_r B b k l j r q t _ _ _ (by omega) HX.out).mono ?_
                  rintro e u ⟨rfl, hp, hb⟩
                  replace HX := Lib.hid hp
                  replace HW := Lib.hid (HW.out.trans hb)
                  clear hp hb d0 d1 d2 d3 d4 d5 x0 x1 x2 x3 x4 x5 x6 x7 x8 x9
                  obtain ⟨⟨d0, d1, d2, d3, d4, d5⟩, ⟨x0, x1, x2, x3, x4, x5, x6, x7, x8, x9⟩⟩ := HX.out.cells
                  go_wp2_with fail
                  refine (load_r B b k l j r q t _ _ _ (by omega) HX.out).mono ?_
                  rintro e u ⟨rfl, hp, hb⟩
                  replace HX := Lib.hid hp
                  replace HW := Lib.hid (HW.out.trans hb)
                  clear hp hb d0 d1 d2 d3 d4 d5 x0 x1 x2 x3 x4 x5 x6 x7 x8 x9
                  obtain ⟨⟨d0, d1, d2, d3, d4, d5⟩, ⟨x0, x1, x2, x3, x4, x5, x6, x7, x8, x9⟩⟩ := HX.out.cells
                  go_wp2_with fail
                  exact ⟨⟨z + 1, rfl, by omega, by omega, HX.out.cast (by omega), HW.out⟩, by simp [intOf]; omega⟩
                · obtain rfl : z = j := by omega
                  go_wp2_with fail
                  refine (store_r B b k l z r q t _ _ _ (by omega) HX.out).mono ?_
                  rintro e u ⟨rfl, hp, hb⟩
                  replace HX := Lib.hid hp
                  replace HW := Lib.hid (HW.out.trans hb)
                  clear hp hb d0 d1 d2 d3 d4 d5 x0 x1 x2 x3 x4 x5 x6 x7 x8 x9
                  obtain ⟨⟨d0, d1, d2, d3, d4, d5⟩, ⟨x0, x1, x2, x3, x4, x5, x6, x7, x8, x9⟩⟩ := HX.out.cells
                  go_wp2_with fail
                  exact ⟨⟨y + 1, rfl, by omega, by omega, HX.out.cast (by rw [HYS.out]; omega), HW.out⟩, by simp [intOf]; omega⟩
            · obtain rfl : y = r := by omega
              subst hc
              go_wp2_with fail
              (try simp only [Exit.inBlock, Exit.then])
              exact bodyPost_end (v := .tuple #[]) (by simp [results, Try.results67, go_sem]) rfl ⟨rfl, HX.out, HW.out⟩
end Go.Proofs.Ytdfofojlnkhjjaa
