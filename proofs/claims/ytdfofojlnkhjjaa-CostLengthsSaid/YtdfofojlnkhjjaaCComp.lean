/- Layer 30, the reference: compact. -/
import Derived.Test.YtdfofojlnkhjjaaCByte
namespace Go.Proofs.Ytdfofojlnkhjjaa
open Go.RowKit

set_option maxRecDepth 100000 in
set_option maxHeartbeats 4000000 in
theorem compact_r (B : Nat) (b k l s r q : Int) (t : Nat → Int) (n : Nat) (W : World) (hn : n ≤ 9800000) (hq : 1 ≤ q ∧ q ≤ 288) (h : P30 B b k l s r q t n W) :
    Calls Try.prog 69 #[.pointer (some ⟨B, 0, none⟩)] W fun e w' => e = .returned (.tuple #[]) ∧ P30 B b k l s r q t (n + 8 * q.toNat + 4 + 16 * (movesV q).toNat) w' ∧ Below B W w' := by
  have HX := Lib.hid h
  have HW := Lib.hid (Below.refl B W)
  clear h
  obtain ⟨⟨d0, d1, d2, d3, d4, d5⟩, ⟨x0, x1, x2, x3, x4, x5, x6, x7, x8, x9⟩⟩ := HX.out.cells
  have MV := Lib.hid (show ∀ i : Nat, i ≤ 9 → q ≤ pow2 i → (i = 0 ∨ pow2 (i - 1) < q) → movesV q = q * (i : Int) - pow2 i + 1 from fun i hi h1 h2 => by unfold movesV; rw [rnd_done hi hq.2 h1 h2])
  go_enter Try.func69, Try.ntmps69
  go_wp2_with fail
  clear d0 d1 d2 d3 d4 d5 x0 x1 x2 x3 x4 x5 x6 x7 x8 x9
  go_loopw [3] (fun iv wr => ∃ i : Int, iv = .int .i64 i ∧ 0 ≤ i ∧ i ≤ q ∧ P30 B b k l s r q t (n + 2 * i.toNat) wr ∧ Below B W wr) (fun iv _ => (q - intOf iv).toNat)
  case atStart => exact ⟨0, rfl, by omega, by omega, HX.out.cast (by simp), HW.out⟩
  case round =>
    obtain ⟨i, rfl, i0, i1, hp, hb⟩ := hrel
    replace HX := Lib.hid hp
    replace HW := Lib.hid hb
    clear hp hb
    obtain ⟨⟨d0, d1, d2, d3, d4, d5⟩, ⟨x0, x1, x2, x3, x4, x5, x6, x7, x8, x9⟩⟩ := HX.out.cells
    by_cases hlt : i < q
    · go_wp2_with fail
      refine (load_r B b k l s r q t _ _ _ (by omega) HX.out).mono ?_
      rintro e u ⟨rfl, hp, hb⟩
      replace HX := Lib.hid hp
      replace HW := Lib.hid (HW.out.trans hb)
      clear hp hb d0 d1 d2 d3 d4 d5 x0 x1 x2 x3 x4 x5 x6 x7 x8 x9
      obtain ⟨⟨d0, d1, d2, d3, d4, d5⟩, ⟨x0, x1, x2, x3, x4, x5, x6, x7, x8, x9⟩⟩ := HX.out.cells
      go_wp2_with fail
      refine (store_r B b k l s r q t _ _ _ (by omega) HX.out).mono ?_
      rintro e u ⟨rfl, hp, hb⟩
      replace HX := Lib.hid hp
      replace HW := Lib.hid (HW.out.trans hb)
      clear hp hb d0 d1 d2 d3 d4 d5 x0 x1 x2 x3 x4 x5 x6 x7 x8 x9
      obtain ⟨⟨d0, d1, d2, d3, d4, d5⟩, ⟨x0, x1, x2, x3, x4, x5, x6, x7, x8, x9⟩⟩ := HX.out.cells
      go_wp2_with fail
      exact ⟨⟨i + 1, rfl, by omega, by omega, HX.out.cast (by omega), HW.out⟩, by simp [intOf]; omega⟩
    · obtain rfl : q = i := by omega
      clear hlt i0 i1
      go_wp2_with fail
      clear d0 d1 d2 d3 d4 d5 x0 x1 x2 x3 x4 x5 x6 x7 x8 x9
      go_loopw [4] (fun iv wr => ∃ i : Int, iv = .int .i64 i ∧ 0 ≤ i ∧ i ≤ q ∧ P30 B b k l s r q t (n + 2 * q.toNat + 3 * i.toNat) wr ∧ Below B W wr) (fun iv _ => (q - intOf iv).toNat)
      case atStart => exact ⟨0, rfl, by omega, by omega, HX.out.cast (by simp), HW.out⟩
      case round =>
        obtain ⟨i, rfl, i0, i1, hp, hb⟩ := hrel
        replace HX := Lib.hid hp
        replace HW := Lib.hid hb
        clear hp hb
        obtain ⟨⟨d0, d1, d2, d3, d4, d5⟩, ⟨x0, x1, x2, x3, x4, x5, x6, x7, x8, x9⟩⟩ := HX.out.cells
        by_cases hlt : i < q
        · go_wp2_with fail
          refine (load_r B b k l s r q t _ _ _ (by omega) HX.out).mono ?_
          rintro e u ⟨rfl, hp, hb⟩
          replace HX := Lib.hid hp
          replace HW := Lib.hid (HW.out.trans hb)
          clear hp hb d0 d1 d2 d3 d4 d5 x0 x1 x2 x3 x4 x5 x6 x7 x8 x9
          obtain ⟨⟨d0, d1, d2, d3, d4, d5⟩, ⟨x0, x1, x2, x3, x4, x5, x6, x7, x8, x9⟩⟩ := HX.out.cells
          go_wp2_with fail
          refine (load_r B b k l s r q t _ _ _ (by omega) HX.out).mono ?_
          rintro e u ⟨rfl, hp, hb⟩
          replace HX := Lib.hid hp
          replace HW := Lib.hid (HW.out.trans hb)
          clear hp hb d0 d1 d2 d3 d4 d5 x0 x1 x2 x3 x4 x5 x6 x7 x8 x9
          obtain ⟨⟨d0, d1, d2, d3, d4, d5⟩, ⟨x0, x1, x2, x3, x4, x5, x6, x7, x8, x9⟩⟩ := HX.out.cells
          go_wp2_with fail
          refine (store_r B b k l s r q t _ _ _ (by omega) HX.out).mono ?_
          rintro e u ⟨rfl, hp, hb⟩
          replace HX := Lib.hid hp
          replace HW := Lib.hid (HW.out.trans hb)
          clear hp hb d0 d1 d2 d3 d4 d5 x0 x1 x2 x3 x4 x5 x6 x7 x8 x9
          obtain ⟨⟨d0, d1, d2, d3, d4, d5⟩, ⟨x0, x1, x2, x3, x4, x5, x6, x7, x8, x9⟩⟩ := HX.out.cells
          go_wp2_with fail
          exact ⟨⟨i + 1, rfl, by omega, by omega, HX.out.cast (by omega), HW.out⟩, by simp [intOf]; omega⟩
        · obtain rfl : q = i := by omega
          clear hlt i0 i1
          go_wp2_with fail
          refine (load_r B b k l s r q t _ _ _ (by omega) HX.out).mono ?_
          rintro e u ⟨rfl, hp, hb⟩
          replace HX := Lib.hid hp
          replace HW := Lib.hid (HW.out.trans hb)
          clear hp hb d0 d1 d2 d3 d4 d5 x0 x1 x2 x3 x4 x5 x6 x7 x8 x9
          obtain ⟨⟨d0, d1, d2, d3, d4, d5⟩, ⟨x0, x1, x2, x3, x4, x5, x6, x7, x8, x9⟩⟩ := HX.out.cells
          go_wp2_with fail
          refine (store_r B b k l s r q t _ _ _ (by omega) HX.out).mono ?_
          rintro e u ⟨rfl, hp, hb⟩
          replace HX := Lib.hid hp
          replace HW := Lib.hid (HW.out.trans hb)
          clear hp hb d0 d1 d2 d3 d4 d5 x0 x1 x2 x3 x4 x5 x6 x7 x8 x9
          obtain ⟨⟨d0, d1, d2, d3, d4, d5⟩, ⟨x0, x1, x2, x3, x4, x5, x6, x7, x8, x9⟩⟩ := HX.out.cells
          go_wp2_with fail
          refine (load_r B b k l s r q t _ _ _ (by omega) HX.out).mono ?_
          rintro e u ⟨rfl, hp, hb⟩
          replace HX := Lib.hid hp
          replace HW := Lib.hid (HW.out.trans hb)
          clear hp hb d0 d1 d2 d3 d4 d5 x0 x1 x2 x3 x4 x5 x6 x7 x8 x9
          obtain ⟨⟨d0, d1, d2, d3, d4, d5⟩, ⟨x0, x1, x2, x3, x4, x5, x6, x7, x8, x9⟩⟩ := HX.out.cells
          go_wp2_with fail
          refine (store_r B b k l s r q t _ _ _ (by omega) HX.out).mono ?_
          rintro e u ⟨rfl, hp, hb⟩
          replace HX := Lib.hid hp
          replace HW := Lib.hid (HW.out.trans hb)
          clear hp hb d0 d1 d2 d3 d4 d5 x0 x1 x2 x3 x4 x5 x6 x7 x8 x9
          obtain ⟨⟨d0, d1, d2, d3, d4, d5⟩, ⟨x0, x1, x2, x3, x4, x5, x6, x7, x8, x9⟩⟩ := HX.out.cells
          go_wp2_with fail
          clear d0 d1 d2 d3 d4 d5 x0 x1 x2 x3 x4 x5 x6 x7 x8 x9
          go_loopw [5] (fun iv wr => ∃ i : Int, iv = .int .i64 i ∧ 0 ≤ i ∧ i ≤ q ∧ P30 B b k l s r q t (n + 5 * q.toNat + 4 + 3 * i.toNat) wr ∧ Below B W wr) (fun iv _ => (q - intOf iv).toNat)
          case atStart => exact ⟨0, rfl, by omega, by omega, HX.out.cast (by simp; omega), HW.out⟩
          case round =>
            obtain ⟨i, rfl, i0, i1, hp, hb⟩ := hrel
            replace HX := Lib.hid hp
            replace HW := Lib.hid hb
            clear hp hb
            obtain ⟨⟨d0, d1, d2, d3, d4, d5⟩, ⟨x0, x1, x2, x3, x4, x5, x6, x7, x8, x9⟩⟩ := HX.out.cells
            by_cases hlt : i < q
            · go_wp2_with fail
              refine (load_r B b k l s r q t _ _ _ (by omega) HX.out).mono ?_
              rintro e u ⟨rfl, hp, hb⟩
              replace HX := Lib.hid hp
              replace HW := Lib.hid (HW.out.trans hb)
              clear hp hb d0 d1 d2 d3 d4 d5 x0 x1 x2 x3 x4 x5 x6 x7 x8 x9
              obtain ⟨⟨d0, d1, d2, d3, d4, d5⟩, ⟨x0, x1, x2, x3, x4, x5, x6, x7, x8, x9⟩⟩ := HX.out.cells
              go_wp2_with fail
              refine (load_r B b k l s r q t _ _ _ (by omega) HX.out).mono ?_
              rintro e u ⟨rfl, hp, hb⟩
              replace HX := Lib.hid hp
              replace HW := Lib.hid (HW.out.trans hb)
              clear hp hb d0 d1 d2 d3 d4 d5 x0 x1 x2 x3 x4 x5 x6 x7 x8 x9
              obtain ⟨⟨d0, d1, d2, d3, d4, d5⟩, ⟨x0, x1, x2, x3, x4, x5, x6, x7, x8, x9⟩⟩ := HX.out.cells
              go_wp2_with fail
              refine (store_r B b k l s r q t _ _ _ (by omega) HX.out).mono ?_
              rintro e u ⟨rfl, hp, hb⟩
              replace HX := Lib.hid hp
              replace HW := Lib.hid (HW.out.trans hb)
              clear hp hb d0 d1 d2 d3 d4 d5 x0 x1 x2 x3 x4 x5 x6 x7 x8 x9
              obtain ⟨⟨d0, d1, d2, d3, d4, d5⟩, ⟨x0, x1, x2, x3, x4, x5, x6, x7, x8, x9⟩⟩ := HX.out.cells
              go_wp2_with fail
              exact ⟨⟨i + 1, rfl, by omega, by omega, HX.out.cast (by omega), HW.out⟩, by simp [intOf]; omega⟩
            · obtain rfl : q = i := by omega
              clear hlt i0 i1
              go_wp2_with fail
              clear d0 d1 d2 d3 d4 d5 x0 x1 x2 x3 x4 x5 x6 x7 x8 x9
              go_loopw [6] (fun fv wr => ∃ (j m : Nat), j ≤ 9 ∧ fv = .int .i64 (pow2 j) ∧ (j = 0 ∨ pow2 (j - 1) < q) ∧ (m : Int) = q * (j : Int) - pow2 j + 1 ∧ P30 B b k l s r q t (n + 8 * q.toNat + 4 + 16 * m) wr ∧ Below B W wr) (fun fv _ => (q - intOf fv).toNat)
              case atStart => exact ⟨0, 0, by omega, rfl, .inl rfl, by simp [pow2], HX.out.cast (by omega), HW.out⟩
              case round =>
                obtain ⟨j, m, hj, rfl, hjp, hm, hp, hb⟩ := hrel
                replace HX := Lib.hid hp
                replace HW := Lib.hid hb
                clear hp hb
                have HJP := Lib.hid hjp
                have HM := Lib.hid hm
                obtain ⟨p1, p2⟩ := pow2_bd hj
                have hqj : q * (j : Int) ≤ 288 * 9 := Int.mul_le_mul hq.2 (by omega) (by omega) (by omega)
                have hm9 : m ≤ 2593 := by omega
                clear hjp hm hqj
                by_cases hlt2 : pow2 j < q
                · have h8 := pow2_less hj hq.2 hlt2
                  have HS := Lib.hid (pow2_succ j)
                  go_wp2_with fail
                  go_loopw [7] (fun iv wr => ∃ i : Int, iv = .int .i64 i ∧ pow2 j ≤ i ∧ i ≤ q ∧ P30 B b k l s r q t (n + 8 * q.toNat + 4 + 16 * m + 16 * (i - pow2 j).toNat) wr ∧ Below B W wr) (fun iv _ => (q - intOf iv).toNat)
                  case atStart => exact ⟨pow2 j, rfl, by omega, by omega, by simpa using HX.out, HW.out⟩
                  case round =>
                    obtain ⟨i, rfl, i0, i1, hp, hb⟩ := hrel
                    replace HX := Lib.hid hp
                    replace HW := Lib.hid hb
                    clear hp hb
                    obtain ⟨⟨d0, d1, d2, d3, d4, d5⟩, ⟨x0, x1, x2, x3, x4, x5, x6, x7, x8, x9⟩⟩ := HX.out.cells
                    by_cases hlt3 : i < q
                    · go_wp2_with fail
                      refine (move_r B b k l s r q t _ _ _ _ (by omega) HX.out).mono ?_
                      rintro e u ⟨rfl, hp, hb⟩
                      replace HX := Lib.hid hp
                      replace HW := Lib.hid (HW.out.trans hb)
                      clear hp hb d0 d1 d2 d3 d4 d5 x0 x1 x2 x3 x4 x5 x6 x7 x8 x9
                      obtain ⟨⟨d0, d1, d2, d3, d4, d5⟩, ⟨x0, x1, x2, x3, x4, x5, x6, x7, x8, x9⟩⟩ := HX.out.cells
                      go_wp2_with fail
                      exact ⟨⟨i + 1, rfl, by omega, by omega, HX.out.cast (by omega), HW.out⟩, by simp [intOf]; omega⟩
                    · obtain rfl : q = i := by omega
                      go_wp2_with fail
                      exact ⟨⟨j + 1, m + (q - pow2 j).toNat, by omega, by rw [HS.out, Int.mul_comm], .inr (by simpa using hlt2), by have := HM.out; rw [HS.out, show ((j + 1 : Nat) : Int) = (j : Int) + 1 by omega, Int.mul_add, Int.mul_one]; omega, HX.out.cast (by omega), HW.out⟩, by simp [intOf]; omega⟩
                · have hmv := MV.out j hj (by omega) HJP.out
                  have hmm := HM.out
                  have HE := Lib.hid (show m = (movesV q).toNat by omega)
                  clear hmv hmm
                  go_wp2_with fail
                  (try simp only [Exit.inBlock, Exit.then])
                  exact bodyPost_end (v := .tuple #[]) (by simp [results, Try.results69, go_sem]) rfl ⟨rfl, HX.out.cast (by rw [HE.out]), HW.out⟩
end Go.Proofs.Ytdfofojlnkhjjaa
