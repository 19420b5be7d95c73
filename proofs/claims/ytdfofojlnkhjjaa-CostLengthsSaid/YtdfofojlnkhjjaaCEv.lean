/- Layer 30, the reference: a plan with the steps that are written: load, store, stores. -/
import Derived.Test.YtdfofojlnkhjjaaCNeed
namespace Go.Proofs.Ytdfofojlnkhjjaa
open Go.RowKit

def planC (b k l s r q : Int) (t : Nat → Int) (ov : Value) : Array Value := #[.int .i64 b, .int .i64 k, .int .i64 l, .int .i64 s, .int .i64 r, .int .i64 q, .int .i64 (t 0), .int .i64 (t 1), .int .i64 (t 2), .int .i64 (t 3), .int .i64 (t 4), .int .i64 (t 5), .int .i64 (t 6), .int .i64 (t 7), .int .i64 (t 8), .int .i64 (t 9), ov]
/-- block B is a plan with n steps -/
def P30 (B : Nat) (b k l s r q : Int) (t : Nat → Int) (n : Nat) (W : World) : Prop :=
  ∃ ov xs, W.heap[B]? = some (.cells (planC b k l s r q t ov) 89 (0, 0)) ∧ W.ownsRow (B + 1) 103 2 ov n xs
theorem infoEv : (Try.prog.info? 103).map (fun i => (i.zero, i.size, i.bytes)) = some (some (.agg #[.int .i32 0, .int .i32 0]), 2, 8) := by kernel_rfl

theorem P30.lt {B : Nat} {b k l s r q : Int} {t : Nat → Int} {n : Nat} {W : World} (h : P30 B b k l s r q t n W) : B < W.heap.size := by
  obtain ⟨_, _, h, _⟩ := h; exact (Array.getElem?_eq_some_iff.1 h).1
theorem P30.keep {B m : Nat} {b k l s r q : Int} {t : Nat → Int} {n : Nat} {W W' : World} (h : P30 B b k l s r q t n W) (hb : Below m W W') (hm : m = W.heap.size) : P30 B b k l s r q t n W' := by
  subst hm
  obtain ⟨ov, xs, h1, h2⟩ := h
  exact ⟨ov, xs, later h1 hb, ownsRow_below h2 hb⟩
theorem P30.cells {B : Nat} {b k l s r q : Int} {t : Nat → Int} {n : Nat} {W : World} (h : P30 B b k l s r q t n W) :
    (W.cell? ⟨B, 0, none⟩ = some (.int .i64 b) ∧ W.cell? ⟨B, 1, none⟩ = some (.int .i64 k) ∧ W.cell? ⟨B, 2, none⟩ = some (.int .i64 l) ∧ W.cell? ⟨B, 3, none⟩ = some (.int .i64 s) ∧ W.cell? ⟨B, 4, none⟩ = some (.int .i64 r) ∧ W.cell? ⟨B, 5, none⟩ = some (.int .i64 q)) ∧
    (W.cell? ⟨B, 6, none⟩ = some (.int .i64 (t 0)) ∧ W.cell? ⟨B, 7, none⟩ = some (.int .i64 (t 1)) ∧ W.cell? ⟨B, 8, none⟩ = some (.int .i64 (t 2)) ∧ W.cell? ⟨B, 9, none⟩ = some (.int .i64 (t 3)) ∧ W.cell? ⟨B, 10, none⟩ = some (.int .i64 (t 4)) ∧
      W.cell? ⟨B, 11, none⟩ = some (.int .i64 (t 5)) ∧ W.cell? ⟨B, 12, none⟩ = some (.int .i64 (t 6)) ∧ W.cell? ⟨B, 13, none⟩ = some (.int .i64 (t 7)) ∧ W.cell? ⟨B, 14, none⟩ = some (.int .i64 (t 8)) ∧ W.cell? ⟨B, 15, none⟩ = some (.int .i64 (t 9))) := by
  obtain ⟨ov, xs, h1, _⟩ := h
  exact ⟨⟨(cellAt h1 0).trans rfl, (cellAt h1 1).trans rfl, (cellAt h1 2).trans rfl, (cellAt h1 3).trans rfl, (cellAt h1 4).trans rfl, (cellAt h1 5).trans rfl⟩,
    (cellAt h1 6).trans rfl, (cellAt h1 7).trans rfl, (cellAt h1 8).trans rfl, (cellAt h1 9).trans rfl, (cellAt h1 10).trans rfl, (cellAt h1 11).trans rfl, (cellAt h1 12).trans rfl, (cellAt h1 13).trans rfl, (cellAt h1 14).trans rfl, (cellAt h1 15).trans rfl⟩

set_option maxRecDepth 100000 in
set_option maxHeartbeats 1000000 in
theorem load_r (B : Nat) (b k l s r q : Int) (t : Nat → Int) (n : Nat) (at_ : Int) (W : World) (hn : n ≤ 10000000) (h : P30 B b k l s r q t n W) :
    Calls Try.prog 70 #[.pointer (some ⟨B, 0, none⟩), .int .i64 at_] W fun e w' => e = .returned (.tuple #[]) ∧ P30 B b k l s r q t (n + 1) w' ∧ Below B W w' := by
  have hl := h.lt
  obtain ⟨i0, hi, hz0, hz1, hz2⟩ := info_parts infoEv
  obtain ⟨ov, xs, h1, hown⟩ := h
  have c16 : W.cell? ⟨B, 16, none⟩ = some ov := (cellAt h1 16).trans rfl
  have HB := Lib.hid h1
  have HO := Lib.hid hown
  clear h1 hown
  go_enter Try.func70, Try.ntmps70
  go_wp2_with (at_builtin
               refine wpList_append_own _ rfl _ _ 43 rfl (B + 1) 103 i0 _ 2 8 Try.underlying43 hi hz0 hz1 hz2 rfl (by decide) _ _ _ rfl (HO.out.alloc _) ⟨W.heap.size, 0, none⟩ 1 1 [.int .i32 1, .int .i32 (wrap32 at_)] rfl rfl (cells_new _ _ _) (by simp [Value.oneCell']) (by unfold maxLen; omega) (by omega) (by simp; omega) ?_
               intro v' w1 hown' hgrow _
               obtain ⟨gg, capp, rfl, _⟩ := hown'.form (by omega)
               have bg : Below (B + 1) W w1 := ((Below.refl _ W).alloc (by omega) _).grown hgrow (by simp; omega) (fun qq e => (HO.out.lt qq e).1)
               have h2 := (bg.block B (by omega)).trans HB.out
               have f16 : w1.frozen? ⟨B, 16, none⟩ = false := by simp [World.frozen?, h2]
               have c17 : w1.cell? ⟨B, 16, none⟩ = some ov := (cellAt h2 16).trans rfl
               have HO2 := Lib.hid hown'
               have HB2 := Lib.hid h2
               have HG := Lib.hid bg
               clear hown' hgrow bg h2 c16)
  (try simp only [Exit.inBlock, Exit.then])
  refine bodyPost_end (v := .tuple #[]) (by simp [results, Try.results70, go_sem]) rfl ?_
  refine ⟨rfl, ⟨.slice (some ⟨gg, 0, none⟩) (n + 1) capp, xs ++ [.int .i32 1, .int .i32 (wrap32 at_)], ?_, ?_⟩, ?_⟩
  · rw [heap_setCell_at _ HB2.out]
    rfl
  · exact ownsRow_setCell_below (a := ⟨B, 16, none⟩) HO2.out (Nat.lt_succ_self B) _
  · exact (HG.out.mono (Nat.le_succ B)).setCell (p := ⟨B, 16, none⟩) (Nat.le_refl _) _

set_option maxRecDepth 100000 in
set_option maxHeartbeats 1000000 in
theorem store_r (B : Nat) (b k l s r q : Int) (t : Nat → Int) (n : Nat) (at_ : Int) (W : World) (hn : n ≤ 10000000) (h : P30 B b k l s r q t n W) :
    Calls Try.prog 66 #[.pointer (some ⟨B, 0, none⟩), .int .i64 at_] W fun e w' => e = .returned (.tuple #[]) ∧ P30 B b k l s r q t (n + 1) w' ∧ Below B W w' := by
  have hl := h.lt
  obtain ⟨i0, hi, hz0, hz1, hz2⟩ := info_parts infoEv
  obtain ⟨ov, xs, h1, hown⟩ := h
  have c16 : W.cell? ⟨B, 16, none⟩ = some ov := (cellAt h1 16).trans rfl
  have HB := Lib.hid h1
  have HO := Lib.hid hown
  clear h1 hown
  go_enter Try.func66, Try.ntmps66
  go_wp2_with (at_builtin
               refine wpList_append_own _ rfl _ _ 43 rfl (B + 1) 103 i0 _ 2 8 Try.underlying43 hi hz0 hz1 hz2 rfl (by decide) _ _ _ rfl (HO.out.alloc _) ⟨W.heap.size, 0, none⟩ 1 1 [.int .i32 2, .int .i32 (wrap32 at_)] rfl rfl (cells_new _ _ _) (by simp [Value.oneCell']) (by unfold maxLen; omega) (by omega) (by simp; omega) ?_
               intro v' w1 hown' hgrow _
               obtain ⟨gg, capp, rfl, _⟩ := hown'.form (by omega)
               have bg : Below (B + 1) W w1 := ((Below.refl _ W).alloc (by omega) _).grown hgrow (by simp; omega) (fun qq e => (HO.out.lt qq e).1)
               have h2 := (bg.block B (by omega)).trans HB.out
               have f16 : w1.frozen? ⟨B, 16, none⟩ = false := by simp [World.frozen?, h2]
               have c17 : w1.cell? ⟨B, 16, none⟩ = some ov := (cellAt h2 16).trans rfl
               have HO2 := Lib.hid hown'
               have HB2 := Lib.hid h2
               have HG := Lib.hid bg
               clear hown' hgrow bg h2 c16)
  (try simp only [Exit.inBlock, Exit.then])
  refine bodyPost_end (v := .tuple #[]) (by simp [results, Try.results66, go_sem]) rfl ?_
  refine ⟨rfl, ⟨.slice (some ⟨gg, 0, none⟩) (n + 1) capp, xs ++ [.int .i32 2, .int .i32 (wrap32 at_)], ?_, ?_⟩, ?_⟩
  · rw [heap_setCell_at _ HB2.out]
    rfl
  · exact ownsRow_setCell_below (a := ⟨B, 16, none⟩) HO2.out (Nat.lt_succ_self B) _
  · exact (HG.out.mono (Nat.le_succ B)).setCell (p := ⟨B, 16, none⟩) (Nat.le_refl _) _

set_option maxRecDepth 100000 in
set_option maxHeartbeats 1000000 in
theorem stores_r (B : Nat) (b k l s r q : Int) (t : Nat → Int) (n : Nat) (x y : Int) (W : World) (hx : 0 ≤ x) (hxy : x ≤ y) (hy : y ≤ 100000) (hn : n ≤ 9900000) (h : P30 B b k l s r q t n W) :
    Calls Try.prog 53 #[.pointer (some ⟨B, 0, none⟩), .int .i64 x, .int .i64 y] W fun e w' => e = .returned (.tuple #[]) ∧ P30 B b k l s r q t (n + (y - x).toNat) w' ∧ Below B W w' := by
  have H := Lib.hid h
  clear h
  go_enter Try.func53, Try.ntmps53
  go_wp2_with fail
  go_loopw [6] (fun iv wr => ∃ i : Int, iv = .int .i64 i ∧ x ≤ i ∧ i ≤ y ∧ P30 B b k l s r q t (n + (i - x).toNat) wr ∧ Below B W wr) (fun iv _ => (y - intOf iv).toNat)
  case atStart => exact ⟨x, rfl, by omega, by omega, by simpa using H.out, Below.refl _ _⟩
  case round =>
    obtain ⟨i, rfl, i1, i2, hp, hB⟩ := hrel
    have HPP := Lib.hid hp
    have HBB := Lib.hid hB
    clear hp hB
    by_cases hlt : i < y
    · go_wp2_with fail
      refine (store_r B b k l s r q t _ _ _ (by omega) HPP.out).mono ?_
      rintro e w2 ⟨rfl, hp, hb⟩
      have HP2 := Lib.hid hp
      have HB2 := Lib.hid (HBB.out.trans hb)
      clear hp hb
      go_wp2_with fail
      exact ⟨⟨i + 1, rfl, by omega, by omega, by have := HP2.out; rwa [show n + (i - x).toNat + 1 = n + (i + 1 - x).toNat by omega] at this, HB2.out⟩, by simp [intOf]; omega⟩
    · obtain rfl : i = y := by omega
      go_wp2_with fail
      (try simp only [Exit.inBlock, Exit.then])
      exact bodyPost_end (v := .tuple #[]) (by simp [results, Try.results53, go_sem]) rfl ⟨rfl, HPP.out, HBB.out⟩
end Go.Proofs.Ytdfofojlnkhjjaa
