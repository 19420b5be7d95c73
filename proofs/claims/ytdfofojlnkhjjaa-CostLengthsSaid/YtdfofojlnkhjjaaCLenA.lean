/- Layer 31, the lengths: what the law compares, in plain numbers; the memory of the law; Calls of shapes that are none. -/
import Derived.Test.YtdfofojlnkhjjaaCCalls
import Derived.Test.YtdfofojlnkhjjaaCAwake
namespace Go.Proofs.Ytdfofojlnkhjjaa
open Go.RowKit

theorem lens_bd {l s : Int} {fd : Int → Int} (hf : ∀ y, 0 ≤ fd y ∧ fd y ≤ 100001000) (s1 : 1 ≤ s) (s2 : s ≤ 4) : ∀ (L : List (Int × Int)) (at_ : Int) (c : Bool), ∀ e ∈ lens l s fd L at_ c, 0 ≤ e ∧ e ≤ 100001000
  | [], _, _, e, h => by simp [lens] at h
  | (x, y) :: t, at_, c, e, h => by
    have hy := hf y
    unfold lens at h
    (repeat' split at h) <;> (
      rcases List.mem_cons.1 h with rfl | h'
      · omega
      · exact lens_bd hf s1 s2 t _ _ e h')
theorem getD_bd {A : List Int} {N : Int} (h : ∀ e ∈ A, 0 ≤ e ∧ e ≤ N) (hN : 0 ≤ N) (i : Nat) : 0 ≤ A.getD i 0 ∧ A.getD i 0 ≤ N := by
  rw [List.getD_eq_getElem?_getD]
  rcases Nat.lt_or_ge i A.length with h1 | h1
  · rw [List.getElem?_eq_getElem h1]; exact h _ (List.getElem_mem h1)
  · rw [List.getElem?_eq_none h1]; exact ⟨Int.le_refl _, hN⟩
theorem take_step (A : List Int) (i : Nat) : (A.take (i + 1)).sum = (A.take i).sum + A.getD i 0 := by
  rcases Nat.lt_or_ge i A.length with h1 | h1
  · rw [List.take_succ_eq_append_getElem h1, List.sum_append, List.getD_eq_getElem?_getD, List.getElem?_eq_getElem h1]; simp
  · rw [List.take_of_length_le (by omega), List.take_of_length_le (by omega), List.getD_eq_getElem?_getD, List.getElem?_eq_none h1]; simp

theorem blk_is {b k l s r : Int} (hz : slotOk b k l s r = true) : blkV b k l s r = fdV b k l s r 1 - fdV b k l s r 0 := by
  have F := fine hz
  obtain ⟨e1, m1⟩ := few_ok hz (show (0 : Int) ≤ 1 by omega) (by omega)
  obtain ⟨e0, m0⟩ := few_ok hz (show (0 : Int) ≤ 0 by omega) (by omega)
  unfold blkV fdV fdE
  rw [if_pos hz, if_pos (by rw [if_pos hz]; exact e1), if_pos (by rw [if_pos hz]; exact e0)]
  unfold feedV
  have h1 : manyV 1 b = 1 := by
    rw [manyV_ok e1]
    rcases F.bb with rfl | rfl | rfl | rfl | rfl <;> decide
  have h0 : manyV 0 b = 0 := by
    rw [manyV_ok e0]
    rcases F.bb with rfl | rfl | rfl | rfl | rfl <;> decide
  rw [h1, h0]
  omega

/-- the memory of the law: the configuration, the shape, what is asked -/
structure Ask (w : World) (b k l s r x : Int) (v : Value) (W : World) : Prop where
  plain : Plain w w.heap.size b k l s r W
  ask : W.heap[w.heap.size + 1 + 1]? = some (.cells #[.int .u8 x, v] 42 (0, 0))
theorem Ask.keep {w W W' : World} {n : Nat} {b k l s r x : Int} {v : Value} (h : Ask w b k l s r x v W) (hb : Below n W W') (hn : n = W.heap.size) : Ask w b k l s r x v W' := ⟨h.plain.keep hb hn, later' hb h.ask hn⟩
theorem Ask.start (w : World) (b k l s r x : Int) (v : Value) : Ask w b k l s r x v (((w.alloc (.cells #[.int .i64 b, .int .i64 k, .int .i64 l] 23)).alloc (.cells #[.int .i64 s, .int .i64 r] 25)).alloc (.cells #[.int .u8 x, v] 42)) := by
  refine ⟨(Plain.start w b k l s r).keep ((Below.refl _ _).alloc (Nat.le_refl _) _) rfl, ?_⟩
  have := heap_alloc_new ((w.alloc (.cells #[.int .i64 b, .int .i64 k, .int .i64 l] 23)).alloc (.cells #[.int .i64 s, .int .i64 r] 25)) (.cells #[.int .u8 x, v] 42)
  simpa using this
theorem Ask.cells {w W : World} {b k l s r x : Int} {v : Value} (h : Ask w b k l s r x v W) :
    (W.cell? ⟨w.heap.size, 0, none⟩ = some (.int .i64 b) ∧ W.cell? ⟨w.heap.size, 1, none⟩ = some (.int .i64 k) ∧ W.cell? ⟨w.heap.size, 2, none⟩ = some (.int .i64 l)) ∧ (W.cell? ⟨w.heap.size + 1, 0, none⟩ = some (.int .i64 s) ∧ W.cell? ⟨w.heap.size + 1, 1, none⟩ = some (.int .i64 r)) ∧
    (W.cell? ⟨w.heap.size + 1 + 1, 0, none⟩ = some (.int .u8 x) ∧ W.cell? ⟨w.heap.size + 1 + 1, 1, none⟩ = some v) :=
  ⟨h.plain.cells.1, h.plain.cells.2.1, c2 h.ask⟩
theorem Ask.bel {w W : World} {b k l s r x : Int} {v : Value} (h : Ask w b k l s r x v W) : Below w.heap.size w W := h.plain.bel

set_option maxRecDepth 100000 in
set_option maxHeartbeats 2000000 in
theorem calls30_bad (b k l s r : Int) (v : Value) (L : List (Int × Int)) (w : World) (hv : Pairs w v L) (hz : slotOk b k l s r = true) (hL : ¬ shapesE L = 0) :
    Calls Try.prog 32 #[cfgV b k l, shpV s r, v] w fun e w' => e = .returned (.tuple #[.slice none 0 0, .int .i64 (shapesE L)]) ∧ Below w.heap.size w w' := by
  have K1 := Lib.hid (fun w => begun30 b k l s r hz w)
  have K2 := Lib.hid (fun w (h : Pairs w v L) => shapes30 v L w h)
  generalize shapesE L = E at *
  have hE : (E != 0) = true := bne_iff_ne.2 hL
  have HP := Lib.hid (Plain.start w b k l s r)
  obtain ⟨_, av, capv, rfl, _⟩ := id hv
  have HV := Lib.hid hv
  clear hv hL hz
  obtain ⟨⟨d0, d1, d2⟩, ⟨d3, d4⟩, _⟩ := HP.out.cells
  unfold cfgV shpV at *
  go_enter Try.func32, Try.ntmps32
  go_wp2_with fail
  refine (K1.out _).mono ?_
  rintro e w1 ⟨B, rfl, _, _, hb⟩
  have P1 := Lib.hid (HP.out.keep hb rfl)
  clear d0 d1 d2 d3 d4 hb
  go_wp2_with fail
  refine (K2.out _ (HV.out.below P1.out.bel)).mono ?_
  rintro e w2 ⟨rfl, hb⟩
  have P2 := Lib.hid (P1.out.keep hb rfl)
  clear hb
  go_wp2_with fail
  go_ret2
  exact ⟨rfl, P2.out.bel⟩
end Go.Proofs.Ytdfofojlnkhjjaa
