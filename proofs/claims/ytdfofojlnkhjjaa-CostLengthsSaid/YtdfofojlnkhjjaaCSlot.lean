/- Layer 28: planned and Slots of configurations and shapes: program and reference compute the same plain Lean functions. -/
import Derived.Test.YtdfofojlnkhjjaaCCfg
import Derived.Deep.RegionHeld3
import Derived.LoopN
import Derived.Laws.CopyOwn
namespace Go.Proofs.Ytdfofojlnkhjjaa
open Go.RowKit

theorem next {w w1 w2 : World} (h1 : Below w.heap.size w w1) (h2 : Below w1.heap.size w1 w2) : Below w.heap.size w w2 := h1.trans (h2.mono h1.size)

/-- the plan that is returned -/
def plnV (b k l s r : Int) : Value := if slotOk b k l s r then planV b k l s r (k + b * r) else planV 0 0 0 0 0 0

theorem slotOk_iff {b k l s r : Int} : slotOk b k l s r = true ↔ cfgE b k l = 0 ∧ shpE s r = 0 := by
  unfold slotOk cfgE shpE
  cases cfgOk b k l <;> cases shpOk s r <;> simp

theorem cfgE_zero {b k l : Int} (h : cfgE b k l = 0) : (b = 1 ∨ b = 2 ∨ b = 4 ∨ b = 8 ∨ b = 16) ∧ 1 ≤ k ∧ k ≤ 32 ∧ 0 ≤ l ∧ l ≤ 1000000 := by
  unfold cfgE at h
  split at h
  · obtain ⟨h1, h2⟩ := cfgOk_iff.1 ‹_›
    exact ⟨okB_cases h1, h2⟩
  · cases h
theorem shpE_zero {s r : Int} (h : shpE s r = 0) : 1 ≤ s ∧ s ≤ 4 ∧ 1 ≤ r ∧ r ≤ 16 := by
  unfold shpE at h
  split at h
  · exact shpOk_iff.1 ‹_›
  · cases h
theorem mul_bd {b r : Int} (hb : b = 1 ∨ b = 2 ∨ b = 4 ∨ b = 8 ∨ b = 16) (h1 : 1 ≤ r) (h2 : r ≤ 16) : 1 ≤ b * r ∧ b * r ≤ 256 := by
  rcases hb with rfl | rfl | rfl | rfl | rfl <;> omega

abbrev HeldP (w : World) (b k l s r : Int) (W : World) : Prop :=
  (W.cell? ⟨w.heap.size, 0, none⟩ = some (.int .i64 b) ∧ W.cell? ⟨w.heap.size, 1, none⟩ = some (.int .i64 k) ∧ W.cell? ⟨w.heap.size, 2, none⟩ = some (.int .i64 l) ∧
   W.cell? ⟨w.heap.size + 1, 0, none⟩ = some (.int .i64 s) ∧ W.cell? ⟨w.heap.size + 1, 1, none⟩ = some (.int .i64 r)) ∧
  W.heap[w.heap.size + 1 + 1]? = some (.cells #[.int .i64 0, .int .i64 0, .int .i64 0, .int .i64 0, .int .i64 0, .int .i64 0] 97) ∧ Below w.heap.size w W
theorem HeldP.keep {w W W' : World} {b k l s r : Int} (hb : Below W.heap.size W W') (h : HeldP w b k l s r W) : HeldP w b k l s r W' := by
  obtain ⟨⟨c0, c1, c2, c3, c4⟩, hl, hB⟩ := h
  have hlt := (Array.getElem?_eq_some_iff.1 hl).1
  exact ⟨⟨(hb.cell (p := ⟨w.heap.size, 0, none⟩) (by simp; omega)).trans c0, (hb.cell (p := ⟨w.heap.size, 1, none⟩) (by simp; omega)).trans c1, (hb.cell (p := ⟨w.heap.size, 2, none⟩) (by simp; omega)).trans c2,
    (hb.cell (p := ⟨w.heap.size + 1, 0, none⟩) (by simp; omega)).trans c3, (hb.cell (p := ⟨w.heap.size + 1, 1, none⟩) (by simp; omega)).trans c4⟩, (hb.block _ hlt).trans hl, next hB hb⟩
theorem new2 (W : World) (o o2 : Obj) : ((W.alloc o).alloc o2).heap[W.heap.size]? = some o := (Below.heap_alloc _ _ _ (by simp)).trans (heap_alloc_new W o)
theorem new3 (W : World) (o o2 o3 : Obj) : (((W.alloc o).alloc o2).alloc o3).heap[W.heap.size]? = some o := (Below.heap_alloc _ _ _ (by simp; omega)).trans (new2 W o o2)
theorem HeldP.start (w : World) (b k l s r : Int) : HeldP w b k l s r (((w.alloc (.cells #[.int .i64 b, .int .i64 k, .int .i64 l] 23)).alloc (.cells #[.int .i64 s, .int .i64 r] 25)).alloc
    (.cells #[.int .i64 0, .int .i64 0, .int .i64 0, .int .i64 0, .int .i64 0, .int .i64 0] 97)).drew := by
  have a1 := new3 w (.cells #[.int .i64 b, .int .i64 k, .int .i64 l] 23) (.cells #[.int .i64 s, .int .i64 r] 25) (.cells #[.int .i64 0, .int .i64 0, .int .i64 0, .int .i64 0, .int .i64 0, .int .i64 0] 97)
  have a2 := new2 (w.alloc (.cells #[.int .i64 b, .int .i64 k, .int .i64 l] 23)) (.cells #[.int .i64 s, .int .i64 r] 25) (.cells #[.int .i64 0, .int .i64 0, .int .i64 0, .int .i64 0, .int .i64 0, .int .i64 0] 97)
  have a3 := heap_alloc_new ((w.alloc (.cells #[.int .i64 b, .int .i64 k, .int .i64 l] 23)).alloc (.cells #[.int .i64 s, .int .i64 r] 25)) (.cells #[.int .i64 0, .int .i64 0, .int .i64 0, .int .i64 0, .int .i64 0, .int .i64 0] 97)
  have hB : Below w.heap.size w (((w.alloc (.cells #[.int .i64 b, .int .i64 k, .int .i64 l] 23)).alloc (.cells #[.int .i64 s, .int .i64 r] 25)).alloc (.cells #[.int .i64 0, .int .i64 0, .int .i64 0, .int .i64 0, .int .i64 0, .int .i64 0] 97)) := (((Below.refl _ w).alloc (Nat.le_refl _) _).alloc (by simp) _).alloc (by simp; omega) _
  rw [World.size_alloc] at a2 a3
  rw [World.size_alloc] at a3
  generalize (((w.alloc (.cells #[.int .i64 b, .int .i64 k, .int .i64 l] 23)).alloc (.cells #[.int .i64 s, .int .i64 r] 25)).alloc (.cells #[.int .i64 0, .int .i64 0, .int .i64 0, .int .i64 0, .int .i64 0, .int .i64 0] 97)) = W at *
  refine ⟨?_, a3, hB.drew⟩
  show W.cell? _ = _ ∧ W.cell? _ = _ ∧ W.cell? _ = _ ∧ W.cell? _ = _ ∧ W.cell? _ = _
  simp [World.cell?, a1, a2]
theorem HeldP.fin {w W : World} {b k l s r : Int} (h : HeldP w b k l s r W) : Below w.heap.size w W := h.2.2
theorem HeldP.blk {w W : World} {b k l s r : Int} (h : HeldP w b k l s r W) : W.heap[w.heap.size + 1 + 1]? = some (.cells #[.int .i64 0, .int .i64 0, .int .i64 0, .int .i64 0, .int .i64 0, .int .i64 0] 97) := h.2.1

theorem six {W : World} {B : Nat} {x0 x1 x2 x3 x4 x5 : Value} (h : W.heap[B]? = some (.cells #[x0, x1, x2, x3, x4, x5] 97)) :
    (W.cell? ⟨B, 0, none⟩ = some x0 ∧ W.cell? ⟨B, 1, none⟩ = some x1 ∧ W.cell? ⟨B, 2, none⟩ = some x2 ∧ W.cell? ⟨B, 3, none⟩ = some x3 ∧ W.cell? ⟨B, 4, none⟩ = some x4 ∧ W.cell? ⟨B, 5, none⟩ = some x5) ∧
    (W.frozen? ⟨B, 0, none⟩ = false ∧ W.frozen? ⟨B, 1, none⟩ = false ∧ W.frozen? ⟨B, 2, none⟩ = false ∧ W.frozen? ⟨B, 3, none⟩ = false ∧ W.frozen? ⟨B, 4, none⟩ = false ∧ W.frozen? ⟨B, 5, none⟩ = false) := by
  simp [World.cell?, World.frozen?, h]

theorem heap_setCell_at {w : World} {b o : Nat} {c : Array Value} {t : TypeId} {fr : Nat × Nat} (v : Value) (h : w.heap[b]? = some (.cells c t fr)) :
    (w.setCell ⟨b, o, none⟩ v).heap[b]? = some (.cells (c.setIfInBounds o v) t fr) := by
  obtain ⟨hlt, hk⟩ := Array.getElem?_eq_some_iff.1 h
  show (w.heap.modify b _)[b]? = _
  rw [Array.getElem?_eq_getElem (by rw [Array.size_modify]; exact hlt), Array.getElem_modify_self, hk]
  rfl
def put6 (W : World) (B : Nat) (x0 x1 x2 x3 x4 x5 : Value) : World :=
  (((((W.setCell ⟨B, 0, none⟩ x0).setCell ⟨B, 1, none⟩ x1).setCell ⟨B, 2, none⟩ x2).setCell ⟨B, 3, none⟩ x3).setCell ⟨B, 4, none⟩ x4).setCell ⟨B, 5, none⟩ x5
theorem put6_at {W : World} {B : Nat} {y0 y1 y2 y3 y4 y5 : Value} (x0 x1 x2 x3 x4 x5 : Value) (h : W.heap[B]? = some (.cells #[y0, y1, y2, y3, y4, y5] 97)) :
    (put6 W B x0 x1 x2 x3 x4 x5).heap[B]? = some (.cells #[x0, x1, x2, x3, x4, x5] 97) := by
  unfold put6
  rw [heap_setCell_at _ (heap_setCell_at _ (heap_setCell_at _ (heap_setCell_at _ (heap_setCell_at _ (heap_setCell_at _ h)))))]
  simp
theorem put6_below {N : Nat} {w W : World} {B : Nat} (x0 x1 x2 x3 x4 x5 : Value) (h : Below N w W) (hN : N ≤ B) : Below N w (put6 W B x0 x1 x2 x3 x4 x5) :=
  (((((h.setCell (p := ⟨B, 0, none⟩) hN _).setCell (p := ⟨B, 1, none⟩) hN _).setCell (p := ⟨B, 2, none⟩) hN _).setCell (p := ⟨B, 3, none⟩) hN _).setCell (p := ⟨B, 4, none⟩) hN _).setCell (p := ⟨B, 5, none⟩) hN _

set_option maxRecDepth 100000 in
set_option maxHeartbeats 2000000 in
theorem planned_p (b k l s r : Int) (w : World) :
    Calls Try.prog 71 #[cfgV b k l, shpV s r] w fun e w' => e = .returned (.tuple #[plnV b k l s r, .int .i64 (slotE b k l s r)]) ∧ Below w.heap.size w w' := by
  have HS := Lib.hid (HeldP.start w b k l s r)
  have C1 := Lib.hid (fun w => cfgCheck_p b k l w)
  have C2 := Lib.hid (fun w => shpCheck_p s r w)
  by_cases hz : slotOk b k l s r = true
  · obtain ⟨e1, e2⟩ := slotOk_iff.1 hz
    rw [e1] at C1
    rw [e2] at C2
    have hp : plnV b k l s r = planV b k l s r (k + b * r) := by unfold plnV; rw [if_pos hz]
    have he : slotE b k l s r = 0 := by unfold slotE; rw [if_pos hz]
    obtain ⟨g1, g2, g3, g4, g5⟩ := cfgE_zero e1
    obtain ⟨g6, g7, g8, g9⟩ := shpE_zero e2
    obtain ⟨m1, m2⟩ := mul_bd g1 g8 g9
    rw [hp, he]
    clear hp he e1 e2 hz g1
    unfold cfgV shpV
    go_enter Try.func71, Try.ntmps71
    go_wp2_with fail
    first | go_region_held3 (fun w' => HeldP w b k l s r w') (first | exact HS.out | exact HeldP.keep (by assumption) (by assumption) | exact HeldP.keep ((Below.refl _ _).alloc (Nat.le_refl _) _) (by assumption)) (first
      | (go_at_call 76; refine (C1.out _).mono ?_; rintro e w' ⟨rfl, hb⟩)
      | (go_at_call 77; refine (C2.out _).mono ?_; rintro e w' ⟨rfl, hb⟩)) | fail
    all_goals
      rename HeldP w b k l s r _ => hS
      obtain ⟨hcs, hfs⟩ := six hS.2.1
      have hlt := (Array.getElem?_eq_some_iff.1 hS.2.1).1
      have hbk := Lib.hid hS.2.1
      have hBe := Lib.hid hS.2.2
      obtain ⟨⟨d0, d1, d2, d3, d4⟩, _, _⟩ := hS
      go_wp2_with fail
      refine wp_loop_rounds 3 ?_
      rw [rounds_succ]
      go_wp2_with fail
      rw [rounds_succ]
      go_wp2_with fail
      rw [rounds_succ]
      go_wp2_with fail
      obtain ⟨q, _⟩ := six (put6_at (.int .i64 b) (.int .i64 k) (.int .i64 l) (.int .i64 s) (.int .i64 r) (.int .i64 (k + b * r)) hbk.out)
      show bodyPost _ _ _ _ _ (put6 _ _ _ _ _ _ _ _)
      exact bodyPost_ret (v := .tuple #[planV b k l s r (k + b * r), .int .i64 0]) (by simp [results, Try.results71, go_sem, q, planV]) rfl ⟨rfl, put6_below _ _ _ _ _ _ hBe.out (by omega)⟩
  · have hp : plnV b k l s r = planV 0 0 0 0 0 0 := by unfold plnV; rw [if_neg hz]
    have he : slotE b k l s r = 7 := by unfold slotE; rw [if_neg hz]
    rw [hp, he]
    clear hp he
    have h3 : cfgE b k l = 7 ∨ cfgE b k l = 0 ∧ shpE s r = 7 := by
      rcases cfgE_bd b k l with e1 | e1
      · rcases shpE_bd s r with e2 | e2
        · exact absurd (slotOk_iff.2 ⟨e1, e2⟩) hz
        · exact .inr ⟨e1, e2⟩
      · exact .inl e1
    clear hz
    unfold cfgV shpV
    rcases h3 with e1 | ⟨e1, e2⟩
    · rw [e1] at C1
      generalize shpE s r = ee at *
      clear e1
      go_enter Try.func71, Try.ntmps71
      go_wp2_with fail
      first | go_region_held3 (fun w' => HeldP w b k l s r w') (first | exact HS.out | exact HeldP.keep (by assumption) (by assumption) | exact HeldP.keep ((Below.refl _ _).alloc (Nat.le_refl _) _) (by assumption)) (first
        | (go_at_call 76; refine (C1.out _).mono ?_; rintro e w' ⟨rfl, hb⟩)
        | (go_at_call 77; refine (C2.out _).mono ?_; rintro e w' ⟨rfl, hb⟩)) | fail
      all_goals
        rename HeldP w b k l s r _ => hS
        obtain ⟨hcs, hfs⟩ := six hS.2.1
        have hlt := (Array.getElem?_eq_some_iff.1 hS.2.1).1
        have hbk := Lib.hid hS.2.1
        have hBe := Lib.hid hS.2.2
        obtain ⟨⟨d0, d1, d2, d3, d4⟩, _, _⟩ := hS
        go_wp2_with fail
        refine wp_loop_rounds 1 ?_
        rw [rounds_succ]
        go_wp2_with fail
        obtain ⟨q, _⟩ := six (put6_at (.int .i64 0) (.int .i64 0) (.int .i64 0) (.int .i64 0) (.int .i64 0) (.int .i64 0) hbk.out)
        show bodyPost _ _ _ _ _ (put6 _ _ _ _ _ _ _ _)
        exact bodyPost_ret (v := .tuple #[planV 0 0 0 0 0 0, .int .i64 7]) (by simp [results, Try.results71, go_sem, q, planV]) rfl ⟨rfl, put6_below _ _ _ _ _ _ hBe.out (by omega)⟩
    · rw [e1] at C1
      rw [e2] at C2
      clear e1 e2
      go_enter Try.func71, Try.ntmps71
      go_wp2_with fail
      first | go_region_held3 (fun w' => HeldP w b k l s r w') (first | exact HS.out | exact HeldP.keep (by assumption) (by assumption) | exact HeldP.keep ((Below.refl _ _).alloc (Nat.le_refl _) _) (by assumption)) (first
        | (go_at_call 76; refine (C1.out _).mono ?_; rintro e w' ⟨rfl, hb⟩)
        | (go_at_call 77; refine (C2.out _).mono ?_; rintro e w' ⟨rfl, hb⟩)) | fail
      all_goals
        rename HeldP w b k l s r _ => hS
        obtain ⟨hcs, hfs⟩ := six hS.2.1
        have hlt := (Array.getElem?_eq_some_iff.1 hS.2.1).1
        have hbk := Lib.hid hS.2.1
        have hBe := Lib.hid hS.2.2
        obtain ⟨⟨d0, d1, d2, d3, d4⟩, _, _⟩ := hS
        go_wp2_with fail
        refine wp_loop_rounds 2 ?_
        rw [rounds_succ]
        go_wp2_with fail
        rw [rounds_succ]
        go_wp2_with fail
        obtain ⟨q, _⟩ := six (put6_at (.int .i64 0) (.int .i64 0) (.int .i64 0) (.int .i64 0) (.int .i64 0) (.int .i64 0) hbk.out)
        show bodyPost _ _ _ _ _ (put6 _ _ _ _ _ _ _ _)
        exact bodyPost_ret (v := .tuple #[planV 0 0 0 0 0 0, .int .i64 7]) (by simp [results, Try.results71, go_sem, q, planV]) rfl ⟨rfl, put6_below _ _ _ _ _ _ hBe.out (by omega)⟩

end Go.Proofs.Ytdfofojlnkhjjaa
