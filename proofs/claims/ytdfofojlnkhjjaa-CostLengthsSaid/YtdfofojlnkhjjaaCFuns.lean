/- Layer 31: begun, plan.feed, the reference's Slots, many, block: plain Lean functions. -/
import Derived.Test.YtdfofojlnkhjjaaCBlock
namespace Go.Proofs.Ytdfofojlnkhjjaa
open Go.RowKit

theorem below_drewN {w w' : World} {B : Nat} (h : Below B w w') (n : Nat) : Below B w (w'.drewN n) := ⟨h.os, h.tape, h.output, h.size, h.block⟩

/-- what holds of a plan that is one -/
structure Fine (b k l s r : Int) : Prop where
  b1 : 1 ≤ b
  b2 : b ≤ 16
  bb : b = 1 ∨ b = 2 ∨ b = 4 ∨ b = 8 ∨ b = 16
  k1 : 1 ≤ k
  k2 : k ≤ 32
  l1 : 0 ≤ l
  l2 : l ≤ 1000000
  s1 : 1 ≤ s
  s2 : s ≤ 4
  r1 : 1 ≤ r
  r2 : r ≤ 16
  m1 : 1 ≤ b * r
  m2 : b * r ≤ 256
theorem fine {b k l s r : Int} (h : slotOk b k l s r = true) : Fine b k l s r := by
  obtain ⟨e1, e2⟩ := slotOk_iff.1 h
  obtain ⟨g1, g2, g3, g4, g5⟩ := cfgE_zero e1
  obtain ⟨g6, g7, g8, g9⟩ := shpE_zero e2
  obtain ⟨m1, m2⟩ := mul_bd g1 g8 g9
  exact ⟨by rcases g1 with rfl | rfl | rfl | rfl | rfl <;> omega, by rcases g1 with rfl | rfl | rfl | rfl | rfl <;> omega, g1, g2, g3, g4, g5, g6, g7, g8, g9, m1, m2⟩

theorem three (w : World) (o1 o2 o3 : Obj) : (((w.alloc o1).alloc o2).alloc o3).heap[w.heap.size]? = some o1 ∧ (((w.alloc o1).alloc o2).alloc o3).heap[w.heap.size + 1]? = some o2 ∧ (((w.alloc o1).alloc o2).alloc o3).heap[w.heap.size + 1 + 1]? = some o3 ∧
    Below w.heap.size w (((w.alloc o1).alloc o2).alloc o3) := by
  have a2 := new2 (w.alloc o1) o2 o3
  have a3 := heap_alloc_new ((w.alloc o1).alloc o2) o3
  rw [World.size_alloc] at a2 a3
  rw [World.size_alloc] at a3
  exact ⟨new3 w o1 o2 o3, a2, a3, (((Below.refl _ w).alloc (Nat.le_refl _) _).alloc (by simp) _).alloc (by simp; omega) _⟩
theorem two (w : World) (o1 o2 : Obj) : ((w.alloc o1).alloc o2).heap[w.heap.size]? = some o1 ∧ ((w.alloc o1).alloc o2).heap[w.heap.size + 1]? = some o2 ∧ Below w.heap.size w ((w.alloc o1).alloc o2) := by
  have a3 := heap_alloc_new (w.alloc o1) o2
  rw [World.size_alloc] at a3
  exact ⟨new2 w o1 o2, a3, ((Below.refl _ w).alloc (Nat.le_refl _) _).alloc (by simp) _⟩
theorem later {w w' : World} {B : Nat} {o : Obj} (h : w.heap[B]? = some o) (hb : Below w.heap.size w w') : w'.heap[B]? = some o := (hb.block B (Array.getElem?_eq_some_iff.1 h).1).trans h
theorem c2 {W : World} {B : Nat} {t : TypeId} {x0 x1 : Value} (h : W.heap[B]? = some (.cells #[x0, x1] t (0, 0))) : W.cell? ⟨B, 0, none⟩ = some x0 ∧ W.cell? ⟨B, 1, none⟩ = some x1 := by simp [World.cell?, h]
theorem c3 {W : World} {B : Nat} {t : TypeId} {x0 x1 x2 : Value} (h : W.heap[B]? = some (.cells #[x0, x1, x2] t (0, 0))) : W.cell? ⟨B, 0, none⟩ = some x0 ∧ W.cell? ⟨B, 1, none⟩ = some x1 ∧ W.cell? ⟨B, 2, none⟩ = some x2 := by simp [World.cell?, h]
theorem c6 {W : World} {B : Nat} {t : TypeId} {x0 x1 x2 x3 x4 x5 : Value} (h : W.heap[B]? = some (.cells #[x0, x1, x2, x3, x4, x5] t (0, 0))) :
    (W.cell? ⟨B, 0, none⟩ = some x0 ∧ W.cell? ⟨B, 1, none⟩ = some x1 ∧ W.cell? ⟨B, 2, none⟩ = some x2 ∧ W.cell? ⟨B, 3, none⟩ = some x3 ∧ W.cell? ⟨B, 4, none⟩ = some x4 ∧ W.cell? ⟨B, 5, none⟩ = some x5) ∧
    (W.frozen? ⟨B, 0, none⟩ = false ∧ W.frozen? ⟨B, 1, none⟩ = false ∧ W.frozen? ⟨B, 2, none⟩ = false ∧ W.frozen? ⟨B, 3, none⟩ = false ∧ W.frozen? ⟨B, 4, none⟩ = false ∧ W.frozen? ⟨B, 5, none⟩ = false) := by
  simp [World.cell?, World.frozen?, h]
theorem p6 {W : World} {B : Nat} {t : TypeId} {y0 y1 y2 y3 y4 y5 : Value} (x0 x1 x2 x3 x4 x5 : Value) (h : W.heap[B]? = some (.cells #[y0, y1, y2, y3, y4, y5] t (0, 0))) :
    (put6 W B x0 x1 x2 x3 x4 x5).heap[B]? = some (.cells #[x0, x1, x2, x3, x4, x5] t (0, 0)) := by
  unfold put6
  rw [heap_setCell_at _ (heap_setCell_at _ (heap_setCell_at _ (heap_setCell_at _ (heap_setCell_at _ (heap_setCell_at _ h)))))]
  simp

set_option maxRecDepth 100000 in
set_option maxHeartbeats 1000000 in
theorem begun_p (b k l s r : Int) (w : World) :
    Calls Try.prog 37 #[cfgV b k l, shpV s r] w fun e w' => e = .returned (.tuple #[planV b k l s r (slotV b k l s r), .int .i64 (slotE b k l s r)]) ∧ Below w.heap.size w w' := by
  have C1 := Lib.hid (fun w => slots_p b k l s r w)
  have HS := Lib.hid (three w (.cells #[.int .i64 b, .int .i64 k, .int .i64 l] 23) (.cells #[.int .i64 s, .int .i64 r] 25) (.cells #[.int .i64 0, .int .i64 0, .int .i64 0, .int .i64 0, .int .i64 0, .int .i64 0] 61))
  generalize slotV b k l s r = q at *
  generalize slotE b k l s r = e0 at *
  unfold cfgV shpV
  go_enter Try.func37, Try.ntmps37
  go_wp2_with fail
  refine (C1.out _).mono ?_
  rintro e w1 ⟨rfl, hb1⟩
  obtain ⟨a1, a2, a3, hB⟩ := HS.out
  have k1 := later a1 hb1
  have k2 := later a2 hb1
  have k3 := later a3 hb1
  have HB := Lib.hid (next hB hb1)
  have HK := Lib.hid k3
  obtain ⟨d0, d1, d2⟩ := c3 k1
  obtain ⟨d3, d4⟩ := c2 k2
  obtain ⟨d5, d6⟩ := c6 k3
  clear a1 a2 a3 hB k1 k2 k3 hb1
  go_wp2_with fail
  obtain ⟨q0, _⟩ := c6 (p6 (.int .i64 b) (.int .i64 k) (.int .i64 l) (.int .i64 s) (.int .i64 r) (.int .i64 q) HK.out)
  show bodyPost _ _ _ _ _ (put6 _ _ _ _ _ _ _ _)
  exact bodyPost_ret (v := .tuple #[planV b k l s r q, .int .i64 e0]) (by simp [results, Try.results37, go_sem, q0, planV]) rfl ⟨rfl, put6_below _ _ _ _ _ _ HB.out (by omega)⟩

set_option maxRecDepth 100000 in
set_option maxHeartbeats 1000000 in
theorem both_r (b k l s r : Int) (w : World) :
    Calls Try.prog 45 #[cfgV b k l, shpV s r] w fun e w' => e = .returned (.int .i64 (slotE b k l s r)) ∧ Below w.heap.size w w' := by
  have C1 := Lib.hid (fun w => cfgCheck_r b k l w)
  have C2 := Lib.hid (fun w => shpCheck_r s r w)
  have HS := Lib.hid (two w (.cells #[.int .i64 b, .int .i64 k, .int .i64 l] 23) (.cells #[.int .i64 s, .int .i64 r] 25))
  have he : slotE b k l s r = if cfgE b k l = 0 then shpE s r else 7 := by
    unfold slotE
    by_cases h : slotOk b k l s r = true
    · obtain ⟨e1, e2⟩ := slotOk_iff.1 h
      rw [if_pos h, if_pos e1, e2]
    · rw [if_neg h]
      rcases cfgE_bd b k l with e1 | e1
      · rw [if_pos e1]
        rcases shpE_bd s r with e2 | e2
        · exact absurd (slotOk_iff.2 ⟨e1, e2⟩) h
        · exact e2.symm
      · rw [if_neg (by omega)]
  rw [he]
  clear he
  generalize shpE s r = e2 at *
  rcases cfgE_bd b k l with e1 | e1
  all_goals
    rw [e1] at C1 ⊢
    clear e1
    unfold cfgV shpV
    go_enter Try.func45, Try.ntmps45
    go_wp2_with fail
    refine (C1.out _).mono ?_
    rintro e w1 ⟨rfl, hb1⟩
    obtain ⟨a1, a2, hB⟩ := HS.out
    have k2 := later a2 hb1
    have HB := Lib.hid (next hB hb1)
    obtain ⟨d3, d4⟩ := c2 k2
    clear a1 a2 hB k2 hb1
    go_wp2_with (go_at_call 62; refine (C2.out _).mono ?_; rintro e w2 ⟨rfl, hb2⟩; have HB2 := Lib.hid (next HB.out hb2); clear hb2)
    go_ret
    first | exact ⟨rfl, HB2.out⟩ | exact ⟨rfl, HB.out⟩

set_option maxRecDepth 100000 in
set_option maxHeartbeats 1000000 in
theorem slots_r (b k l s r : Int) (w : World) :
    Calls Try.prog 21 #[cfgV b k l, shpV s r] w fun e w' => e = .returned (.tuple #[.int .i64 (slotV b k l s r), .int .i64 (slotE b k l s r)]) ∧ Below w.heap.size w w' := by
  have C1 := Lib.hid (fun w => both_r b k l s r w)
  have HS := Lib.hid (two w (.cells #[.int .i64 b, .int .i64 k, .int .i64 l] 23) (.cells #[.int .i64 s, .int .i64 r] 25))
  by_cases hz : slotOk b k l s r = true
  · have F := fine hz
    rw [show slotE b k l s r = 0 by unfold slotE; rw [if_pos hz]] at C1 ⊢
    rw [show slotV b k l s r = k + b * r by unfold slotV; rw [if_pos hz]]
    obtain ⟨_, _, _, f1, f2, _, _, _, _, f3, f4, f5, f6⟩ := F
    clear hz
    unfold cfgV shpV
    go_enter Try.func21, Try.ntmps21
    go_wp2_with fail
    refine (C1.out _).mono ?_
    rintro e w1 ⟨rfl, hb1⟩
    obtain ⟨a1, a2, hB⟩ := HS.out
    have k1 := later a1 hb1
    have k2 := later a2 hb1
    have HB := Lib.hid (next hB hb1)
    obtain ⟨d0, d1, d2⟩ := c3 k1
    obtain ⟨d3, d4⟩ := c2 k2
    clear a1 a2 hB k1 k2 hb1
    go_wp2_with fail
    go_ret2
    exact ⟨rfl, HB.out⟩
  · rw [show slotE b k l s r = 7 by unfold slotE; rw [if_neg hz]] at C1 ⊢
    rw [show slotV b k l s r = 0 by unfold slotV; rw [if_neg hz]]
    clear hz
    unfold cfgV shpV
    go_enter Try.func21, Try.ntmps21
    go_wp2_with fail
    refine (C1.out _).mono ?_
    rintro e w1 ⟨rfl, hb1⟩
    have HB := Lib.hid (next HS.out.2.2 hb1)
    clear hb1
    go_wp2_with fail
    go_ret2
    exact ⟨rfl, HB.out⟩

end Go.Proofs.Ytdfofojlnkhjjaa
