/- Layer 31: the closure of cost.Kept; cost.Kept. -/
import Derived.Test.YtdfofojlnkhjjaaCKeptR
namespace Go.Proofs.Ytdfofojlnkhjjaa
open Go.RowKit Go.Shelf

theorem later' {W W' : World} {n B : Nat} {o : Obj} (hb : Below n W W') (h : W.heap[B]? = some o) (hn : n = W.heap.size) : W'.heap[B]? = some o := by subst hn; exact later h hb
theorem cell_one {W : World} {B : Nat} {t : TypeId} {x0 : Value} (h : W.heap[B]? = some (.cells #[x0] t (0, 0))) : W.cell? ⟨B, 0, none⟩ = some x0 := by simp [World.cell?, h]
/-- the memory in which the closure runs: the plan, and the number of steps -/
structure Plan (w : World) (B C : Nat) (b l s r st : Int) (W : World) : Prop where
  plan : ∃ k q : Int, W.heap[B]? = some (.cells #[.int .i64 b, .int .i64 k, .int .i64 l, .int .i64 s, .int .i64 r, .int .i64 q] 61 (0, 0))
  st : W.heap[C]? = some (.cells #[.int .i64 st] 3 (0, 0))
  ne : B ≠ C
  base : w.heap.size ≤ B
  bel : Below w.heap.size w W
theorem Plan.keep {w W W' : World} {B C n : Nat} {b l s r st : Int} (h : Plan w B C b l s r st W) (hb : Below n W W') (hn : n = W.heap.size) : Plan w B C b l s r st W' := by
  subst hn
  obtain ⟨k, q, hp⟩ := h.plan
  exact ⟨⟨k, q, later hp hb⟩, later h.st hb, h.ne, h.base, next h.bel hb⟩
theorem Plan.put {w W : World} {B C : Nat} {b l s r st : Int} (h : Plan w B C b l s r st W) (k q : Int) :
    ((W.setCell ⟨B, 1, none⟩ (.int .i64 k)).setCell ⟨B, 5, none⟩ (.int .i64 q)).heap[B]? = some (.cells #[.int .i64 b, .int .i64 k, .int .i64 l, .int .i64 s, .int .i64 r, .int .i64 q] 61 (0, 0)) ∧
    ((W.setCell ⟨B, 1, none⟩ (.int .i64 k)).setCell ⟨B, 5, none⟩ (.int .i64 q)).heap[C]? = some (.cells #[.int .i64 st] 3 (0, 0)) ∧
    Plan w B C b l s r st ((W.setCell ⟨B, 1, none⟩ (.int .i64 k)).setCell ⟨B, 5, none⟩ (.int .i64 q)) := by
  obtain ⟨k0, q0, hp⟩ := h.plan
  have e1 : ((W.setCell ⟨B, 1, none⟩ (.int .i64 k)).setCell ⟨B, 5, none⟩ (.int .i64 q)).heap[B]? = some (.cells #[.int .i64 b, .int .i64 k, .int .i64 l, .int .i64 s, .int .i64 r, .int .i64 q] 61 (0, 0)) := by
    rw [heap_setCell_at _ (heap_setCell_at _ hp)]; simp
  have e2 : ((W.setCell ⟨B, 1, none⟩ (.int .i64 k)).setCell ⟨B, 5, none⟩ (.int .i64 q)).heap[C]? = some (.cells #[.int .i64 st] 3 (0, 0)) := by
    rw [Below.heap_setCell _ _ _ _ (Ne.symm h.ne), Below.heap_setCell _ _ _ _ (Ne.symm h.ne)]; exact h.st
  exact ⟨e1, e2, ⟨k, q, e1⟩, e2, h.ne, h.base, (h.bel.setCell (p := ⟨B, 1, none⟩) h.base _).setCell (p := ⟨B, 5, none⟩) h.base _⟩

set_option maxRecDepth 100000 in
set_option maxHeartbeats 2000000 in
theorem kept1_p (b k l s r st : Int) (hz : slotOk b k l s r = true) (w : World) (B C h : Nat) (hh : h < 32) (W : World) (hW : Plan w B C b l s r st W) :
    Calls Try.prog 48 #[.int .i64 (h : Nat), .pointer (some ⟨B, 0, none⟩), .pointer (some ⟨C, 0, none⟩)] W fun e w' => e = .returned (.bool (decide (st < stepsAt b s r ((h : Int) + 1)))) ∧ Plan w B C b l s r st w' := by
  obtain ⟨b1, b2, bb, k1, k2, l1, l2, s1, s2, r1, r2, m1, m2⟩ := fine hz
  have C2 := Lib.hid (fun w => feedM_p b ((h : Int) + 1) l s r ((h : Int) + 1 + b * r) 1000 b1 b2 (by omega) (by omega) s1 s2 r1 r2 (by omega) (by omega) w)
  unfold stepsAt
  generalize feedV b ((h : Int) + 1) s r ((h : Int) + 1 + b * r) (manyV 1000 b) = V at *
  obtain ⟨p1, p2, p3⟩ := hW.put ((h : Int) + 1) ((h : Int) + 1 + b * r)
  obtain ⟨k0, q0, hp⟩ := hW.plan
  obtain ⟨⟨d0, d1, d2, d3, d4, d5⟩, ⟨f0, f1, f2, f3, f4, f5⟩⟩ := c6 hp
  have H3 := Lib.hid p3
  have H1 := Lib.hid p1
  have H2 := Lib.hid p2
  clear p1 p2 p3 hp hW bb
  have w1 : IntKind.i64.wrap (b * r) = b * r := IntWalk.i64_in _ (by omega)
  have w2 : IntKind.i64.wrap ((h : Int) + 1 + b * r) = (h : Int) + 1 + b * r := IntWalk.i64_in _ (by omega)
  go_enter Try.func48, Try.ntmps48
  go_wp2_with fail
  obtain ⟨q0, q1, q2, q3, q4, q5⟩ := (c6 H1.out).1
  have q6 : ((W.setCell ⟨B, 1, none⟩ (.int .i64 ((h : Int) + 1))).setCell ⟨B, 5, none⟩ (.int .i64 ((h : Int) + 1 + b * r))).cell? ⟨C, 0, none⟩ = some (.int .i64 st) := by simp [World.cell?, H2.out]
  clear d0 d1 d2 d3 d4 d5 f0 f1 f2 f3 f4 f5
  generalize hW2 : ((W.setCell ⟨B, 1, none⟩ (.int .i64 ((h : Int) + 1))).setCell ⟨B, 5, none⟩ (.int .i64 ((h : Int) + 1 + b * r))) = W2 at *
  clear hW2
  have g0 := fun d os => cell_regrown q0 d os
  have g1 := fun d os => cell_regrown q1 d os
  have g2 := fun d os => cell_regrown q2 d os
  have g3 := fun d os => cell_regrown q3 d os
  have g4 := fun d os => cell_regrown q4 d os
  have g5 := fun d os => cell_regrown q5 d os
  have g6 := fun d os => cell_regrown q6 d os
  unfold planV at *
  refine wp_region_quiet_below (by kernel_rfl) (by kernel_rfl) ?_
  repeat (go_big_quiet_step ((go_at_call 41; exact Calls.regrown_of (C2.out _))))
  refine wpQuiet_nil ?_
  intro _ hw'
  obtain ⟨⟨dq, osq⟩, hw''⟩ := hw'
  subst hw''
  clear g0 g1 g2 g3 g4 g5 g6
  go_wp2_with fail
  go_ret
  exact ⟨rfl, H3.out.keep (below_regrown _ _ _) rfl⟩

theorem kept_found {b k l s r st : Int} (F : Fine b k l s r) {i : Nat} (hi : i ≤ 32) (h1 : i = 0 ∨ decide (st < stepsAt b s r (((i - 1 : Nat) : Int) + 1)) = false) (h2 : i = 32 ∨ decide (st < stepsAt b s r ((i : Int) + 1)) = true) :
    keptN (stepsAt b s r) st 32 = i := by
  refine keptN_is hi (fun h a c => ?_) ?_
  · rcases h2 with h2 | h2
    · omega
    · rw [decide_eq_true_iff] at h2
      have := steps_mono F (a := i + 1) (d := h - i) (by omega)
      rw [show ((i + 1 : Nat) : Int) = (i : Int) + 1 by omega, show ((i + 1 + (h - i) : Nat) : Int) = (h : Int) + 1 by omega] at this
      omega
  · rcases h1 with h1 | h1
    · exact .inl h1
    · rw [decide_eq_false_iff_not] at h1
      by_cases e : i = 0
      · exact .inl e
      · rw [show (((i - 1 : Nat) : Int) + 1) = (i : Int) by omega] at h1
        exact .inr (by omega)

set_option maxRecDepth 100000 in
set_option maxHeartbeats 2000000 in
theorem kept_p (b k l s r st : Int) (w : World) :
    Calls Try.prog 25 #[cfgV b k l, shpV s r, .int .i64 st] w fun e w' => e = .returned (.tuple #[.int .i64 (kpV b k l s r st), .int .i64 (kpE b k l s r st)]) ∧ Below w.heap.size w w' := by
  have C1 := Lib.hid (fun w => begun_p b k l s r w)
  obtain ⟨a1, a2, a3, hB⟩ := three w (.cells #[.int .i64 b, .int .i64 k, .int .i64 l] 23) (.cells #[.int .i64 s, .int .i64 r] 25) (.cells #[.int .i64 st] 3)
  obtain ⟨d0, d1, d2⟩ := c3 a1
  obtain ⟨d3, d4⟩ := c2 a2
  have A3 := Lib.hid a3
  have HB := Lib.hid hB
  clear a1 a2 a3 hB
  by_cases hz : slotOk b k l s r = true
  · have F := fine hz
    unfold kpV kpE
    rw [show slotE b k l s r = 0 by unfold slotE; rw [if_pos hz]] at C1
    rw [if_pos hz]
    by_cases hst : st < 0
    · rw [if_neg (by omega), if_pos hst]
      generalize slotV b k l s r = q at *
      clear F hz
      unfold cfgV shpV planV at *
      go_enter Try.func25, Try.ntmps25
      go_wp2_with fail
      refine (C1.out _).mono ?_
      rintro e w1 ⟨rfl, hb1⟩
      have A31 := later' hb1 A3.out rfl
      have HB1 := Lib.hid (next HB.out hb1)
      have hl := (Array.getElem?_eq_some_iff.1 A31).1
      have d6 := cell_one A31
      clear d0 d1 d2 d3 d4 hb1 A31
      go_wp2_with fail
      go_ret2
      exact ⟨rfl, HB1.out.alloc (by have := HB1.out.size; omega) _⟩
    · rw [if_pos ⟨hz, by omega⟩, if_neg hst]
      have HF := Lib.hid (fun (i : Nat) (hi : i ≤ 32) (h1 : i = 0 ∨ decide (st < stepsAt b s r (((i - 1 : Nat) : Int) + 1)) = false) (h2 : i = 32 ∨ decide (st < stepsAt b s r ((i : Int) + 1)) = true) => kept_found F hi h1 h2)
      have KS := Lib.hid (fun (B C : Nat) (W : World) (hW : Plan w B C b l s r st W) => search_p 48 (enters_of Try.func48 (by kernel_rfl) rfl) (.pointer (some ⟨B, 0, none⟩)) (.pointer (some ⟨C, 0, none⟩)) 32 (by omega) (fun h => decide (st < stepsAt b s r ((h : Int) + 1))) (Plan w B C b l s r st) (fun h hh w' hw' => kept1_p b k l s r st hz w B C h hh w' hw') W hW)
      generalize hE : (if keptN (stepsAt b s r) st 32 = 0 then (4 : Int) else 0) = E
      have HE := Lib.hid hE
      clear hE
      generalize hK0 : keptN (stepsAt b s r) st 32 = K at *
      have HK0 := Lib.hid hK0
      clear hK0
      generalize slotV b k l s r = q at *
      clear F hz
      unfold cfgV shpV planV at *
      go_enter Try.func25, Try.ntmps25
      go_wp2_with fail
      refine (C1.out _).mono ?_
      rintro e w1 ⟨rfl, hb1⟩
      have A31 := later' hb1 A3.out rfl
      have HB1 := Lib.hid (next HB.out hb1)
      have hl := (Array.getElem?_eq_some_iff.1 A31).1
      have d6 := cell_one A31
      have HP := Lib.hid (show Plan w w1.heap.size (w.heap.size + 1 + 1) b l s r st (w1.alloc (.cells #[.int .i64 b, .int .i64 k, .int .i64 l, .int .i64 s, .int .i64 r, .int .i64 q] 61)) from
        ⟨⟨k, q, heap_alloc_new _ _⟩, (Below.heap_alloc _ _ _ hl).trans A31, by omega, by have := HB1.out.size; omega, HB1.out.alloc (by have := HB1.out.size; omega) _⟩)
      clear d0 d1 d2 d3 d4 hb1 A31
      go_wp2_with fail
      refine (KS.out _ _ _ HP.out).mono ?_
      rintro e w2 ⟨i, rfl, hi, h1, h2, hP2⟩
      obtain rfl : K = i := HF.out i hi h1 h2
      have HP2 := Lib.hid hP2
      clear h1 h2 hP2 d6 hl
      by_cases h0 : K = 0
      · subst h0
        go_wp2_with fail
        go_ret2
        rw [← HE.out]
        exact ⟨rfl, HP2.out.bel⟩
      · have hne : ((K : Int) == 0) = false := by simp; omega
        go_wp2_with fail
        go_ret2
        rw [← HE.out, if_neg h0]
        exact ⟨rfl, HP2.out.bel⟩
  · unfold kpV kpE
    rw [show slotE b k l s r = 7 by unfold slotE; rw [if_neg hz]] at C1
    rw [if_neg hz, if_neg (fun h => hz h.1)]
    generalize slotV b k l s r = q at *
    clear hz
    unfold cfgV shpV planV at *
    go_enter Try.func25, Try.ntmps25
    go_wp2_with fail
    refine (C1.out _).mono ?_
    rintro e w1 ⟨rfl, hb1⟩
    have HB1 := Lib.hid (next HB.out hb1)
    clear d0 d1 d2 d3 d4 hb1
    go_wp2_with fail
    go_ret2
    exact ⟨rfl, HB1.out.alloc (by have := HB1.out.size; omega) _⟩
end Go.Proofs.Ytdfofojlnkhjjaa
