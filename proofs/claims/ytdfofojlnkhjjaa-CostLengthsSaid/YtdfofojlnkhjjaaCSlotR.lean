/- Layer 28: Slots of the program, and the reference's in, Check, CheckShape, both, Slots. -/
import Derived.Test.YtdfofojlnkhjjaaCSlot
namespace Go.Proofs.Ytdfofojlnkhjjaa
open Go.RowKit

set_option maxRecDepth 100000 in
set_option maxHeartbeats 1000000 in
theorem slots_p (b k l s r : Int) (w : World) :
    Calls Try.prog 58 #[cfgV b k l, shpV s r] w fun e w' => e = .returned (.tuple #[.int .i64 (slotV b k l s r), .int .i64 (slotE b k l s r)]) ∧ Below w.heap.size w w' := by
  have C1 := Lib.hid (fun w => planned_p b k l s r w)
  have HB := Lib.hid (((Below.refl _ w).alloc (Nat.le_refl _) (.cells #[.int .i64 b, .int .i64 k, .int .i64 l] 23)).alloc (by simp) (.cells #[.int .i64 s, .int .i64 r] 25))
  by_cases hz : slotOk b k l s r = true
  all_goals
    first
    | (rw [show plnV b k l s r = planV b k l s r (k + b * r) by unfold plnV; rw [if_pos hz], show slotE b k l s r = 0 by unfold slotE; rw [if_pos hz]] at C1
       rw [show slotV b k l s r = k + b * r by unfold slotV; rw [if_pos hz], show slotE b k l s r = 0 by unfold slotE; rw [if_pos hz]]
       generalize k + b * r = q at *)
    | (rw [show plnV b k l s r = planV 0 0 0 0 0 0 by unfold plnV; rw [if_neg hz], show slotE b k l s r = 7 by unfold slotE; rw [if_neg hz]] at C1
       rw [show slotV b k l s r = 0 by unfold slotV; rw [if_neg hz], show slotE b k l s r = 7 by unfold slotE; rw [if_neg hz]])
    clear hz
    unfold cfgV shpV planV at *
    go_enter Try.func58, Try.ntmps58
    go_wp2_with (go_at_call 71; refine (C1.out _).mono ?_; rintro e w1 ⟨rfl, hb1⟩; have HB1 := Lib.hid (next HB.out hb1); clear hb1)
    go_ret2
    exact ⟨rfl, next HB1.out ((Below.refl _ _).alloc (Nat.le_refl _) _)⟩

theorem in_r (n lo hi : Int) (w : World) :
    Calls Try.prog 74 #[.int .i64 n, .int .i64 lo, .int .i64 hi] w fun e w' => e = .returned (.bool (decide (lo ≤ n ∧ n ≤ hi))) ∧ w = w' := by
  by_cases h1 : lo ≤ n
  · by_cases h2 : n ≤ hi
    · have e : decide (lo ≤ n ∧ n ≤ hi) = true := decide_eq_true ⟨h1, h2⟩
      rw [e]; clear e
      go_enter Try.func74, Try.ntmps74
      go_wp2
      go_ret
      exact ⟨rfl, rfl⟩
    · have e : decide (lo ≤ n ∧ n ≤ hi) = false := decide_eq_false (fun h => h2 h.2)
      rw [e]; clear e
      go_enter Try.func74, Try.ntmps74
      go_wp2
      go_ret
      exact ⟨rfl, rfl⟩
  · have e : decide (lo ≤ n ∧ n ≤ hi) = false := decide_eq_false (fun h => h1 h.1)
    rw [e]; clear e
    go_enter Try.func74, Try.ntmps74
    go_wp2
    go_ret
    exact ⟨rfl, rfl⟩

set_option maxRecDepth 100000 in
set_option maxHeartbeats 4000000 in
theorem cfgCheck_r (b k l : Int) (w : World) :
    Calls Try.prog 61 #[cfgV b k l] w fun e w' => e = .returned (.int .i64 (cfgE b k l)) ∧ Below w.heap.size w w' := by
  unfold cfgV
  have C1 := fun w => in_r k 1 32 w
  have C2 := fun w => in_r l 0 1000000 w
  by_cases hb : b = 1 ∨ b = 2 ∨ b = 4 ∨ b = 8 ∨ b = 16
  · by_cases hk : 1 ≤ k ∧ k ≤ 32
    · rw [decide_eq_true hk] at C1
      by_cases hl : 0 ≤ l ∧ l ≤ 1000000
      · rw [decide_eq_true hl] at C2
        rw [cfgE_of hb hk.1 hk.2 hl.1 hl.2]
        clear hk hl
        rcases hb with rfl | rfl | rfl | rfl | rfl
        all_goals
          go_enter Try.func61, Try.ntmps61
          go_wp2_with (first | (go_at_call 74; (with_reducible refine (C1 _).mono ?_); rintro e w' ⟨rfl, rfl⟩) | (go_at_call 74; (with_reducible refine (C2 _).mono ?_); rintro e w' ⟨rfl, rfl⟩))
          go_ret
          exact ⟨rfl, (Below.refl _ _).alloc (Nat.le_refl _) _⟩
      · rw [decide_eq_false hl] at C2
        rw [cfgE_not (fun h => hl h.2.2.2)]
        clear hk hl
        rcases hb with rfl | rfl | rfl | rfl | rfl
        all_goals
          go_enter Try.func61, Try.ntmps61
          go_wp2_with (first | (go_at_call 74; (with_reducible refine (C1 _).mono ?_); rintro e w' ⟨rfl, rfl⟩) | (go_at_call 74; (with_reducible refine (C2 _).mono ?_); rintro e w' ⟨rfl, rfl⟩))
          go_ret
          exact ⟨rfl, (Below.refl _ _).alloc (Nat.le_refl _) _⟩
    · rw [decide_eq_false hk] at C1
      rw [cfgE_not (fun h => hk ⟨h.2.1, h.2.2.1⟩)]
      clear hk C2
      rcases hb with rfl | rfl | rfl | rfl | rfl
      all_goals
        go_enter Try.func61, Try.ntmps61
        go_wp2_with (go_at_call 74; refine (C1 _).mono ?_; rintro e w' ⟨rfl, rfl⟩)
        go_ret
        exact ⟨rfl, (Below.refl _ _).alloc (Nat.le_refl _) _⟩
  · rw [cfgE_not (fun h => hb h.1)]
    have n1 : (b == 1) = false := by simp; omega
    have n2 : (b == 2) = false := by simp; omega
    have n3 : (b == 4) = false := by simp; omega
    have n4 : (b == 8) = false := by simp; omega
    have n5 : (b == 16) = false := by simp; omega
    clear hb C1 C2
    go_enter Try.func61, Try.ntmps61
    go_wp2_with fail
    go_ret
    exact ⟨rfl, (Below.refl _ _).alloc (Nat.le_refl _) _⟩

set_option maxRecDepth 100000 in
set_option maxHeartbeats 1000000 in
theorem shpCheck_r (s r : Int) (w : World) :
    Calls Try.prog 62 #[shpV s r] w fun e w' => e = .returned (.int .i64 (shpE s r)) ∧ Below w.heap.size w w' := by
  unfold shpV
  have C1 := fun w => in_r s 1 4 w
  have C2 := fun w => in_r r 1 16 w
  by_cases hk : 1 ≤ s ∧ s ≤ 4
  · rw [decide_eq_true hk] at C1
    by_cases hl : 1 ≤ r ∧ r ≤ 16
    · rw [decide_eq_true hl] at C2
      rw [show shpE s r = 0 by unfold shpE; rw [if_pos (shpOk_iff.2 ⟨hk.1, hk.2, hl.1, hl.2⟩)]]
      clear hk hl
      go_enter Try.func62, Try.ntmps62
      go_wp2_with (first | (go_at_call 74; (with_reducible refine (C1 _).mono ?_); rintro e w' ⟨rfl, rfl⟩) | (go_at_call 74; (with_reducible refine (C2 _).mono ?_); rintro e w' ⟨rfl, rfl⟩))
      go_ret
      exact ⟨rfl, (Below.refl _ _).alloc (Nat.le_refl _) _⟩
    · rw [decide_eq_false hl] at C2
      rw [show shpE s r = 7 by unfold shpE; rw [if_neg (fun h => hl ⟨(shpOk_iff.1 h).2.2.1, (shpOk_iff.1 h).2.2.2⟩)]]
      clear hk hl
      go_enter Try.func62, Try.ntmps62
      go_wp2_with (first | (go_at_call 74; (with_reducible refine (C1 _).mono ?_); rintro e w' ⟨rfl, rfl⟩) | (go_at_call 74; (with_reducible refine (C2 _).mono ?_); rintro e w' ⟨rfl, rfl⟩))
      go_ret
      exact ⟨rfl, (Below.refl _ _).alloc (Nat.le_refl _) _⟩
  · rw [decide_eq_false hk] at C1
    rw [show shpE s r = 7 by unfold shpE; rw [if_neg (fun h => hk ⟨(shpOk_iff.1 h).1, (shpOk_iff.1 h).2.1⟩)]]
    clear hk C2
    go_enter Try.func62, Try.ntmps62
    go_wp2_with (go_at_call 74; refine (C1 _).mono ?_; rintro e w' ⟨rfl, rfl⟩)
    go_ret
    exact ⟨rfl, (Below.refl _ _).alloc (Nat.le_refl _) _⟩

end Go.Proofs.Ytdfofojlnkhjjaa
