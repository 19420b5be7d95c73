/- Layer 28: Check, CheckShape, Slots of configurations and shapes: program and reference compute the same plain Lean functions. -/
import Derived.Test.YtdfofojlnkhjjaaCBlk
import Derived.Below
namespace Go.Proofs.Ytdfofojlnkhjjaa
open Go.RowKit

theorem ret_int {k : IntKind} {a b : Int} (h : a = b) : Ending.returned (.int k a) = .returned (.int k b) := by rw [h]
/-- a configuration, by value -/
def cfgV (b k l : Int) : Value := .agg #[.int .i64 b, .int .i64 k, .int .i64 l]
/-- a shape, by value -/
def shpV (s r : Int) : Value := .agg #[.int .i64 s, .int .i64 r]
def cfgOk (b k l : Int) : Bool := okB b && decide (1 ≤ k) && decide (k ≤ 32) && decide (0 ≤ l) && decide (l ≤ 1000000)
def shpOk (s r : Int) : Bool := decide (1 ≤ s) && decide (s ≤ 4) && decide (1 ≤ r) && decide (r ≤ 16)
def cfgE (b k l : Int) : Int := if cfgOk b k l then 0 else 7
def shpE (s r : Int) : Int := if shpOk s r then 0 else 7
def slotOk (b k l s r : Int) : Bool := cfgOk b k l && shpOk s r
def slotE (b k l s r : Int) : Int := if slotOk b k l s r then 0 else 7
def slotV (b k l s r : Int) : Int := if slotOk b k l s r then k + b * r else 0

theorem cfgOk_iff {b k l : Int} : cfgOk b k l = true ↔ okB b = true ∧ 1 ≤ k ∧ k ≤ 32 ∧ 0 ≤ l ∧ l ≤ 1000000 := by simp [cfgOk, and_assoc]
theorem shpOk_iff {s r : Int} : shpOk s r = true ↔ 1 ≤ s ∧ s ≤ 4 ∧ 1 ≤ r ∧ r ≤ 16 := by simp [shpOk, and_assoc]

theorem cfgE_of {b k l : Int} (h1 : b = 1 ∨ b = 2 ∨ b = 4 ∨ b = 8 ∨ b = 16) (h2 : 1 ≤ k) (h3 : k ≤ 32) (h4 : 0 ≤ l) (h5 : l ≤ 1000000) : cfgE b k l = 0 := by
  unfold cfgE; rw [if_pos (cfgOk_iff.2 ⟨by rcases h1 with rfl | rfl | rfl | rfl | rfl <;> rfl, h2, h3, h4, h5⟩)]
theorem cfgE_not {b k l : Int} (h : ¬ ((b = 1 ∨ b = 2 ∨ b = 4 ∨ b = 8 ∨ b = 16) ∧ 1 ≤ k ∧ k ≤ 32 ∧ 0 ≤ l ∧ l ≤ 1000000)) : cfgE b k l = 7 := by
  unfold cfgE; rw [if_neg]; intro e; obtain ⟨e1, e2⟩ := cfgOk_iff.1 e; exact h ⟨okB_cases e1, e2⟩

theorem cfgE_bd (b k l : Int) : cfgE b k l = 0 ∨ cfgE b k l = 7 := by unfold cfgE; split <;> simp
theorem shpE_bd (s r : Int) : shpE s r = 0 ∨ shpE s r = 7 := by unfold shpE; split <;> simp

set_option maxHeartbeats 2000000 in
theorem cfgCheck_p (b k l : Int) (w : World) :
    Calls Try.prog 76 #[cfgV b k l] w fun e w' => e = .returned (.int .i64 (cfgE b k l)) ∧ Below w.heap.size w w' := by
  unfold cfgV
  by_cases hb : b = 1 ∨ b = 2 ∨ b = 4 ∨ b = 8 ∨ b = 16
  · by_cases hk : 1 ≤ k ∧ k ≤ 32 ∧ 0 ≤ l ∧ l ≤ 1000000
    · rw [cfgE_of hb hk.1 hk.2.1 hk.2.2.1 hk.2.2.2]
      obtain ⟨h1, h2, h3, h4⟩ := hk
      rcases hb with rfl | rfl | rfl | rfl | rfl
      all_goals
        go_enter Try.func76, Try.ntmps76
        go_wp2
        go_ret
        exact ⟨rfl, (Below.refl _ _).alloc (Nat.le_refl _) _⟩
    · rw [cfgE_not (fun h => hk h.2)]
      have hk' : ¬ (1 ≤ k ∧ k ≤ 32 ∧ 0 ≤ l ∧ l ≤ 1000000) := hk
      clear hk
      have HK := Lib.hid hk'
      clear hk'
      rcases hb with rfl | rfl | rfl | rfl | rfl
      all_goals
        go_enter Try.func76, Try.ntmps76
        go_wp2
        all_goals
          first
          | (go_ret; exact ⟨rfl, (Below.refl _ _).alloc (Nat.le_refl _) _⟩)
          | (exact absurd ⟨by assumption, by assumption, by assumption, by omega⟩ HK.out)
  · rw [cfgE_not (fun h => hb h.1)]
    have n1 : (b == 1) = false := by simp; omega
    have n2 : (b == 2) = false := by simp; omega
    have n3 : (b == 4) = false := by simp; omega
    have n4 : (b == 8) = false := by simp; omega
    have n5 : (b == 16) = false := by simp; omega
    clear hb
    go_enter Try.func76, Try.ntmps76
    go_wp2
    go_ret
    exact ⟨rfl, (Below.refl _ _).alloc (Nat.le_refl _) _⟩

set_option maxHeartbeats 1000000 in
theorem shpCheck_p (s r : Int) (w : World) :
    Calls Try.prog 77 #[shpV s r] w fun e w' => e = .returned (.int .i64 (shpE s r)) ∧ Below w.heap.size w w' := by
  unfold shpV
  by_cases hk : 1 ≤ s ∧ s ≤ 4 ∧ 1 ≤ r ∧ r ≤ 16
  · have e : shpE s r = 0 := by unfold shpE; rw [if_pos (shpOk_iff.2 hk)]
    rw [e]
    obtain ⟨h1, h2, h3, h4⟩ := hk
    clear e
    go_enter Try.func77, Try.ntmps77
    go_wp2
    go_ret
    exact ⟨rfl, (Below.refl _ _).alloc (Nat.le_refl _) _⟩
  · have e : shpE s r = 7 := by unfold shpE; rw [if_neg (fun h => hk (shpOk_iff.1 h))]
    rw [e]
    have HK := Lib.hid hk
    clear hk e
    go_enter Try.func77, Try.ntmps77
    go_wp2
    all_goals
      first
      | (go_ret; exact ⟨rfl, (Below.refl _ _).alloc (Nat.le_refl _) _⟩)
      | (exact absurd ⟨by assumption, by assumption, by assumption, by omega⟩ HK.out)

/-- a plan, by value -/
def planV (b k l s r q : Int) : Value := .agg #[.int .i64 b, .int .i64 k, .int .i64 l, .int .i64 s, .int .i64 r, .int .i64 q]

end Go.Proofs.Ytdfofojlnkhjjaa
