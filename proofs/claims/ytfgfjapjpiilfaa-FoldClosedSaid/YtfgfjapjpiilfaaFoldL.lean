/- Plain laws of a set with the letters of the other case. -/
import Derived.Test.YtfgfjapjpiilfaaFoldH
namespace Go.Proofs.Ytfgfjapjpiilfaa
open Go.RowKit

theorem hasB_turn (s : CSet) (b : Nat) (hb : b < 256) : hasB (turnS s) b = if letN b = true then hasB s (b ^^^ 32) else hasB s b := by
  unfold turnS; rw [hasB_ofF _ _ hb]
theorem let_xor : ∀ b : Fin 256, letN (b.val ^^^ 32) = letN b.val ∧ b.val ^^^ 32 < 256 ∧ (b.val ^^^ 32) ^^^ 32 = b.val := by decide +kernel
theorem turn_turn (s : CSet) : turnS (turnS s) = s := by
  apply set_ext; intro b hb
  obtain ⟨h1, h2, h3⟩ := let_xor ⟨b, hb⟩
  simp only at h1 h2 h3
  rw [hasB_turn _ _ hb, hasB_turn _ _ h2, hasB_turn _ _ hb, h1, h3]
  by_cases h : letN b = true <;> simp [h]
theorem turn_or (s t : CSet) : turnS (s ||| t) = turnS s ||| turnS t := by
  apply set_ext; intro b hb
  rw [hasB_or, hasB_turn _ _ hb, hasB_turn _ _ hb, hasB_turn _ _ hb, hasB_or, hasB_or]
  split <;> rfl
theorem turn_and (s t : CSet) : turnS (s &&& t) = turnS s &&& turnS t := by
  apply set_ext; intro b hb
  rw [hasB_and, hasB_turn _ _ hb, hasB_turn _ _ hb, hasB_turn _ _ hb, hasB_and, hasB_and]
  split <;> rfl
theorem turn_not (s : CSet) : turnS (~~~s) = ~~~(turnS s) := by
  apply set_ext; intro b hb
  obtain ⟨h1, h2, h3⟩ := let_xor ⟨b, hb⟩
  rw [hasB_not _ _ hb, hasB_turn _ _ hb, hasB_turn _ _ hb, hasB_not _ _ h2, hasB_not _ _ hb]
  split <;> rfl
/-- is a set within another one -/
theorem subB_iff (s t : CSet) : s &&& ~~~t = 0#256 ↔ ∀ b, b < 256 → hasB s b = true → hasB t b = true := by
  constructor
  · intro h b hb hs
    have e : hasB (s &&& ~~~t) b = false := by rw [h]; simp [hasB]
    rw [hasB_and, hasB_not _ _ hb, hs] at e
    simpa using e
  · intro h
    apply set_ext; intro b hb
    rw [hasB_and, hasB_not _ _ hb]
    cases hs : hasB s b
    · simp [hasB]
    · rw [h b hb hs]; simp [hasB]
theorem or_eq_iff (s t : CSet) : s ||| t = s ↔ ∀ b, b < 256 → hasB t b = true → hasB s b = true := by
  constructor
  · intro h b hb ht
    rw [← h, hasB_or, ht, Bool.or_true]
  · intro h
    apply set_ext; intro b hb
    rw [hasB_or]
    cases ht : hasB t b
    · simp
    · rw [h b hb ht]; rfl
theorem sub_turn {s t : CSet} (h : s &&& ~~~t = 0#256) : turnS s &&& ~~~(turnS t) = 0#256 := by
  rw [subB_iff] at h ⊢
  intro b hb hs
  obtain ⟨h1, h2, h3⟩ := let_xor ⟨b, hb⟩
  rw [hasB_turn _ _ hb] at hs ⊢
  split
  · rw [if_pos ‹_›] at hs; exact h _ h2 hs
  · rw [if_neg ‹_›] at hs; exact h _ hb hs
theorem sub_antisymm {s t : CSet} (h1 : s &&& ~~~t = 0#256) (h2 : t &&& ~~~s = 0#256) : s = t := by
  rw [subB_iff] at h1 h2
  apply set_ext; intro b hb
  rw [Bool.eq_iff_iff]; exact ⟨h1 b hb, h2 b hb⟩
theorem closed_iff (s : CSet) : s ||| turnS s = s ↔ turnS s = s := by
  constructor
  · intro h
    have h1 : turnS s &&& ~~~s = 0#256 := (subB_iff _ _).2 ((or_eq_iff _ _).1 h)
    have h2 := sub_turn h1
    rw [turn_turn] at h2
    exact sub_antisymm h1 h2
  · intro h
    rw [h]
    apply set_ext; intro b hb; rw [hasB_or, Bool.or_self]

end Go.Proofs.Ytfgfjapjpiilfaa
