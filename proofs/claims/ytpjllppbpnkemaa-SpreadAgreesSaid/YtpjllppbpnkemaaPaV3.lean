/- Reading all bytes. -/
import Derived.Test.YtpjllppbpnkemaaPaV2
namespace Go.Proofs.Ytpjllppbpnkemaa
open Go.RowKit

theorem OkP.first {p : List El} (h : OkP p) : gapAt p 0 = false := by
  cases hg : gapAt p 0
  · rfl
  · have hi : 0 < p.length := h.pos
    rw [gapAt_some hi] at hg
    exact absurd rfl (h.gap hi hg).2.2.2.2.1
theorem fits_first {b : List UInt8} {x : El} {q : List El} {i m : Nat} (hg : x.gap = false) (h : Fits b (x :: q) i m) : i + 1 ≤ m := by
  obtain ⟨k, h1, h2⟩ := fits_cons.1 h
  unfold Fit1 at h1
  rw [hg] at h1
  simp only [Bool.false_eq_true, if_false] at h1
  have := fits_le h2
  omega
theorem pre_pos {b : List UInt8} {p : List El} {s : Nat → Bool} (h : OkP p) {j : Nat} (hj : 1 ≤ j) : pre b p s j 0 = false := by
  cases he : pre b p s j 0
  · rfl
  · unfold pre at he
    rw [reachP_fits] at he
    obtain ⟨i, _, hf⟩ := he
    have h0 := h.pos
    match p, h0, h with
    | x :: q, _, h =>
      have hg : x.gap = false := h.first
      obtain ⟨j', rfl⟩ : ∃ j', j = j' + 1 := ⟨j - 1, by omega⟩
      rw [List.take_succ_cons] at hf
      have := fits_first hg hf
      omega
theorem sees_start {b : List UInt8} {p : List El} {s : Nat → Bool} {j c : Nat} : sees b p s 0 j c = (decide (c = 0) && pre b p s j 0) := by
  by_cases hc : c = 0
  · subst hc; rw [sees_zero]; simp
  · unfold sees
    cases p[j]? with
    | none => simp [hc]
    | some x =>
      simp only
      split
      · simp [hc]
      · simp [hc]
theorem part_last {b : List UInt8} {p : List El} {s : Nat → Bool} {k c : Nat} : part b p s k p.length p.length c = false := by
  unfold part
  rw [if_neg (by omega), if_pos rfl, sees_byte (gapAt_ge (Nat.le_refl _))]
  by_cases hc : c = 0
  · simp [hc]
  · simp [hc]
theorem part_lt {b : List UInt8} {p : List El} {s : Nat → Bool} {k j c : Nat} (h : j < p.length) : part b p s k p.length j c = sees b p s k j c := by
  unfold part; rw [if_pos h]
/-- at the start -/
theorem part_start {b : List UInt8} {p : List El} {s : Nat → Bool} (h : OkP p) (j c : Nat) (hj : j ≤ p.length) : part b p s 0 p.length j c = (decide (c = 0) && (decide (j = 0) && s 0)) := by
  by_cases hl : j = p.length
  · subst hl
    rw [part_last]
    have := h.pos
    simp [show p.length ≠ 0 by omega]
  · rw [part_lt (by omega), sees_start]
    by_cases h0 : j = 0
    · subst h0; simp [pre, reachP]
    · rw [pre_pos h (by omega)]; simp [h0]
/-- behind a byte that all have read -/
theorem part_done {b : List UInt8} {p : List El} {s : Nat → Bool} {k : Nat} (h : OkP p) (j c : Nat) (hj : j ≤ p.length) :
    (part b p s k 0 j c && !(decide (j = p.length) && decide (c = 0))) = (part b p s (k + 1) p.length j c && !(decide (j = 0) && decide (c = 0))) := by
  have hpos := h.pos
  have h0 := h.first
  by_cases hz : j = 0
  · subst hz
    have e1 : part b p s k 0 0 c = (sees b p s (k + 1) 0 c && decide (1 ≤ c)) := by unfold part; rw [if_neg (by omega), if_pos rfl]
    rw [e1, part_lt hpos, sees_byte h0]
    by_cases hc : c = 0
    · simp [hc]
    · simp [hc]
  · have e1 : part b p s k 0 j c = sees b p s (k + 1) j c := by unfold part; rw [if_neg (by omega), if_neg hz, if_neg (by rw [h0]; simp)]
    rw [e1]
    by_cases hl : j = p.length
    · subst hl
      rw [part_last, sees_byte (gapAt_ge (Nat.le_refl _))]
      by_cases hc : c = 0
      · simp [hc]
      · simp [hc]
    · rw [part_lt (by omega)]
      simp [hl, hz]
theorem part_over {b : List UInt8} {p : List El} {s : Nat → Bool} {k : Nat} (h : OkP p) : part b p s k 0 p.length 0 = reachP b p s (k + 1) := by
  have hpos := h.pos
  unfold part
  rw [if_neg (by omega), if_neg (by omega), if_neg (by rw [h.first]; simp), sees_zero]
  unfold pre
  rw [List.take_of_length_le (Nat.le_refl _)]
theorem reach_zero {b : List UInt8} {p : List El} {s : Nat → Bool} (h : OkP p) : reachP b p s 0 = false := by
  have := pre_pos (b := b) (s := s) h (j := p.length) h.pos
  unfold pre at this
  rwa [List.take_of_length_le (Nat.le_refl _)] at this
end Go.Proofs.Ytpjllppbpnkemaa
