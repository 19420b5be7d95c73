/- Joined patterns, plainly. -/
import Derived.Test.YtllkohjmghoipaaPaV5
namespace Go.Proofs.Ytllkohjmghoipaa
open Go.RowKit

theorem gapAt_append (p q : List El) (i : Nat) : gapAt (p ++ q) i = if i < p.length then gapAt p i else gapAt q (i - p.length) := by
  unfold gapAt
  by_cases h : i < p.length
  · rw [if_pos h, List.getElem?_append_left h]
  · rw [if_neg h, List.getElem?_append_right (by omega)]
theorem gapAt_true {p : List El} {i : Nat} (h : gapAt p i = true) : i < p.length := by
  by_cases hi : i < p.length
  · exact hi
  · rw [gapAt_ge (by omega)] at h; cases h
theorem OkP.gap_first {p : List El} (h : OkP p) : gapAt p 0 = false := by
  cases hg : gapAt p 0
  · rfl
  · rw [gapAt_some h.pos] at hg
    exact absurd rfl (h.gap h.pos hg).2.2.2.2.1
theorem OkP.gap_prev {p : List El} (h : OkP p) {i : Nat} (hg : gapAt p (i + 1) = true) : gapAt p i = false := by
  cases hp : gapAt p i
  · rfl
  · have := (h.gap_next hp).2
    rw [this] at hg; cases hg
theorem okP_gaps {p : List El} (h0 : 0 < p.length) (h1 : p.length ≤ 512) (h2 : ∀ x ∈ p, x.gap = false → x.low = 0 ∧ x.high = 0)
    (h3 : ∀ x ∈ p, x.gap = true → x.cls = 0#256 ∧ 0 ≤ x.low ∧ x.low ≤ x.high ∧ x.high ≤ 16) (h4 : gapAt p 0 = false) (h5 : ∀ i, gapAt p i = true → i + 1 < p.length) (h6 : ∀ i, gapAt p (i + 1) = true → gapAt p i = false) : OkP p := by
  refine okP_mk h0 h1 (fun i hi => h2 _ (List.getElem_mem hi)) (fun i hi hg => ?_)
  obtain ⟨a, b, c, d⟩ := h3 _ (List.getElem_mem hi) hg
  have hga : gapAt p i = true := by rw [gapAt_some hi]; exact hg
  have hne : i ≠ 0 := by rintro rfl; rw [h4] at hga; cases hga
  refine ⟨a, b, c, d, hne, h5 i hga, fun h' => ?_⟩
  have := h6 (i - 1) (by rw [show i - 1 + 1 = i by omega]; exact hga)
  rwa [gapAt_some h'] at this
theorem OkP.mem {p : List El} (h : OkP p) : (∀ x ∈ p, x.gap = false → x.low = 0 ∧ x.high = 0) ∧ ∀ x ∈ p, x.gap = true → x.cls = 0#256 ∧ 0 ≤ x.low ∧ x.low ≤ x.high ∧ x.high ≤ 16 := by
  constructor
  · intro x hx hg
    obtain ⟨i, hi, rfl⟩ := List.mem_iff_getElem.1 hx
    exact h.plain hi hg
  · intro x hx hg
    obtain ⟨i, hi, rfl⟩ := List.mem_iff_getElem.1 hx
    obtain ⟨z, a, b, c, _⟩ := h.gap hi hg
    exact ⟨z, a, b, c⟩
theorem okP_join {p q : List El} {lo hi : Int} (hp : OkP p) (hq : OkP q) (h0 : 0 ≤ lo) (h1 : lo ≤ hi) (h2 : hi ≤ 16) (hl : (joinL p q lo hi).length ≤ 512) : OkP (joinL p q lo hi) := by
  have hpp := hp.pos
  have hqp := hq.pos
  obtain ⟨a1, a2⟩ := hp.mem
  obtain ⟨b1, b2⟩ := hq.mem
  have plast : gapAt p (p.length - 1) = false := by
    cases hg : gapAt p (p.length - 1)
    · rfl
    · have := (hp.gap_next hg).1; omega
  unfold joinL at hl ⊢
  by_cases hh : 0 < hi
  · rw [if_pos hh] at hl ⊢
    rw [List.append_assoc] at hl ⊢
    have hg1 : gapAt ([gapV lo hi] ++ q) 0 = true := rfl
    have hgs : ∀ j, gapAt ([gapV lo hi] ++ q) (j + 1) = gapAt q j := fun j => by rw [gapAt_append, if_neg (by simp)]; simp
    refine okP_gaps (by simp; omega) hl (fun x hx hg => ?_) (fun x hx hg => ?_) ?_ (fun i hg => ?_) (fun i hg => ?_)
    · rcases List.mem_append.1 hx with hx | hx
      · exact a1 x hx hg
      · rcases List.mem_append.1 hx with hx | hx
        · rw [List.mem_singleton] at hx; subst hx; cases hg
        · exact b1 x hx hg
    · rcases List.mem_append.1 hx with hx | hx
      · exact a2 x hx hg
      · rcases List.mem_append.1 hx with hx | hx
        · rw [List.mem_singleton] at hx; subst hx; exact ⟨rfl, h0, h1, h2⟩
        · exact b2 x hx hg
    · rw [gapAt_append, if_pos hpp]; exact hp.gap_first
    · have hi' := gapAt_true hg
      have hlen : (p ++ ([gapV lo hi] ++ q)).length = p.length + 1 + q.length := by simp; omega
      rw [gapAt_append] at hg
      by_cases hc : i < p.length
      · omega
      · rw [if_neg hc] at hg
        by_cases e : i = p.length
        · omega
        · rw [show i - p.length = (i - p.length - 1) + 1 by omega, hgs] at hg
          have := (hq.gap_next hg).1
          omega
    · rw [gapAt_append] at hg ⊢
      by_cases hc : i + 1 < p.length
      · rw [if_pos hc] at hg
        rw [if_pos (by omega)]
        exact hp.gap_prev hg
      · rw [if_neg hc] at hg
        by_cases e : i + 1 = p.length
        · rw [if_pos (by omega), show i = p.length - 1 by omega]; exact plast
        · rw [if_neg (by omega)]
          rw [show i + 1 - p.length = (i - p.length) + 1 by omega, hgs] at hg
          by_cases e2 : i = p.length
          · subst e2
            rw [Nat.sub_self, hq.gap_first] at hg; cases hg
          · rw [show i - p.length = (i - p.length - 1) + 1 by omega, hgs]
            rw [show i - p.length = (i - p.length - 1) + 1 by omega] at hg
            exact hq.gap_prev hg
  · rw [if_neg hh] at hl ⊢
    rw [List.append_nil] at hl ⊢
    refine okP_gaps (by simp; omega) hl (fun x hx hg => ?_) (fun x hx hg => ?_) ?_ (fun i hg => ?_) (fun i hg => ?_)
    · rcases List.mem_append.1 hx with hx | hx
      · exact a1 x hx hg
      · exact b1 x hx hg
    · rcases List.mem_append.1 hx with hx | hx
      · exact a2 x hx hg
      · exact b2 x hx hg
    · rw [gapAt_append, if_pos hpp]; exact hp.gap_first
    · have hi' := gapAt_true hg
      rw [gapAt_append] at hg
      rw [List.length_append] at hi' ⊢
      by_cases hc : i < p.length
      · omega
      · rw [if_neg hc] at hg
        have := (hq.gap_next hg).1
        omega
    · rw [gapAt_append] at hg ⊢
      by_cases hc : i + 1 < p.length
      · rw [if_pos hc] at hg
        rw [if_pos (by omega)]
        exact hp.gap_prev hg
      · rw [if_neg hc] at hg
        by_cases e : i + 1 = p.length
        · rw [if_pos (by omega), show i = p.length - 1 by omega]; exact plast
        · rw [if_neg (by omega)]
          rw [show i + 1 - p.length = (i - p.length) + 1 by omega] at hg
          exact hq.gap_prev hg

/-- how many numbers of bytes are tried behind n bytes -/
def cntN (b : List UInt8) (lo hi n : Nat) : Nat := min hi (b.length - n) + 1 - lo
def rowTo (b : List UInt8) (q : List El) (lo n c : Nat) : Bool := (List.range c).any fun j => matchV q (b.drop (n + (lo + j)))
def wantTo (b : List UInt8) (p q : List El) (lo hi n : Nat) : Bool := (List.range n).any fun m => matchV p (b.take m) && rowTo b q lo m (cntN b lo hi m)
theorem rowTo_succ (b : List UInt8) (q : List El) (lo n c : Nat) : rowTo b q lo n (c + 1) = (rowTo b q lo n c || matchV q (b.drop (n + (lo + c)))) := by
  unfold rowTo
  rw [List.range_succ, List.any_append]
  simp
theorem wantTo_succ (b : List UInt8) (p q : List El) (lo hi n : Nat) : wantTo b p q lo hi (n + 1) = (wantTo b p q lo hi n || (matchV p (b.take n) && rowTo b q lo n (cntN b lo hi n))) := by
  unfold wantTo
  rw [List.range_succ, List.any_append]
  simp
theorem wantTo_join {b : List UInt8} {p q : List El} {lo hi : Nat} (hlh : lo ≤ hi) : wantTo b p q lo hi (b.length + 1) = matchV (joinL p q lo hi) b := by
  rw [Bool.eq_iff_iff, matchV_fits, fits_join (by omega) (by omega)]
  unfold wantTo
  rw [List.any_eq_true]
  constructor
  · rintro ⟨n, hn, h⟩
    rw [List.mem_range] at hn
    rw [Bool.and_eq_true] at h
    unfold rowTo at h
    obtain ⟨h1, h2⟩ := h
    rw [List.any_eq_true] at h2
    obtain ⟨c, hc, h3⟩ := h2
    rw [List.mem_range] at hc
    unfold cntN at hc
    have m1 := (matchV_part (p := p) (b := b) (f := 0) (n := n) (Nat.zero_le _) (by omega)).1 (by simpa using h1)
    have m2 := (matchV_part (p := q) (b := b) (f := n + (lo + c)) (n := b.length) (by omega) (Nat.le_refl _)).1 (by simpa using h3)
    exact ⟨n, lo + c, m1, by omega, by omega, m2⟩
  · rintro ⟨n, k, h1, h2, h3, h4⟩
    have e1 := fits_le h4
    refine ⟨n, by rw [List.mem_range]; omega, ?_⟩
    rw [Bool.and_eq_true]
    have m1 := (matchV_part (p := p) (b := b) (f := 0) (n := n) (Nat.zero_le _) (by omega)).2 h1
    refine ⟨by simpa using m1, ?_⟩
    unfold rowTo
    rw [List.any_eq_true]
    refine ⟨k - lo, by rw [List.mem_range]; unfold cntN; omega, ?_⟩
    have m2 := (matchV_part (p := q) (b := b) (f := n + k) (n := b.length) (by omega) (Nat.le_refl _)).2 h4
    rw [List.take_length] at m2
    rw [show n + (lo + (k - lo)) = n + k by omega]
    exact m2
end Go.Proofs.Ytllkohjmghoipaa
