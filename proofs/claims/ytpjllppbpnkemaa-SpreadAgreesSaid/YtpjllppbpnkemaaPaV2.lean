/- What a pattern that is read byte by byte remembers, element by element. -/
import Derived.Test.YtpjllppbpnkemaaMg1
namespace Go.Proofs.Ytpjllppbpnkemaa
open Go.RowKit

def gapAt (p : List El) (i : Nat) : Bool := match p[i]? with | some x => x.gap | none => false
def gap0 (p : List El) (i : Nat) : Bool := match p[i]? with | some x => x.gap && decide (x.low = 0) | none => false
/-- a gap that was read through, by one byte at least -/
def thru (b : List UInt8) (p : List El) (s : Nat → Bool) (k i : Nat) : Bool :=
  match p[i]? with
  | some x => (List.range 17).any fun c => decide (1 ≤ c) && decide (x.low ≤ (c : Int)) && decide ((c : Int) ≤ x.high) && decide (c ≤ k + 1) && pre b p s i (k + 1 - c)
  | none => false
/-- in the middle of reading the byte k: the elements from i on have read it -/
def part (b : List UInt8) (p : List El) (s : Nat → Bool) (k i j c : Nat) : Bool :=
  if j < i then sees b p s k j c
  else if j = i then sees b p s (k + 1) j c && decide (1 ≤ c)
  else if j = i + 1 ∧ gapAt p i = true then decide (c = 0) && thru b p s k i
  else sees b p s (k + 1) j c
/-- an element is the next one -/
def enterS (p : List El) (st : Nat → Nat → Bool) (i j c : Nat) : Bool := st j c || (decide (c = 0) && (decide (j = i) || (decide (j = i + 1) && gap0 p i)))

theorem sees_zero {b : List UInt8} {p : List El} {s : Nat → Bool} {k i : Nat} : sees b p s k i 0 = pre b p s i k := by
  unfold sees
  cases h : p[i]? with
  | none => simp
  | some x =>
    simp only
    split
    · have : ((0 : Nat) : Int) ≤ max x.high 0 := by omega
      simp only [this, decide_true, Nat.zero_le, Bool.true_and, Nat.sub_zero]
    · simp
theorem sees_byte {b : List UInt8} {p : List El} {s : Nat → Bool} {k i c : Nat} (h : gapAt p i = false) : sees b p s k i c = (decide (c = 0) && pre b p s i k) := by
  unfold sees gapAt at *
  cases hx : p[i]? with
  | none => simp
  | some x =>
    rw [hx] at h
    simp only at h ⊢
    rw [h]; simp
theorem gapAt_some {p : List El} {i : Nat} (hi : i < p.length) : gapAt p i = p[i].gap := by
  unfold gapAt; rw [List.getElem?_eq_getElem hi]
theorem gap0_some {p : List El} {i : Nat} (hi : i < p.length) : gap0 p i = (p[i].gap && decide (p[i].low = 0)) := by
  unfold gap0; rw [List.getElem?_eq_getElem hi]
theorem gapAt_ge {p : List El} {i : Nat} (hi : p.length ≤ i) : gapAt p i = false := by
  unfold gapAt; rw [List.getElem?_eq_none hi]
theorem gap0_gap {p : List El} {i : Nat} (h : gapAt p i = false) : gap0 p i = false := by
  unfold gapAt at h; unfold gap0
  cases hx : p[i]? with
  | none => rfl
  | some x => rw [hx] at h; simp only at h ⊢; rw [h]; rfl
theorem OkP.gap_next {p : List El} (h : OkP p) {i : Nat} (hg : gapAt p i = true) : i + 1 < p.length ∧ gapAt p (i + 1) = false := by
  have hi : i < p.length := by
    by_cases hi : i < p.length
    · exact hi
    · rw [gapAt_ge (by omega)] at hg; cases hg
  rw [gapAt_some hi] at hg
  obtain ⟨_, _, _, _, _, h6, _⟩ := h.gap hi hg
  refine ⟨h6, ?_⟩
  rw [gapAt_some h6]
  cases hn : p[i + 1].gap
  · rfl
  · have := (h.gap h6 hn).2.2.2.2.2.2 (by omega)
    simp only [Nat.add_sub_cancel] at this
    rw [this] at hg; cases hg
theorem sees_gap {b : List UInt8} {p : List El} {s : Nat → Bool} {k i c : Nat} (h : OkP p) (hi : i < p.length) (hg : p[i].gap = true) : sees b p s k i c = (decide ((c : Int) ≤ p[i].high) && decide (c ≤ k) && pre b p s i (k - c)) := by
  unfold sees
  rw [List.getElem?_eq_getElem hi]
  simp only [hg, if_true]
  have := (h.gap hi hg).2.1
  have := (h.gap hi hg).2.2.1
  rw [show max p[i].high 0 = p[i].high by omega]
theorem pre_gap {b : List UInt8} {p : List El} {s : Nat → Bool} {k i : Nat} (h : OkP p) (hi : i < p.length) (hg : p[i].gap = true) : pre b p s (i + 1) (k + 1) = (thru b p s k i || (gap0 p i && pre b p s i (k + 1))) := by
  obtain ⟨_, g1, g2, g3, _⟩ := h.gap hi hg
  rw [pre_succ hi, Bool.eq_iff_iff, stepP_gap hg, Bool.or_eq_true]
  unfold thru
  rw [List.getElem?_eq_getElem hi, gap0_some hi, hg]
  simp only [List.any_eq_true, List.mem_range, Bool.and_eq_true, decide_eq_true_eq, Bool.true_and]
  constructor
  · rintro ⟨c, h1, h2, h3, h4⟩
    by_cases hc : c = 0
    · subst hc
      exact .inr ⟨by omega, by simpa using h4⟩
    · exact .inl ⟨c, by omega, ⟨⟨⟨by omega, h1⟩, by omega⟩, h3⟩, h4⟩
  · rintro (⟨c, _, ⟨⟨⟨h0, h1⟩, h2⟩, h3⟩, h4⟩ | ⟨h1, h2⟩)
    · exact ⟨c, h1, by omega, h3, h4⟩
    · exact ⟨0, by omega, by omega, by omega, by simpa using h2⟩
theorem pre_byte {b : List UInt8} {p : List El} {s : Nat → Bool} {k i : Nat} {y : UInt8} (hi : i < p.length) (hg : p[i].gap = false) (hb : b[k]? = some y) : pre b p s (i + 1) (k + 1) = (pre b p s i k && hasB p[i].cls y.toNat) := by
  rw [pre_succ hi, Bool.eq_iff_iff, stepP_byte hg]
  simp only [Nat.add_sub_cancel, hb, Option.some.injEq, exists_eq_left', Bool.and_eq_true]
  constructor
  · rintro ⟨_, h1, h2⟩; exact ⟨h1, h2⟩
  · rintro ⟨h1, h2⟩; exact ⟨by omega, h1, h2⟩
/-- an element that is no gap reads the byte -/
theorem part_byte {b : List UInt8} {p : List El} {s : Nat → Bool} {k i : Nat} {y : UInt8} (h : OkP p) (hi : i < p.length) (hg : p[i].gap = false) (hb : b[k]? = some y) (ent : Bool) (he : ent = (pre b p s i k && hasB p[i].cls y.toNat)) (j c : Nat) :
    ((part b p s k (i + 1) j c || (ent && (decide (c = 0) && (decide (j = i + 1) || (decide (j = i + 1 + 1) && gap0 p (i + 1)))))) && !(decide (j = i) && decide (c = 0))) = part b p s k i j c := by
  have hgi : gapAt p i = false := by rw [gapAt_some hi]; exact hg
  have hpre := pre_byte (b := b) (p := p) (s := s) (k := k) hi hg hb
  rw [← he] at hpre
  by_cases h1 : j < i
  · have e1 : part b p s k (i + 1) j c = sees b p s k j c := by unfold part; rw [if_pos (by omega)]
    have e2 : part b p s k i j c = sees b p s k j c := by unfold part; rw [if_pos h1]
    rw [e1, e2]
    simp [show ¬ j = i + 1 by omega, show ¬ j = i + 1 + 1 by omega, show ¬ j = i by omega]
  · by_cases h2 : j = i
    · subst h2
      have e1 : part b p s k (j + 1) j c = sees b p s k j c := by unfold part; rw [if_pos (by omega)]
      have e2 : part b p s k j j c = (sees b p s (k + 1) j c && decide (1 ≤ c)) := by unfold part; rw [if_neg (by omega), if_pos rfl]
      rw [e1, e2, sees_byte hgi, sees_byte hgi]
      by_cases hc : c = 0
      · subst hc; simp
      · simp [hc]
    · by_cases h3 : j = i + 1
      · subst h3
        have e1 : part b p s k (i + 1) (i + 1) c = (sees b p s (k + 1) (i + 1) c && decide (1 ≤ c)) := by unfold part; rw [if_neg (by omega), if_pos rfl]
        have e2 : part b p s k i (i + 1) c = sees b p s (k + 1) (i + 1) c := by unfold part; rw [if_neg (by omega), if_neg (by omega), if_neg (by rw [hgi]; simp)]
        rw [e1, e2]
        by_cases hc : c = 0
        · subst hc
          rw [sees_zero, hpre]
          simp
        · simp [hc, show 1 ≤ c by omega]
      · have e2 : part b p s k i j c = sees b p s (k + 1) j c := by unfold part; rw [if_neg (by omega), if_neg h2, if_neg (by omega)]
        rw [e2]
        by_cases h4 : j = i + 1 + 1
        · subst h4
          by_cases hgn : gapAt p (i + 1) = true
          · obtain ⟨g1, g2⟩ := h.gap_next hgn
            have hn : i + 1 < p.length := by omega
            have e1 : part b p s k (i + 1) (i + 1 + 1) c = (decide (c = 0) && thru b p s k (i + 1)) := by unfold part; rw [if_neg (by omega), if_neg (by omega), if_pos ⟨rfl, hgn⟩]
            rw [e1, sees_byte g2, pre_gap h hn (by rw [← gapAt_some hn]; exact hgn), hpre]
            by_cases hc : c = 0
            · subst hc
              cases thru b p s k (i + 1) <;> cases ent <;> cases gap0 p (i + 1) <;> simp [show ¬ i + 1 + 1 = i by omega]
            · simp [hc]
          · have hgn' : gapAt p (i + 1) = false := by simpa using hgn
            have e1 : part b p s k (i + 1) (i + 1 + 1) c = sees b p s (k + 1) (i + 1 + 1) c := by unfold part; rw [if_neg (by omega), if_neg (by omega), if_neg (by rw [hgn']; simp)]
            rw [e1, gap0_gap hgn']
            simp [show ¬ i + 1 + 1 = i by omega]
        · have e1 : part b p s k (i + 1) j c = sees b p s (k + 1) j c := by unfold part; rw [if_neg (by omega), if_neg h3, if_neg (by omega)]
          rw [e1]
          simp [h3, h4, h2]
/-- a gap reads the byte -/
theorem part_gap {b : List UInt8} {p : List El} {s : Nat → Bool} {k i : Nat} (h : OkP p) (hi : i < p.length) (hg : p[i].gap = true) (j c : Nat) :
    (if j = i then decide (1 ≤ c) && decide ((c : Int) ≤ p[i].high) && part b p s k (i + 1) i (c - 1) else part b p s k (i + 1) j c || (thru b p s k i && (decide (c = 0) && decide (j = i + 1)))) = part b p s k i j c := by
  have hgi : gapAt p i = true := by rw [gapAt_some hi]; exact hg
  obtain ⟨hn, hgn⟩ := h.gap_next hgi
  by_cases h2 : j = i
  · subst h2
    rw [if_pos rfl]
    have e1 : part b p s k (j + 1) j (c - 1) = sees b p s k j (c - 1) := by unfold part; rw [if_pos (by omega)]
    have e2 : part b p s k j j c = (sees b p s (k + 1) j c && decide (1 ≤ c)) := by unfold part; rw [if_neg (by omega), if_pos rfl]
    rw [e1, e2, sees_gap h hi hg, sees_gap h hi hg]
    by_cases hc : c = 0
    · subst hc; simp
    · have e3 : k - (c - 1) = k + 1 - c := by omega
      rw [e3, Bool.eq_iff_iff]
      simp only [Bool.and_eq_true, decide_eq_true_eq]
      constructor
      · rintro ⟨⟨h1, h2⟩, ⟨h3, h4⟩, h5⟩
        exact ⟨⟨⟨h2, by omega⟩, h5⟩, h1⟩
      · rintro ⟨⟨⟨h2, h4⟩, h5⟩, h1⟩
        exact ⟨⟨h1, h2⟩, ⟨by omega, by omega⟩, h5⟩
  · rw [if_neg h2]
    by_cases h1 : j < i
    · have e1 : part b p s k (i + 1) j c = sees b p s k j c := by unfold part; rw [if_pos (by omega)]
      have e2 : part b p s k i j c = sees b p s k j c := by unfold part; rw [if_pos h1]
      rw [e1, e2]
      simp [show ¬ j = i + 1 by omega]
    · by_cases h3 : j = i + 1
      · subst h3
        have e1 : part b p s k (i + 1) (i + 1) c = (sees b p s (k + 1) (i + 1) c && decide (1 ≤ c)) := by unfold part; rw [if_neg (by omega), if_pos rfl]
        have e2 : part b p s k i (i + 1) c = (decide (c = 0) && thru b p s k i) := by unfold part; rw [if_neg (by omega), if_neg (by omega), if_pos ⟨rfl, hgi⟩]
        rw [e1, e2, sees_byte hgn]
        by_cases hc : c = 0
        · subst hc; simp
        · simp [hc]
      · have e2 : part b p s k i j c = sees b p s (k + 1) j c := by unfold part; rw [if_neg (by omega), if_neg h2, if_neg (by omega)]
        have e1 : part b p s k (i + 1) j c = sees b p s (k + 1) j c := by unfold part; rw [if_neg (by omega), if_neg h3, if_neg (by rw [hgn]; simp)]
        rw [e1, e2]
        simp [h3]
end Go.Proofs.Ytpjllppbpnkemaa
