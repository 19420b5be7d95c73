/- Patterns, plainly: turned, joined, within one another; parts of bytes. -/
import Derived.Test.YtllkohjmghoipaaPaIn
import Derived.Test.YtllkohjmghoipaaPaPat
import Derived.Test.YtllkohjmghoipaaPaEnd
import Derived.Test.YtllkohjmghoipaaPaRevR
namespace Go.Proofs.Ytllkohjmghoipaa
open Go.RowKit

/-! ### the reversed pattern -/
theorem okP_mk {p : List El} (h0 : 0 < p.length) (h1 : p.length ≤ 512) (h2 : ∀ i (hi : i < p.length), p[i].gap = false → p[i].low = 0 ∧ p[i].high = 0)
    (h3 : ∀ i (hi : i < p.length), p[i].gap = true → p[i].cls = 0#256 ∧ 0 ≤ p[i].low ∧ p[i].low ≤ p[i].high ∧ p[i].high ≤ 16 ∧ i ≠ 0 ∧ i + 1 < p.length ∧ ∀ h' : i - 1 < p.length, p[i - 1].gap = false) : OkP p := by
  refine ⟨h0, h1, fun i hi => ?_⟩
  rw [elemE_at hi]
  cases hg : p[i].gap
  · obtain ⟨a, b⟩ := h2 i hi hg
    rw [if_pos rfl, if_neg (by simp [a, b])]
  · obtain ⟨a, b, c, d, e, f, g⟩ := h3 i hi hg
    rw [if_neg (by decide), if_neg (by simp [a]), if_neg (by omega)]
    have hp := g (by omega)
    rw [if_neg]
    simp only [not_or]
    refine ⟨e, by omega, ?_⟩
    rw [List.getElem?_eq_getElem (show i - 1 < p.length by omega)]
    simp [hp]
theorem OkP.reverse {p : List El} (h : OkP p) : OkP p.reverse := by
  have hl : p.reverse.length = p.length := List.length_reverse
  refine okP_mk (by rw [hl]; exact h.pos) (by rw [hl]; exact h.le) (fun i hi hg => ?_) (fun i hi hg => ?_)
  · rw [List.getElem_reverse] at hg ⊢
    exact h.plain (by omega) hg
  · have hi' : i < p.length := by omega
    have hj : p.length - 1 - i < p.length := by omega
    rw [List.getElem_reverse] at hg
    obtain ⟨a, b, c, d, e, f, g⟩ := h.gap hj hg
    have hn := h.gap_next (i := p.length - 1 - i) (by rw [gapAt_some hj]; exact hg)
    have hn2 := hn.2
    rw [gapAt_some hn.1] at hn2
    rw [List.getElem_reverse]
    refine ⟨a, b, c, d, by omega, by omega, fun h' => ?_⟩
    rw [List.getElem_reverse]
    have e2 : p.length - 1 - (i - 1) = p.length - 1 - i + 1 := by omega
    simp only [e2]
    exact hn2
theorem fit1_reverse {b : List UInt8} {x : El} {i k : Nat} (hk : k ≤ b.length) (h : Fit1 b x i k) : Fit1 b.reverse x (b.length - k) (b.length - i) := by
  have hik := fit1_le h
  unfold Fit1 at h ⊢
  by_cases hg : x.gap = true
  · rw [if_pos hg] at h ⊢
    obtain ⟨c, h1, h2, rfl⟩ := h
    exact ⟨c, h1, h2, by omega⟩
  · rw [if_neg hg] at h ⊢
    obtain ⟨rfl, y, hy, hh⟩ := h
    refine ⟨by omega, y, ?_, hh⟩
    rw [List.getElem?_reverse (by omega), show b.length - 1 - (b.length - (i + 1)) = i by omega]
    exact hy
theorem fits_reverse {b : List UInt8} : ∀ {p : List El} {i j : Nat}, j ≤ b.length → Fits b p i j → Fits b.reverse p.reverse (b.length - j) (b.length - i)
  | [], i, j, _, h => by
    have : i = j := h
    subst this
    exact (rfl : b.length - i = b.length - i)
  | x :: p, i, j, hj, h => by
    obtain ⟨k, h1, h2⟩ := fits_cons.1 h
    have hk := fits_le h2
    rw [List.reverse_cons, fits_append]
    exact ⟨b.length - k, fits_reverse hj h2, fits_cons.2 ⟨b.length - i, fit1_reverse (by omega) h1, rfl⟩⟩
theorem matchV_reverse (p : List El) (b : List UInt8) : matchV p.reverse b.reverse = matchV p b := by
  rw [Bool.eq_iff_iff, matchV_fits, matchV_fits]
  constructor
  · intro h
    have := fits_reverse (Nat.le_refl _) h
    simpa using this
  · intro h
    have := fits_reverse (Nat.le_refl _) h
    simpa using this
theorem seekE_ok {p : List El} {b : List UInt8} (h : OkP p) (hb : b.length ≤ 4096) : seekE p b = 0 := by
  unfold seekE
  rw [h.check, if_neg (by simp), if_neg (by omega)]
theorem matV_ok {p : List El} {b : List UInt8} (h : OkP p) (hb : b.length ≤ 4096) : matV p b = matchV p b := by
  unfold matV; rw [if_pos (seekE_ok h hb)]
theorem endV_ok {p : List El} {b : List UInt8} (h : OkP p) (hb : b.length ≤ 4096) : endV p b = endsV p b := by
  unfold endV; rw [if_pos (seekE_ok h hb)]
theorem revV_ok {p : List El} (h : OkP p) : revV p = p.reverse := by
  unfold revV; rw [h.check, if_pos rfl]

/-! ### parts of bytes -/
theorem fit1_part {b : List UInt8} {x : El} {f n i k : Nat} (hk : f + k ≤ n) : Fit1 ((b.take n).drop f) x i k ↔ Fit1 b x (f + i) (f + k) := by
  unfold Fit1
  by_cases hg : x.gap = true
  · rw [if_pos hg, if_pos hg]
    constructor
    · rintro ⟨c, h1, h2, rfl⟩; exact ⟨c, h1, h2, by omega⟩
    · rintro ⟨c, h1, h2, h3⟩; exact ⟨c, h1, h2, by omega⟩
  · rw [if_neg hg, if_neg hg]
    constructor
    · rintro ⟨rfl, y, hy, hh⟩
      refine ⟨by omega, y, ?_, hh⟩
      rw [List.getElem?_drop, List.getElem?_take, if_pos (by omega)] at hy
      exact hy
    · rintro ⟨h3, y, hy, hh⟩
      refine ⟨by omega, y, ?_, hh⟩
      rw [List.getElem?_drop, List.getElem?_take, if_pos (by omega)]
      exact hy
theorem fits_part {b : List UInt8} {f n : Nat} : ∀ {p : List El} {i j : Nat}, f + j ≤ n → (Fits ((b.take n).drop f) p i j ↔ Fits b p (f + i) (f + j))
  | [], i, j, _ => by
    show i = j ↔ f + i = f + j
    omega
  | x :: p, i, j, hj => by
    rw [fits_cons, fits_cons]
    constructor
    · rintro ⟨k, h1, h2⟩
      have := fits_le h2
      exact ⟨f + k, (fit1_part (by omega)).1 h1, (fits_part hj).1 h2⟩
    · rintro ⟨k, h1, h2⟩
      have e1 := fits_le h2
      have e2 := fit1_le h1
      obtain ⟨k, rfl⟩ : ∃ k', k = f + k' := ⟨k - f, by omega⟩
      exact ⟨k, (fit1_part (by omega)).2 h1, (fits_part hj).2 h2⟩
theorem matchV_part {p : List El} {b : List UInt8} {f n : Nat} (hf : f ≤ n) (hn : n ≤ b.length) : matchV p ((b.take n).drop f) = true ↔ Fits b p f n := by
  rw [matchV_fits]
  have hl : ((b.take n).drop f).length = n - f := by rw [List.length_drop, List.length_take, Nat.min_eq_left hn]
  rw [hl, fits_part (by omega)]
  rw [show f + (n - f) = n by omega, Nat.add_zero]

/-! ### joined patterns -/
theorem fits_one {b : List UInt8} {x : El} {i j : Nat} : Fits b [x] i j ↔ Fit1 b x i j := by
  rw [fits_cons]
  constructor
  · rintro ⟨k, h1, h2⟩
    have : k = j := h2
    subst this; exact h1
  · intro h; exact ⟨j, h, rfl⟩
theorem fits_join {b : List UInt8} {p q : List El} {lo hi : Int} (hlo : 0 ≤ lo) (hlh : lo ≤ hi) {j : Nat} :
    Fits b (joinL p q lo hi) 0 j ↔ ∃ n k : Nat, Fits b p 0 n ∧ lo ≤ (k : Int) ∧ (k : Int) ≤ hi ∧ Fits b q (n + k) j := by
  unfold joinL
  by_cases hh : 0 < hi
  · rw [if_pos hh, fits_append]
    constructor
    · rintro ⟨m, h1, h2⟩
      obtain ⟨n, h3, h4⟩ := fits_append.1 h1
      rw [fits_one] at h4
      unfold Fit1 gapV at h4
      rw [if_pos rfl] at h4
      obtain ⟨c, h5, h6, rfl⟩ := h4
      exact ⟨n, c, h3, h5, by simp at h6; omega, h2⟩
    · rintro ⟨n, k, h1, h2, h3, h4⟩
      refine ⟨n + k, fits_append.2 ⟨n, h1, fits_one.2 ?_⟩, h4⟩
      unfold Fit1 gapV
      rw [if_pos rfl]
      exact ⟨k, h2, by simp; omega, rfl⟩
  · rw [if_neg hh, List.append_nil, fits_append]
    constructor
    · rintro ⟨n, h1, h2⟩; exact ⟨n, 0, h1, by omega, by omega, h2⟩
    · rintro ⟨n, k, h1, h2, h3, h4⟩
      obtain rfl : k = 0 := by omega
      exact ⟨n, h1, h4⟩

/-! ### within -/
theorem fit1_in {b : List UInt8} {x y : El} {i k : Nat} (h : inE x y = true) (hg0 : x.gap = true → 0 ≤ x.high) (hf : Fit1 b x i k) : Fit1 b y i k := by
  unfold inE at h
  simp only [Bool.and_eq_true, beq_iff_eq, decide_eq_true_eq] at h
  obtain ⟨⟨⟨hg, hs⟩, hl⟩, hh⟩ := h
  unfold Fit1 at hf ⊢
  by_cases hx : x.gap = true
  · rw [if_pos hx] at hf
    rw [if_pos (hg ▸ hx)]
    obtain ⟨c, h1, h2, rfl⟩ := hf
    have := hg0 hx
    exact ⟨c, by omega, by omega, rfl⟩
  · rw [if_neg hx] at hf
    rw [if_neg (hg ▸ hx)]
    obtain ⟨rfl, z, hz, hb⟩ := hf
    refine ⟨rfl, z, hz, ?_⟩
    unfold subB at hs
    rw [decide_eq_true_eq] at hs
    have h2 := congrArg (fun s => hasB s z.toNat) hs
    simp only [hasB_and, hasB_not _ _ z.toNat_lt, hb, show hasB 0#256 z.toNat = false by simp [hasB]] at h2
    simpa using h2
theorem fits_in {b : List UInt8} : ∀ {p q : List El} {i j : Nat}, inL p q = true → (∀ x ∈ p, x.gap = true → 0 ≤ x.high) → Fits b p i j → Fits b q i j
  | [], [], _, _, _, _, h => h
  | [], _ :: _, _, _, h0, _, _ => by cases h0
  | _ :: _, [], _, _, h0, _, _ => by cases h0
  | x :: p, y :: q, i, j, h0, hg, h => by
    have h0' : (inE x y && inL p q) = true := h0
    rw [Bool.and_eq_true] at h0'
    obtain ⟨k, h1, h2⟩ := fits_cons.1 h
    exact fits_cons.2 ⟨k, fit1_in h0'.1 (hg x (by simp)) h1, fits_in h0'.2 (fun z hz => hg z (by simp [hz])) h2⟩
theorem OkP.high {p : List El} (h : OkP p) : ∀ x ∈ p, x.gap = true → 0 ≤ x.low ∧ x.low ≤ x.high ∧ x.high ≤ 16 := by
  intro x hx hg
  obtain ⟨i, hi, rfl⟩ := List.mem_iff_getElem.1 hx
  obtain ⟨_, a, b, c, _⟩ := h.gap hi hg
  exact ⟨a, b, c⟩
theorem fits_lens {b : List UInt8} : ∀ {p : List El} {i j : Nat}, (∀ x ∈ p, x.gap = true → 0 ≤ x.low ∧ x.low ≤ x.high ∧ x.high ≤ 16) → Fits b p i j → (i : Int) + leastV p ≤ j ∧ (j : Int) ≤ i + mostV p
  | [], i, j, _, h => by
    have : i = j := h
    subst this
    simp [leastV, mostV]
  | x :: p, i, j, hg, h => by
    obtain ⟨k, h1, h2⟩ := fits_cons.1 h
    have ih := fits_lens (fun z hz => hg z (by simp [hz])) h2
    have e1 : leastV (x :: p) = lowOf x + leastV p := by simp [leastV]
    have e2 : mostV (x :: p) = highOf x + mostV p := by simp [mostV]
    rw [e1, e2]
    unfold Fit1 at h1
    unfold lowOf highOf
    by_cases hx : x.gap = true
    · rw [if_pos hx] at h1
      rw [if_pos hx, if_pos hx]
      obtain ⟨c, h3, h4, rfl⟩ := h1
      have := hg x (by simp) hx
      simp only [Int.natCast_add] at ih
      omega
    · rw [if_neg hx] at h1
      rw [if_neg hx, if_neg hx]
      obtain ⟨rfl, _⟩ := h1
      simp only [Int.natCast_add, Int.natCast_one] at ih
      omega
end Go.Proofs.Ytllkohjmghoipaa
