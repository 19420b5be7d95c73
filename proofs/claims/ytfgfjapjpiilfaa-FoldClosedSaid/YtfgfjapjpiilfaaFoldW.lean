/- The plain law of Open: the reference's is the program's. -/
import Derived.Test.YtfgfjapjpiilfaaFoldV
namespace Go.Proofs.Ytfgfjapjpiilfaa
open Go.RowKit Go.Shelf

theorem hasB_openL (s : CSet) (bs : List UInt8) (c : Nat) (hc : c < 256) :
    hasB (openL s bs) c = (hasB s c && bs.all fun b => decide (bothS b.toNat &&& ~~~s = 0#256) || !decide (b.toNat = c)) := by
  unfold openL
  rw [← List.foldr_reverse, ← List.all_reverse]
  induction bs.reverse with
  | nil => simp
  | cons b l ih =>
    rw [List.foldr_cons, List.all_cons]
    by_cases h : bothS b.toNat &&& ~~~s = 0#256
    · rw [if_pos h, ih, decide_eq_true h]; simp
    · rw [if_neg h, hasB_and, hasB_not _ _ hc, hasB_bit _ _ b.toNat_lt, ih, decide_eq_false h]
      cases hasB s c <;> cases decide (b.toNat = c) <;> simp
theorem sub_iff (s t : CSet) : s &&& ~~~t = 0#256 ↔ ∀ i, i < 256 → hasB s i = true → hasB t i = true := by
  constructor
  · intro h i hi hs
    have e : hasB (s &&& ~~~t) i = false := by rw [h]; simp [hasB]
    rw [hasB_and, hasB_not _ _ hi, hs] at e
    simpa using e
  · intro h
    apply set_ext; intro i hi
    rw [hasB_and, hasB_not _ _ hi]
    have := h i hi
    cases h1 : hasB s i with
    | true => rw [this h1]; simp [hasB]
    | false => simp [hasB]
theorem both_sub {c : Nat} (hc : c < 256) (s : CSet) (hs : hasB s c = true) : bothS c &&& ~~~s = 0#256 ↔ hasB (turnS s) c = true := by
  rw [sub_iff, turnS, hasB_ofF _ _ hc]
  have hx : c ^^^ 32 < 256 := Nat.xor_lt_two_pow (n := 8) hc (by decide)
  constructor
  · intro h
    by_cases hl : letN c = true
    · rw [if_pos hl]
      apply h _ hx
      rw [both_cases hc, if_pos hl, hasB_or, hasB_bit _ _ hx]
      simp
    · rw [if_neg hl]; exact hs
  · intro h i hi hb
    rw [both_cases hc] at hb
    by_cases hl : letN c = true
    · rw [if_pos hl] at hb h
      rw [hasB_or, hasB_bit _ _ hc, hasB_bit _ _ hx, Bool.or_eq_true, decide_eq_true_eq, decide_eq_true_eq] at hb
      rcases hb with rfl | rfl
      · exact hs
      · exact h
    · rw [if_neg hl, hasB_bit _ _ hc, decide_eq_true_eq] at hb
      subst hb; exact hs
theorem open_eq (s : CSet) : openS s = s &&& turnS s := by
  apply set_ext; intro c hc
  rw [openS, hasB_openL _ _ _ hc, hasB_and]
  cases h : hasB s c with
  | false => simp
  | true =>
    simp only [Bool.true_and]
    rw [Bool.eq_iff_iff, List.all_eq_true, ← both_sub hc s h]
    constructor
    · intro g
      have hm : UInt8.ofNat c ∈ listS s := by rw [mem_list, ofNat_num hc]; exact h
      have := g _ hm
      rw [ofNat_num hc] at this
      simpa using this
    · intro g b _
      by_cases e : b.toNat = c
      · rw [e, decide_eq_true g]; rfl
      · simp [e]

end Go.Proofs.Ytfgfjapjpiilfaa
