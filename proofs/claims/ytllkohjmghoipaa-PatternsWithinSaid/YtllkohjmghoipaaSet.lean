/- Sets of bytes: 256 bits; the four words in which Go keeps them. -/
import Derived.WalkKit
namespace Go.Proofs.Ytllkohjmghoipaa
open Go.RowKit

abbrev CSet := BitVec 256
def word (s : CSet) (i : Nat) : Nat := s.toNat / 2 ^ (64 * i) % 2 ^ 64
def setC (s : CSet) : Array Value := #[.int .u64 (word s 0 : Int), .int .u64 (word s 1 : Int), .int .u64 (word s 2 : Int), .int .u64 (word s 3 : Int)]
def setV (s : CSet) : Value := .agg (setC s)
def bit (b : Nat) : CSet := BitVec.twoPow 256 b

theorem word_lt (s : CSet) (i : Nat) : word s i < 18446744073709551616 := Nat.mod_lt _ (by decide)
theorem word_testBit (s : CSet) (i j : Nat) (h : j < 64) : (word s i).testBit j = s.getLsbD (64 * i + j) := by
  unfold word
  rw [Nat.testBit_mod_two_pow, Nat.testBit_div_two_pow, BitVec.getLsbD]
  simp [h, Nat.add_comm]
theorem word_testBit_ge (s : CSet) (i j : Nat) (h : 64 ≤ j) : (word s i).testBit j = false := by
  unfold word
  rw [Nat.testBit_mod_two_pow]
  simp; omega
theorem word_ext {s t : CSet} (h : ∀ i, i < 4 → word s i = word t i) : s = t := by
  apply BitVec.eq_of_getLsbD_eq
  intro k hk
  have e := h (k / 64) (by omega)
  have h1 := word_testBit s (k / 64) (k % 64) (Nat.mod_lt _ (by decide))
  have h2 := word_testBit t (k / 64) (k % 64) (Nat.mod_lt _ (by decide))
  rw [e, h2] at h1
  rw [Nat.div_add_mod] at h1
  exact h1.symm
theorem eq_word {n : Nat} {s : CSet} {i : Nat} (hn : n < 2 ^ 64) (h : ∀ j, j < 64 → n.testBit j = s.getLsbD (64 * i + j)) : n = word s i := by
  apply Nat.eq_of_testBit_eq
  intro j
  by_cases hj : j < 64
  · rw [word_testBit s i j hj, h j hj]
  · rw [word_testBit_ge s i j (by omega), Nat.testBit_lt_two_pow (Nat.lt_of_lt_of_le hn (Nat.pow_le_pow_right (by decide) (by omega)))]

theorem setC_inj {s t : CSet} (h : setC s = setC t) : s = t := by
  unfold setC at h
  simp at h
  apply word_ext
  intro i hi
  match i, hi with
  | 0, _ => exact Int.ofNat_inj.1 h.1
  | 1, _ => exact Int.ofNat_inj.1 h.2.1
  | 2, _ => exact Int.ofNat_inj.1 h.2.2.1
  | 3, _ => exact Int.ofNat_inj.1 h.2.2.2

theorem word_or (s t : CSet) (i : Nat) : word (s ||| t) i = word s i ||| word t i := by
  symm; apply eq_word
  · exact Nat.or_lt_two_pow (word_lt s i) (word_lt t i)
  · intro j hj; rw [Nat.testBit_or, word_testBit s i j hj, word_testBit t i j hj, BitVec.getLsbD_or]
theorem word_and (s t : CSet) (i : Nat) : word (s &&& t) i = word s i &&& word t i := by
  symm; apply eq_word
  · exact Nat.and_lt_two_pow _ (word_lt t i)
  · intro j hj; rw [Nat.testBit_and, word_testBit s i j hj, word_testBit t i j hj, BitVec.getLsbD_and]
theorem word_bit (b i : Nat) (h : b < 256) : word (bit b) i = if i = b / 64 then 2 ^ (b % 64) else 0 := by
  symm; apply eq_word
  · split
    · exact Nat.pow_lt_pow_right (by decide) (Nat.mod_lt _ (by decide))
    · decide
  · intro j hj
    unfold bit
    rw [BitVec.getLsbD_twoPow]
    split
    · rw [Nat.testBit_two_pow]
      rw [Bool.eq_iff_iff]; simp; omega
    · rw [Nat.zero_testBit, Bool.eq_iff_iff]; simp; omega

theorem nat_clear (x r j : Nat) (h : x.testBit r = true) : (x - 2 ^ r).testBit j = (x.testBit j && decide (j ≠ r)) := by
  have h1 : x / 2 ^ r % 2 = 1 := by rw [Nat.testBit_eq_decide_div_mod_eq] at h; exact of_decide_eq_true h
  have h2 := Nat.div_add_mod x (2 ^ (r + 1))
  have h3 : x % 2 ^ (r + 1) = x % 2 ^ r + 2 ^ r := by rw [Nat.mod_pow_succ, h1, Nat.mul_one]
  have hl : x % 2 ^ r < 2 ^ r := Nat.mod_lt _ (Nat.two_pow_pos r)
  have h4 : x - 2 ^ r = 2 ^ (r + 1) * (x / 2 ^ (r + 1)) + x % 2 ^ r := by omega
  rw [h4, Nat.testBit_two_pow_mul_add _ (Nat.lt_trans hl (Nat.pow_lt_pow_right (by decide) (by omega)))]
  by_cases hj : j < r + 1
  · rw [if_pos hj, Nat.testBit_mod_two_pow]
    by_cases e : j = r
    · subst e; simp
    · have : j < r := by omega
      simp [e, this]
  · rw [if_neg hj, Nat.testBit_div_two_pow]
    have : j ≠ r := by omega
    rw [show j - (r + 1) + (r + 1) = j by omega]
    simp [this]

/-- is a byte in a set -/
def hasB (s : CSet) (b : Nat) : Bool := s.getLsbD b
theorem hasB_word (s : CSet) (b : Nat) : hasB s b = decide (word s (b / 64) / 2 ^ (b % 64) % 2 = 1) := by
  have h := word_testBit s (b / 64) (b % 64) (Nat.mod_lt _ (by decide))
  rw [Nat.div_add_mod, Nat.testBit_eq_decide_div_mod_eq] at h
  exact h.symm

theorem setC_size (s : CSet) : (setC s).size = 4 := rfl
theorem hasB_or (s t : CSet) (b : Nat) : hasB (s ||| t) b = (hasB s b || hasB t b) := by simp [hasB]
theorem hasB_bit (b c : Nat) (h : b < 256) : hasB (bit b) c = decide (b = c) := by
  unfold hasB bit
  rw [BitVec.getLsbD_twoPow]; simp [h]
theorem hasB_ge (s : CSet) (b : Nat) (h : 256 ≤ b) : hasB s b = false := BitVec.getLsbD_of_ge s b h
theorem set_ext {s t : CSet} (h : ∀ b, b < 256 → hasB s b = hasB t b) : s = t := BitVec.eq_of_getLsbD_eq h

/-- the bytes of a set below a number -/
def low (t : CSet) (i : Nat) : CSet := t &&& BitVec.ofNat 256 (2 ^ i - 1)
theorem hasB_low (t : CSet) (i b : Nat) : hasB (low t i) b = (hasB t b && decide (b < i)) := by
  unfold hasB low
  rw [BitVec.getLsbD_and, BitVec.getLsbD_ofNat, Nat.testBit_two_pow_sub_one]
  by_cases h : b < 256
  · simp [h]
  · rw [BitVec.getLsbD_of_ge t b (by omega)]; simp
theorem low_zero (t : CSet) : low t 0 = 0#256 := by
  apply set_ext; intro b _; rw [hasB_low]; simp [hasB]
theorem low_all (t : CSet) : low t 256 = t := by
  apply set_ext; intro b h; rw [hasB_low]; simp [h]
theorem low_yes {t : CSet} {i : Nat} (hi : i < 256) (h : hasB t i = true) : low t (i + 1) = low t i ||| bit i := by
  apply set_ext; intro b _
  rw [hasB_or, hasB_low, hasB_low, hasB_bit i b hi, Bool.eq_iff_iff]
  simp
  by_cases e : i = b
  · subst e; simp [h]
  · simp [e]
    intro _
    omega
theorem low_no {t : CSet} {i : Nat} (h : hasB t i = false) : low t (i + 1) = low t i := by
  apply set_ext; intro b _
  rw [hasB_low, hasB_low, Bool.eq_iff_iff]
  simp
  intro hb
  have : b ≠ i := by rintro rfl; rw [h] at hb; cases hb
  omega

/-- the set of the bytes of which something holds -/
def ofF (f : Nat → Bool) : CSet := (List.range 256).foldl (fun s i => if f i then s ||| bit i else s) 0#256
theorem hasB_fold (f : Nat → Bool) (n b : Nat) (hn : n ≤ 256) : hasB ((List.range n).foldl (fun s i => if f i then s ||| bit i else s) 0#256) b = (decide (b < n) && f b) := by
  induction n with
  | zero => simp [hasB]
  | succ n ih =>
    rw [List.range_succ, List.foldl_append, List.foldl_cons, List.foldl_nil]
    have ih' := ih (by omega)
    split
    · rename_i h
      rw [hasB_or, ih', hasB_bit n b (by omega)]
      by_cases e : n = b
      · subst e; simp [h]
      · have : decide (b < n + 1) = decide (b < n) := by rw [Bool.eq_iff_iff]; simp; omega
        simp [e, this]
    · rename_i h
      rw [ih']
      by_cases e : n = b
      · subst e; simp at h; simp [h]
      · have : decide (b < n + 1) = decide (b < n) := by rw [Bool.eq_iff_iff]; simp; omega
        rw [this]
theorem hasB_ofF (f : Nat → Bool) (b : Nat) (hb : b < 256) : hasB (ofF f) b = f b := by
  unfold ofF; rw [hasB_fold f 256 b (Nat.le_refl _)]; simp [hb]

def rangeE (l h : Int) : Int := if l < 0 ∨ 255 < h ∨ h < l then 7 else 0
def spanS (l h : Int) : CSet := ofF fun b => decide (l ≤ (b : Int) ∧ (b : Int) < h)
def rangeS (l h : Int) : CSet := if rangeE l h = 0 then spanS l (h + 1) else 0#256
theorem span_succ {l : Int} {k : Nat} (hk : k < 256) (hl : l ≤ (k : Int)) : spanS l ((k : Int) + 1) = spanS l k ||| bit k := by
  apply set_ext; intro b hb
  rw [hasB_or, spanS, spanS, hasB_ofF _ _ hb, hasB_ofF _ _ hb, hasB_bit k b hk, Bool.eq_iff_iff]
  simp; omega
theorem span_none (l : Int) : spanS l l = 0#256 := by
  apply set_ext; intro b hb
  rw [spanS, hasB_ofF _ _ hb]
  simp [hasB] <;> omega

/-- the set of bytes of a list -/
def ofL (bs : List UInt8) : CSet := bs.foldl (fun s b => s ||| bit b.toNat) 0#256
theorem ofL_snoc (bs : List UInt8) (b : UInt8) : ofL (bs ++ [b]) = ofL bs ||| bit b.toNat := by simp [ofL]
theorem hasB_ofL (bs : List UInt8) (c : Nat) : hasB (ofL bs) c = bs.any fun b => b.toNat == c := by
  unfold ofL
  rw [← List.foldr_reverse, ← List.any_reverse]
  induction bs.reverse with
  | nil => simp [hasB]
  | cons b l ih =>
    rw [List.foldr_cons, hasB_or, ih, List.any_cons, hasB_bit _ _ (UInt8.toNat_lt b), Bool.or_comm]
    rfl

/-- the bytes of a set, in order, below a number -/
def listTo (s : CSet) (n : Nat) : List UInt8 := ((List.range n).filter (hasB s)).map UInt8.ofNat
theorem listTo_yes {s : CSet} {n : Nat} (h : hasB s n = true) : listTo s (n + 1) = listTo s n ++ [UInt8.ofNat n] := by simp [listTo, List.range_succ, List.filter_append, h]
theorem listTo_no {s : CSet} {n : Nat} (h : hasB s n = false) : listTo s (n + 1) = listTo s n := by simp [listTo, List.range_succ, List.filter_append, h]
theorem listTo_le (s : CSet) (n : Nat) : (listTo s n).length ≤ n := by
  have := List.length_filter_le (hasB s) (List.range n)
  simp only [listTo, List.length_map]
  simp at this; omega
def listS (s : CSet) : List UInt8 := listTo s 256

end Go.Proofs.Ytllkohjmghoipaa
