/- Layer 30: the lengths of the traces of calls: plain laws. -/
import Derived.Test.YtdfofojlnkhjjaaCFar
namespace Go.Proofs.Ytdfofojlnkhjjaa
open Go.RowKit

def lens (l s : Int) (fd : Int → Int) : List (Int × Int) → Int → Bool → List Int
  | [], _, _ => []
  | (x, y) :: t, at_, closed =>
    if closed = true then 0 :: lens l s fd t at_ true
    else if x = 1 ∧ (1000 < y ∨ l < at_ + y) then 0 :: lens l s fd t at_ false
    else if x = 1 then fd y :: lens l s fd t (at_ + y) false
    else if x = 2 then 2 :: lens l s fd t at_ false
    else if x = 3 then (s + 4) :: lens l s fd t 0 false
    else 0 :: lens l s fd t at_ true
theorem lens_at (l s : Int) (fd : Int → Int) {L : List (Int × Int)} {i : Nat} (h : i < L.length) (at_ : Int) (closed : Bool) : lens l s fd (L.drop i) at_ closed =
    if closed = true then 0 :: lens l s fd (L.drop (i + 1)) at_ true
    else if L[i].1 = 1 ∧ (1000 < L[i].2 ∨ l < at_ + L[i].2) then 0 :: lens l s fd (L.drop (i + 1)) at_ false
    else if L[i].1 = 1 then fd L[i].2 :: lens l s fd (L.drop (i + 1)) (at_ + L[i].2) false
    else if L[i].1 = 2 then 2 :: lens l s fd (L.drop (i + 1)) at_ false
    else if L[i].1 = 3 then (s + 4) :: lens l s fd (L.drop (i + 1)) 0 false
    else 0 :: lens l s fd (L.drop (i + 1)) at_ true := by
  rw [List.drop_eq_getElem_cons h]
  rcases L[i] with ⟨x, y⟩
  rfl
theorem lens_closed (l s : Int) (fd : Int → Int) : ∀ (L : List (Int × Int)) (at_ : Int), (lens l s fd L at_ true).sum = 0
  | [], _ => rfl
  | (x, y) :: t, at_ => by
    unfold lens
    rw [if_pos rfl, List.sum_cons, lens_closed l s fd t at_]
    rfl
theorem length_lens (l s : Int) (fd : Int → Int) : ∀ (L : List (Int × Int)) (at_ : Int) (c : Bool), (lens l s fd L at_ c).length = L.length
  | [], _, _ => rfl
  | (x, y) :: t, at_, c => by
    unfold lens
    (repeat' split) <;> simp [length_lens l s fd t]

/-- what Total returns is the sum of the lengths -/
theorem tot_lens (l s : Int) (fd : Int → Int) : ∀ (L : List (Int × Int)) (sum at_ : Int), shE L = 0 → tot l s fd L sum at_ = sum + (lens l s fd L at_ false).sum
  | [], sum, at_, _ => by simp [tot, lens]
  | (x, y) :: t, sum, at_, h => by
    have h0 := shE_ok h (i := 0) (by simp)
    simp only [List.getElem_cons_zero] at h0
    obtain ⟨x1, x2, y0, yx⟩ := h0
    have ht : shE t = 0 := by
      unfold shE at h
      split at h
      · omega
      · split at h
        · omega
        · split at h
          · omega
          · exact h
    unfold tot lens
    rw [if_neg (show ¬ (false = true) by simp)]
    rcases (show x = 1 ∨ x = 2 ∨ x = 3 ∨ x = 4 by omega) with rfl | rfl | rfl | rfl
    · rw [if_neg (by omega), if_neg (by omega), if_neg (by omega)]
      by_cases hl : y ≤ 1000 ∧ at_ + y ≤ l
      · rw [if_pos hl, if_neg (by omega), if_pos rfl, List.sum_cons, tot_lens l s fd t _ _ ht, Int.add_assoc]
      · rw [if_neg hl, if_pos ⟨rfl, by omega⟩, List.sum_cons, tot_lens l s fd t _ _ ht, Int.zero_add]
    · rw [if_neg (by omega), if_pos rfl, if_neg (by omega), if_neg (by omega), if_pos rfl, List.sum_cons, tot_lens l s fd t _ _ ht, Int.add_assoc]
    · rw [if_neg (by omega), if_neg (by omega), if_pos rfl, if_neg (by omega), if_neg (by omega), if_neg (by omega), if_pos rfl, List.sum_cons, tot_lens l s fd t _ _ ht]
      omega
    · rw [if_pos rfl, if_neg (by omega), if_neg (by omega), if_neg (by omega), if_neg (by omega), List.sum_cons, lens_closed]
      omega

theorem drop_step {A t : List Int} {i : Nat} {e : Int} (h : e :: t = A.drop i) : A.getD i 0 = e ∧ A.drop (i + 1) = t ∧ (A.take (i + 1)).sum = (A.take i).sum + e := by
  have hi : i < A.length := by
    rcases Nat.lt_or_ge i A.length with h1 | h1
    · exact h1
    · rw [List.drop_eq_nil_of_le h1] at h; cases h
  rw [List.drop_eq_getElem_cons hi] at h
  obtain ⟨h1, h2⟩ := List.cons.inj h
  refine ⟨by rw [h1, List.getD_eq_getElem?_getD, List.getElem?_eq_getElem hi]; rfl, h2.symm, ?_⟩
  rw [List.take_succ_eq_append_getElem hi, List.sum_append, h1]
  simp

theorem farS_ge (l : Int) : ∀ (L : List (Int × Int)) (n at_ : Int), n ≤ farS l L n at_
  | [], n, _ => Int.le_refl _
  | (x, y) :: t, n, at_ => by
    unfold farS
    generalize (if x = 3 then (0 : Int) else at_) = A
    split
    · have := farS_ge l t (n + y) (A + y)
      omega
    · exact farS_ge l t n A
def Few (l : Int) (L : List (Int × Int)) (i : Nat) (at_ : Int) : Prop := ∃ n, 0 ≤ n ∧ farS l (L.drop i) n at_ ≤ 40
theorem Few.feed {l : Int} {L : List (Int × Int)} {i : Nat} {at_ : Int} (h : Few l L i at_) (hi : i < L.length) (hx : L[i].1 = 1) (y0 : 0 ≤ L[i].2) (y1 : L[i].2 ≤ 1000) (y2 : at_ + L[i].2 ≤ l) :
    L[i].2 ≤ 40 ∧ Few l L (i + 1) (at_ + L[i].2) := by
  obtain ⟨n, hn, hf⟩ := h
  rw [farS_at l hi, if_neg (show ¬ L[i].1 = 3 by omega)] at hf
  by_cases hy : 0 < L[i].2
  · rw [if_pos ⟨hy, y1, y2⟩] at hf
    have := farS_ge l (L.drop (i + 1)) (n + L[i].2) (at_ + L[i].2)
    exact ⟨by omega, n + L[i].2, by omega, hf⟩
  · rw [if_neg (fun h => hy h.1)] at hf
    have e : L[i].2 = 0 := by omega
    exact ⟨by omega, n, hn, by rw [e, Int.add_zero]; exact hf⟩
theorem Few.long {l : Int} {L : List (Int × Int)} {i : Nat} {at_ : Int} (h : Few l L i at_) (hi : i < L.length) (hx : L[i].1 = 1) (y1 : 1000 < L[i].2 ∨ l < at_ + L[i].2) : Few l L (i + 1) at_ := by
  obtain ⟨n, hn, hf⟩ := h
  rw [farS_at l hi, if_neg (show ¬ L[i].1 = 3 by omega), if_neg (by omega)] at hf
  exact ⟨n, hn, hf⟩
theorem Few.flush {l : Int} {L : List (Int × Int)} {i : Nat} {at_ : Int} (h : Few l L i at_) (hi : i < L.length) (hx : L[i].1 = 2) (y0 : L[i].2 = 0) : Few l L (i + 1) at_ := by
  obtain ⟨n, hn, hf⟩ := h
  rw [farS_at l hi, if_neg (show ¬ L[i].1 = 3 by omega), if_neg (by omega)] at hf
  exact ⟨n, hn, hf⟩
theorem Few.reset {l : Int} {L : List (Int × Int)} {i : Nat} {at_ : Int} (h : Few l L i at_) (hi : i < L.length) (hx : L[i].1 = 3) (y0 : L[i].2 = 0) : Few l L (i + 1) 0 := by
  obtain ⟨n, hn, hf⟩ := h
  rw [farS_at l hi, if_pos hx, if_neg (by omega)] at hf
  exact ⟨n, hn, hf⟩
end Go.Proofs.Ytdfofojlnkhjjaa
