/- the plain law of Print and Prefix. -/
import Derived.Test.YtooiegejchcbhaaDoorKConc
namespace Go.Proofs.YtooiegejchcbhaaDoor
open Go.RowKit

theorem text_head : ∀ n : Fin 256, byt (textB n.1) 0 ≠ 93 ∧ byt (textB n.1) 0 ≠ 45 ∧ 0 < (textB n.1).length := by decide +kernel
theorem byt_mid (pre u rest : List UInt8) (h : 0 < u.length) : byt (pre ++ u ++ rest) pre.length = byt u 0 := by
  have := byt_pre pre (u ++ rest) 0
  rw [Nat.add_zero, ← List.append_assoc, byt_post u rest 0 h] at this
  exact this
theorem byt_end (pre rest : List UInt8) : byt (pre ++ rest) pre.length = byt rest 0 := by
  have := byt_pre pre rest 0
  rwa [Nat.add_zero] at this

theorem pref_one (pre rest : List UInt8) (no : Bool) (f x : Nat) (s : CSet) (hx : x < 256) (hr : byt rest 0 ≠ 45) :
    prefV (pre ++ textB x ++ rest) no (f + 1) pre.length s = prefV (pre ++ textB x ++ rest) no f (pre ++ textB x).length (s ||| rangeS (x : Int) (x : Int)) := by
  have hh := text_head ⟨x, hx⟩
  simp only at hh
  have hl : (pre ++ textB x ++ rest).length = pre.length + (textB x).length + rest.length := by simp [Nat.add_assoc]
  have hb := byt_mid pre (textB x) rest hh.2.2
  have he := byt_end (pre ++ textB x) rest
  have hra := read_amid pre rest x hx
  have hl2 : (pre ++ textB x).length = pre.length + (textB x).length := by simp
  rw [prefV, if_pos ⟨by omega, by rw [hb]; exact hh.1⟩, hra]
  simp only
  rw [if_neg (by simp), if_neg (by rw [← hl2, he]; exact fun h => hr h.2), hl2]
theorem pref_two (pre rest : List UInt8) (no : Bool) (f x y : Nat) (s : CSet) (hx : x < 256) (hy : y < 256) (hxy : x ≤ y) :
    prefV (pre ++ textB x ++ [45] ++ textB y ++ rest) no (f + 1) pre.length s = prefV (pre ++ textB x ++ [45] ++ textB y ++ rest) no f (pre ++ textB x ++ [45] ++ textB y).length (s ||| rangeS (x : Int) (y : Int)) := by
  have hh := text_head ⟨x, hx⟩
  simp only at hh
  have e1 : pre ++ textB x ++ [45] ++ textB y ++ rest = pre ++ textB x ++ ([45] ++ textB y ++ rest) := by simp
  have e2 : pre ++ textB x ++ [45] ++ textB y ++ rest = (pre ++ textB x ++ [45]) ++ textB y ++ rest := by simp
  have hra := read_amid pre ([45] ++ textB y ++ rest) x hx
  have hrb := read_amid (pre ++ textB x ++ [45]) rest y hy
  have hb := byt_mid pre (textB x) ([45] ++ textB y ++ rest) hh.2.2
  have he := byt_end (pre ++ textB x) ([45] ++ textB y ++ rest)
  have h45 : byt ([45] ++ textB y ++ rest) 0 = 45 := by simp [byt]
  have hl2 : (pre ++ textB x).length = pre.length + (textB x).length := by simp
  have hl3 : (pre ++ textB x ++ [45]).length = pre.length + (textB x).length + 1 := by simp; omega
  have hl4 : (pre ++ textB x ++ [45] ++ textB y).length = pre.length + (textB x).length + 1 + (textB y).length := by simp; omega
  have hl : (pre ++ textB x ++ [45] ++ textB y ++ rest).length = pre.length + (textB x).length + 1 + (textB y).length + rest.length := by simp; omega
  rw [← e1] at hra hb he
  rw [hl3] at hrb
  generalize pre ++ textB x ++ [45] ++ textB y ++ rest = t at *
  rw [prefV, if_pos ⟨by omega, by rw [hb]; exact hh.1⟩, hra]
  simp only
  rw [if_neg (by simp), if_pos ⟨by omega, by rw [← hl2, he]; exact h45⟩, hrb]
  simp only
  rw [if_neg (by simp), if_neg (by omega), hl4]
/-- the set of a list of runs -/
def runsU (L : List Pr) (s : CSet) : CSet := L.foldl (fun s x => s ||| rangeS (x.1 : Int) (x.2 : Int)) s
theorem items_head (L : List Pr) (hL : ∀ x ∈ L, x.1 ≤ x.2 ∧ x.2 < 256) (rest : List UInt8) : byt (itemsT L ++ [93] ++ rest) 0 ≠ 45 := by
  cases L with
  | nil => simp [itemsT, byt]
  | cons x L =>
    obtain ⟨h1, h2⟩ := hL x (by simp)
    have hh := text_head ⟨x.1, by omega⟩
    simp only at hh
    have e : itemsT (x :: L) ++ [93] ++ rest = textB x.1 ++ ((if 1 < x.2 - x.1 then [45] else []) ++ (if x.2 ≠ x.1 then textB x.2 else []) ++ itemsT L ++ [93] ++ rest) := by simp [itemsT, itemT]
    rw [e, byt_post _ _ _ hh.2.2]
    exact hh.2.1
theorem text_no45 (y : Nat) (hy : y < 256) (r : List UInt8) : byt (textB y ++ r) 0 ≠ 45 := by
  have hh := text_head ⟨y, hy⟩
  simp only at hh
  rw [byt_post _ _ _ hh.2.2]
  exact hh.2.1
theorem ex_cons {α : Type} (p : α → Prop) (a : α) (l : List α) : (∃ x ∈ a :: l, p x) ↔ (p a ∨ ∃ x ∈ l, p x) := by simp
theorem hasB_run {x y b : Nat} (hxy : x ≤ y) (hy : y < 256) (hb : b < 256) : hasB (rangeS (x : Int) (y : Int)) b = true ↔ x ≤ b ∧ b ≤ y := by
  have e : rangeE (x : Int) (y : Int) = 0 := by rw [range_e hy, if_neg (by omega)]
  unfold rangeS
  rw [e, if_pos rfl, spanS, hasB_ofF _ _ hb, decide_eq_true_eq]
  omega
theorem pref_items (no : Bool) (rest : List UInt8) : ∀ (L : List Pr) (pre : List UInt8) (f : Nat) (s : CSet), (∀ x ∈ L, x.1 ≤ x.2 ∧ x.2 < 256) → (itemsT L).length + 1 ≤ f → ∃ s', prefV (pre ++ itemsT L ++ [93] ++ rest) no f pre.length s = (if no then ~~~s' else s', (pre ++ itemsT L).length + 1, 0) ∧ ∀ b, b < 256 → (hasB s' b = true ↔ (hasB s b = true ∨ ∃ x ∈ L, x.1 ≤ b ∧ b ≤ x.2)) := by
  intro L
  induction L with
  | nil =>
    intro pre f s _ hf
    obtain ⟨f, rfl⟩ : ∃ g, f = g + 1 := ⟨f - 1, by omega⟩
    refine ⟨s, ?_, by simp⟩
    have e : pre ++ itemsT [] ++ [93] ++ rest = pre ++ ([93] ++ rest) := by simp [itemsT]
    have e2 : (pre ++ itemsT []).length = pre.length := by simp [itemsT]
    have hb := byt_end pre ([93] ++ rest)
    have h93 : byt ([93] ++ rest) 0 = 93 := by simp [byt]
    have hl : (pre ++ ([93] ++ rest)).length = pre.length + 1 + rest.length := by simp; omega
    rw [e, e2, prefV, if_neg (by rw [hb, h93]; simp), if_neg (by omega)]
  | cons x L ih =>
    intro pre f s hL hf
    obtain ⟨h1, h2⟩ := hL x (by simp)
    have hL' : ∀ x ∈ L, x.1 ≤ x.2 ∧ x.2 < 256 := fun y hy => hL y (by simp [hy])
    have h45 := items_head L hL' rest
    obtain ⟨a, b⟩ := x
    simp only at h1 h2
    have hx : a < 256 := by omega
    have ta := (text_head ⟨a, hx⟩).2.2
    have tb := (text_head ⟨b, h2⟩).2.2
    simp only at ta tb
    rcases (show b = a ∨ b = a + 1 ∨ a + 1 < b by omega) with hq | hq | hq
    · subst hq
      have hi : itemsT ((b, b) :: L) = textB b ++ itemsT L := by simp [itemsT, itemT]
      rw [hi, List.length_append] at hf
      obtain ⟨f, rfl⟩ : ∃ g, f = g + 1 := ⟨f - 1, by omega⟩
      obtain ⟨s', q1, q2⟩ := ih (pre ++ textB b) f (s ||| rangeS (b : Int) (b : Int)) hL' (by omega)
      have e : pre ++ (textB b ++ itemsT L) ++ [93] ++ rest = pre ++ textB b ++ (itemsT L ++ [93] ++ rest) := by simp
      have e2 : pre ++ textB b ++ itemsT L ++ [93] ++ rest = pre ++ textB b ++ (itemsT L ++ [93] ++ rest) := by simp
      refine ⟨s', ?_, fun c hc => ?_⟩
      · rw [hi, e, pref_one _ _ _ _ _ _ hx h45, ← e2, q1]
        simp
      · rw [q2 c hc, hasB_or, Bool.or_eq_true, hasB_run (Nat.le_refl _) h2 hc, ex_cons, or_assoc]
    · subst hq
      have hi : itemsT ((a, a + 1) :: L) = textB a ++ textB (a + 1) ++ itemsT L := by simp [itemsT, itemT]
      rw [hi, List.length_append, List.length_append] at hf
      obtain ⟨f, rfl⟩ : ∃ g, f = g + 1 + 1 := ⟨f - 2, by omega⟩
      obtain ⟨s', q1, q2⟩ := ih (pre ++ textB a ++ textB (a + 1)) f (s ||| rangeS (a : Int) (a : Int) ||| rangeS ((a + 1 : Nat) : Int) ((a + 1 : Nat) : Int)) hL' (by omega)
      have e : pre ++ (textB a ++ textB (a + 1) ++ itemsT L) ++ [93] ++ rest = pre ++ textB a ++ (textB (a + 1) ++ (itemsT L ++ [93] ++ rest)) := by simp
      have e1 : pre ++ textB a ++ (textB (a + 1) ++ (itemsT L ++ [93] ++ rest)) = pre ++ textB a ++ textB (a + 1) ++ (itemsT L ++ [93] ++ rest) := by simp
      have e2 : pre ++ textB a ++ textB (a + 1) ++ itemsT L ++ [93] ++ rest = pre ++ textB a ++ textB (a + 1) ++ (itemsT L ++ [93] ++ rest) := by simp
      refine ⟨s', ?_, fun c hc => ?_⟩
      · rw [hi, e, pref_one _ _ _ _ _ _ hx (text_no45 _ h2 _), e1, pref_one _ _ _ _ _ _ h2 h45, ← e2, q1]
        simp
      · rw [q2 c hc, hasB_or, hasB_or, Bool.or_eq_true, Bool.or_eq_true, hasB_run (Nat.le_refl _) hx hc, hasB_run (Nat.le_refl _) h2 hc, ex_cons]
        constructor
        · rintro (((h | h) | h) | h)
          · exact .inl h
          · exact .inr (.inl ⟨by simp; omega, by simp; omega⟩)
          · exact .inr (.inl ⟨by simp; omega, by simp; omega⟩)
          · exact .inr (.inr h)
        · rintro (h | h | h)
          · exact .inl (.inl (.inl h))
          · simp only at h
            by_cases hca : c = a
            · exact .inl (.inl (.inr ⟨by omega, by omega⟩))
            · exact .inl (.inr ⟨by omega, by omega⟩)
          · exact .inr h
    · have hi : itemsT ((a, b) :: L) = textB a ++ [45] ++ textB b ++ itemsT L := by
        simp only [itemsT, List.flatMap_cons, itemT]
        rw [if_pos (by omega), if_pos (by omega)]
      rw [hi, List.length_append, List.length_append, List.length_append] at hf
      obtain ⟨f, rfl⟩ : ∃ g, f = g + 1 := ⟨f - 1, by omega⟩
      obtain ⟨s', q1, q2⟩ := ih (pre ++ textB a ++ [45] ++ textB b) f (s ||| rangeS (a : Int) (b : Int)) hL' (by omega)
      have e : pre ++ (textB a ++ [45] ++ textB b ++ itemsT L) ++ [93] ++ rest = pre ++ textB a ++ [45] ++ textB b ++ (itemsT L ++ [93] ++ rest) := by simp
      have e2 : pre ++ textB a ++ [45] ++ textB b ++ itemsT L ++ [93] ++ rest = pre ++ textB a ++ [45] ++ textB b ++ (itemsT L ++ [93] ++ rest) := by simp
      refine ⟨s', ?_, fun c hc => ?_⟩
      · rw [hi, e, pref_two _ _ _ _ _ _ _ hx h2 h1, ← e2, q1]
        simp
      · rw [q2 c hc, hasB_or, Bool.or_eq_true, hasB_run h1 h2 hc, ex_cons, or_assoc]
end Go.Proofs.YtooiegejchcbhaaDoor
