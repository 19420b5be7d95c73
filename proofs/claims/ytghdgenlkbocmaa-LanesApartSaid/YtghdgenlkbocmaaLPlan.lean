/- Layer 17: the plan that Pack makes is one that Check finds nothing in: plain laws. -/
import Derived.Test.YtghdgenlkbocmaaLRowL
namespace Go.Proofs.Ytghdgenlkbocmaa
open Go.RowKit

/-- rules that have lines, which have classes -/
def Full (R : List (List (List CSet))) : Prop := ∀ L ∈ R, L ≠ [] ∧ ∀ l ∈ L, 1 ≤ l.length
theorem hasNone_mem {L : List (List CSet)} (h : hasNone L = false) : ∀ l ∈ L, 1 ≤ l.length := by
  intro l hl
  obtain ⟨k, hk, rfl⟩ := List.mem_iff_getElem.1 hl
  exact hasNone_at h hk
theorem packLine_le (i : Int) : ∀ (L : List (List CSet)) (n : Int) (acc : List Ln) (n' : Int) (acc' : List Ln), n ≤ 256 → packLine i L n acc = some (n', acc') → n' ≤ 256
  | [], n, acc, n', acc', hn, h => by
    simp only [packLine, Option.some.injEq, Prod.mk.injEq] at h
    omega
  | l :: t, n, acc, n', acc', hn, h => by
    unfold packLine at h
    split at h
    · cases h
    · exact packLine_le i t _ _ _ _ (by omega) h
theorem packG_full : ∀ (R : List (List (List CSet))) (i n : Int) (acc : List Ln), n ≤ 256 → (packG R i n acc).2.2.2 = 0 → Full R ∧ n + (R.flatten.flatten.length : Int) ≤ 256
  | [], i, n, acc, hn, _ => ⟨fun L h => by simp at h, by simpa using hn⟩
  | L :: t, i, n, acc, hn, h => by
    unfold packG at h
    split at h
    · exact absurd h (show ¬ (6 : Int) = 0 by decide)
    · rename_i a1
      split at h
      · exact absurd h (show ¬ (3 : Int) = 0 by decide)
      · cases hp : packLine i L n acc with
        | none => rw [hp] at h; exact absurd h (show ¬ (3 : Int) = 0 by decide)
        | some x =>
          obtain ⟨n', acc'⟩ := x
          rw [hp] at h
          obtain ⟨h1, _⟩ := packLine_is i L n acc n' acc' hp
          obtain ⟨h2, h3⟩ := packG_full t (i + 1) n' acc' (packLine_le i L n acc n' acc' hn hp) h
          have hno : hasNone L = false := by
            cases hh : hasNone L with
            | false => rfl
            | true => exact absurd (Or.inr hh) a1
          refine ⟨fun M hM => ?_, ?_⟩
          · rcases List.mem_cons.1 hM with rfl | hM
            · exact ⟨fun e => a1 (.inl (by rw [e]; rfl)), hasNone_mem hno⟩
            · exact h2 M hM
          · rw [List.flatten_cons, List.flatten_append, List.length_append]
            push_cast
            omega
theorem packV_full {R : List (List (List CSet))} (h : (packV R).2.2.2 = 0) : Full R ∧ R.flatten.flatten.length ≤ 256 ∧ 0 < R.length := by
  unfold packV at h
  split at h
  · exact absurd h (show ¬ (6 : Int) = 0 by decide)
  · split at h
    · exact absurd h (show ¬ (3 : Int) = 0 by decide)
    · obtain ⟨h1, h2⟩ := packG_full R 0 0 [] (by omega) h
      exact ⟨h1, by omega, by omega⟩
theorem chkG_line (i : Int) (i0 : 0 ≤ i) (i1 : i < 16) : ∀ (L : List (List CSet)) (rest : List Ln) (n idx : Int), (∀ l ∈ L, 1 ≤ l.length) → n + (L.flatten.length : Int) ≤ 256 →
    chkG (lanesL i L n ++ rest) idx n i = chkG rest (idx + (L.length : Int)) (n + (L.flatten.length : Int)) i
  | [], rest, n, idx, _, _ => by simp [lanesL]
  | l :: t, rest, n, idx, hl, hn => by
    have h1 := hl l (List.mem_cons_self ..)
    rw [List.flatten_cons, List.length_append] at hn
    push_cast at hn
    rw [lanesL, List.cons_append, chkG]
    simp only
    rw [if_neg (by omega), if_neg (by omega), if_neg (by omega), chkG_line i i0 i1 t rest _ _ (fun l h => hl l (List.mem_cons_of_mem _ h)) (by omega), List.flatten_cons, List.length_append, List.length_cons]
    push_cast
    rw [show idx + 1 + (t.length : Int) = idx + ((t.length : Int) + 1) by omega, Int.add_assoc]
theorem chkG_first {i r idx n : Int} {L : List (List CSet)} {rest : List Ln} (i0 : 0 ≤ i) (i1 : i < 16) (hr : i = r ∨ (i = r + 1 ∧ idx ≠ 0)) (hL : L ≠ []) (hl : ∀ l ∈ L, 1 ≤ l.length) (hn : n + (L.flatten.length : Int) ≤ 256) :
    chkG (lanesL i L n ++ rest) idx n r = chkG rest (idx + (L.length : Int)) (n + (L.flatten.length : Int)) i := by
  cases L with
  | nil => exact absurd rfl hL
  | cons l t =>
    have h1 := hl l (List.mem_cons_self ..)
    rw [List.flatten_cons, List.length_append] at hn
    push_cast at hn
    rw [lanesL, List.cons_append, chkG]
    simp only
    rw [if_neg (by omega), if_neg (by omega), if_neg (by omega), chkG_line i i0 i1 t rest _ _ (fun l h => hl l (List.mem_cons_of_mem _ h)) (by omega), List.flatten_cons, List.length_append, List.length_cons]
    push_cast
    rw [show idx + 1 + (t.length : Int) = idx + ((t.length : Int) + 1) by omega, Int.add_assoc]
theorem chkG_rules : ∀ (R : List (List (List CSet))) (i n idx r : Int), Full R → 0 ≤ i → i + (R.length : Int) ≤ 16 → ((idx = 0 ∧ i = r) ∨ (0 < idx ∧ i = r + 1)) → n + (R.flatten.flatten.length : Int) ≤ 256 →
    chkG (lanesG R i n) idx n r = (0, 0, n + (R.flatten.flatten.length : Int))
  | [], i, n, idx, r, _, _, _, _, _ => by simp [lanesG, chkG]
  | L :: t, i, n, idx, r, hF, i0, i1, hr, hn => by
    obtain ⟨hL, hl⟩ := hF L (List.mem_cons_self ..)
    rw [List.flatten_cons, List.flatten_append, List.length_append] at hn ⊢
    push_cast at hn ⊢
    rw [List.length_cons] at i1
    push_cast at i1
    have hlen : 1 ≤ L.length := by
      cases L with
      | nil => exact absurd rfl hL
      | cons _ _ => simp
    have h0 : (0 : Int) ≤ (t.flatten.flatten.length : Int) := by omega
    rw [lanesG, chkG_first i0 (by omega) (by omega) hL hl (by omega), chkG_rules t (i + 1) _ _ i (fun M hM => hF M (List.mem_cons_of_mem _ hM)) (by omega) (by omega) (.inr ⟨by omega, rfl⟩) (by omega), Int.add_assoc]
/-- Check finds nothing in the plan of Pack -/
theorem pack_check {R : List (List (List CSet))} (h : (packV R).2.2.2 = 0) : checkV (packV R).1 (packV R).2.1 = (0, 0) := by
  obtain ⟨h1, h2⟩ := packV_is h
  obtain ⟨h3, h4, h5⟩ := packV_full h
  rw [h1]
  have hk := chkG_rules R 0 0 0 0 h3 (by omega) (by omega) (.inl ⟨rfl, rfl⟩) (by omega)
  rw [Int.zero_add] at hk
  have hl : ¬ (lanesG R 0 0).length = 0 := by
    rw [length_lanesG]
    cases R with
    | nil => simp at h5
    | cons L t =>
      obtain ⟨hL, _⟩ := h3 L (List.mem_cons_self ..)
      cases L with
      | nil => exact absurd rfl hL
      | cons _ _ => simp
  unfold checkV
  simp only
  rw [if_neg hl, hk]
  simp
end Go.Proofs.Ytghdgenlkbocmaa
