/- the runs of a set cover it; Print, read back by Prefix and Parse. -/
import Derived.Test.YtooiegejchcbhaaDoorKBackL
import Derived.Test.YtooiegejchcbhaaDoorKNot
namespace Go.Proofs.YtooiegejchcbhaaDoor
open Go.RowKit

theorem runs_mem : ∀ (n : Nat) (l : List Nat), l.length = n → (∀ x ∈ runsL l, x.1 ≤ x.2) ∧ ∀ b, (∃ x ∈ runsL l, x.1 ≤ b ∧ b ≤ x.2) ↔ b ∈ l
  | 0, l, h => by
    obtain rfl := List.length_eq_zero_iff.1 h
    simp [runsL]
  | n + 1, l, h => by
    rcases List.eq_nil_or_concat l with rfl | ⟨p, c, rfl⟩
    · simp at h
    · rw [List.concat_eq_append] at *
      obtain ⟨h1, h2⟩ := runs_mem n p (by simpa using h)
      rw [runsL_snoc]
      rcases List.eq_nil_or_concat p with rfl | ⟨q, y, rfl⟩
      · have e : stepR (runsL []) c = [(c, c)] := rfl
        rw [e]
        refine ⟨by simp, fun b => by simp; omega⟩
      · rw [List.concat_eq_append] at *
        obtain ⟨A, z, hA⟩ := step_last (runsL q) y
        rw [← runsL_snoc] at hA
        rw [hA] at h1 h2 ⊢
        have hz : z ≤ y := h1 (z, y) (by simp)
        by_cases hj : y + 1 = c
        · rw [step_join A z y c hj]
          refine ⟨fun x hx => ?_, fun b => ?_⟩
          · rcases List.mem_append.1 hx with hx | hx
            · exact h1 x (by simp [hx])
            · simp at hx; subst hx; simp only; omega
          · rw [List.mem_append, ← h2 b]
            constructor
            · rintro ⟨x, hx, hb⟩
              rcases List.mem_append.1 hx with hx | hx
              · exact .inl ⟨x, by simp [hx], hb⟩
              · simp at hx; subst hx; simp only at hb
                by_cases hbc : b = c
                · exact .inr (by simp [hbc])
                · exact .inl ⟨(z, y), by simp, by simp only; omega, by simp only; omega⟩
            · rintro (⟨x, hx, hb⟩ | hb)
              · rcases List.mem_append.1 hx with hx | hx
                · exact ⟨x, by simp [hx], hb⟩
                · simp at hx; subst hx; simp only at hb
                  exact ⟨(z, c), by simp, by simp only; omega, by simp only; omega⟩
              · simp at hb; subst hb
                exact ⟨(z, b), by simp, by simp only; omega, by simp only; omega⟩
        · rw [step_new A z y c hj]
          refine ⟨fun x hx => ?_, fun b => ?_⟩
          · rcases List.mem_append.1 hx with hx | hx
            · exact h1 x hx
            · simp at hx; subst hx; simp
          · rw [List.mem_append, ← h2 b]
            constructor
            · rintro ⟨x, hx, hb⟩
              rcases List.mem_append.1 hx with hx | hx
              · exact .inl ⟨x, hx, hb⟩
              · simp at hx; subst hx; simp only at hb
                exact .inr (by simp; omega)
            · rintro (⟨x, hx, hb⟩ | hb)
              · exact ⟨x, by simp at hx ⊢; rcases hx with hx | hx <;> simp [hx], hb⟩
              · simp at hb; subst hb
                exact ⟨(b, b), by simp, by simp, by simp⟩
theorem runs_cover (s : CSet) (b : Nat) (hb : b < 256) : (∃ x ∈ runsS s, x.1 ≤ b ∧ b ≤ x.2) ↔ hasB s b = true := by
  rw [runsS, (runs_mem _ _ rfl).2 b, itemsTo, List.mem_filter, List.mem_range]
  exact ⟨fun h => h.2, fun h => ⟨hb, h⟩⟩
theorem text_no94 : ∀ n : Fin 256, (textB n.1).head? ≠ some 94 := by decide +kernel
theorem items_no94 (L : List Pr) (hL : ∀ x ∈ L, x.1 ≤ x.2 ∧ x.2 < 256) (r : List UInt8) : headB (itemsT L ++ [93] ++ r) 94 = false := by
  cases L with
  | nil => simp [itemsT, headB]
  | cons x L =>
    obtain ⟨h1, h2⟩ := hL x (by simp)
    have hh := text_no94 ⟨x.1, by omega⟩
    have hl := (text_head ⟨x.1, by omega⟩).2.2
    simp only at hh hl
    have e : itemsT (x :: L) ++ [93] ++ r = textB x.1 ++ ((if 1 < x.2 - x.1 then [45] else []) ++ (if x.2 ≠ x.1 then textB x.2 else []) ++ itemsT L ++ [93] ++ r) := by simp [itemsT, itemT]
    rw [e]
    unfold headB
    cases ht : textB x.1 with
    | nil => rw [ht] at hl; simp at hl
    | cons c q => rw [ht] at hh; simpa using hh
theorem prefix_back (s : CSet) (r : List UInt8) : prefixV (printV s ++ r) = (s, (printV s).length, 0) := by
  unfold printV
  split
  · have e : [91, 94] ++ itemsT (runsS (~~~s)) ++ [93] ++ r = ([91, 94] : List UInt8) ++ itemsT (runsS (~~~s)) ++ [93] ++ r := rfl
    obtain ⟨s', q1, q2⟩ := pref_items true r (runsS (~~~s)) [91, 94] (([91, 94] ++ itemsT (runsS (~~~s)) ++ [93] ++ r).length + 1) 0#256 (runs_ok _) (by simp; omega)
    have hs : ~~~s' = s := by
      refine set_ext fun b hb => ?_
      have h1 := q2 b hb
      rw [runs_cover _ b hb, hasB_not _ _ hb] at h1
      rw [hasB_not _ _ hb]
      have h0 : hasB (0#256) b = false := by simp [hasB]
      rw [h0] at h1
      cases h2 : hasB s' b <;> cases h3 : hasB s b <;> simp_all
    unfold prefixV
    rw [if_neg (by simp [headB])]
    have ht : headB (([91, 94] ++ itemsT (runsS (~~~s)) ++ [93] ++ r : List UInt8).tail) 94 = true := by simp [headB]
    rw [ht, if_pos rfl]
    rw [show ([91, 94] : List UInt8).length = 2 from rfl] at q1
    rw [q1, if_pos rfl, hs]
    simp
  · obtain ⟨s', q1, q2⟩ := pref_items false r (runsS s) [91] (([91] ++ itemsT (runsS s) ++ [93] ++ r).length + 1) 0#256 (runs_ok _) (by simp; omega)
    have hs : s' = s := by
      refine set_ext fun b hb => ?_
      have h1 := q2 b hb
      rw [runs_cover _ b hb] at h1
      have h0 : hasB (0#256) b = false := by simp [hasB]
      rw [h0] at h1
      cases h2 : hasB s' b <;> cases h3 : hasB s b <;> simp_all
    unfold prefixV
    rw [if_neg (by simp [headB])]
    have ht : headB (([91] ++ itemsT (runsS s) ++ [93] ++ r : List UInt8).tail) 94 = false := items_no94 _ (runs_ok _) r
    rw [ht, if_neg (by decide)]
    rw [show ([91] : List UInt8).length = 1 from rfl] at q1
    rw [q1, if_neg (by decide), hs]
    simp
theorem parse_back (s : CSet) : parseV (printV s) = (s, 0, 0) := by
  have h := prefix_back s []
  rw [List.append_nil] at h
  unfold parseV
  rw [h, if_neg (by simp), if_neg (by simp)]
end Go.Proofs.YtooiegejchcbhaaDoor
