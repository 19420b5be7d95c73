/- the runs of a set do not touch. -/
import Derived.Test.YtooiegejchcbhaaDoorKBackR
namespace Go.Proofs.YtooiegejchcbhaaDoor
open Go.RowKit

theorem runs_apart : ∀ (n : Nat) (l : List Nat), l.length = n → l.Pairwise (· < ·) → (runsL l).Pairwise (fun x y => x.2 + 1 < y.1)
  | 0, l, h, _ => by
    obtain rfl := List.length_eq_zero_iff.1 h
    simp [runsL]
  | n + 1, l, h, hp => by
    rcases List.eq_nil_or_concat l with rfl | ⟨p, c, rfl⟩
    · simp at h
    · rw [List.concat_eq_append] at *
      have hp1 := (List.pairwise_append.1 hp).1
      have ih := runs_apart n p (by simpa using h) hp1
      have h1 := (runs_mem _ p rfl).1
      rw [runsL_snoc]
      rcases List.eq_nil_or_concat p with rfl | ⟨q, y, rfl⟩
      · have e : stepR (runsL []) c = [(c, c)] := rfl
        rw [e]
        simp
      · rw [List.concat_eq_append] at *
        have hyc : y < c := (List.pairwise_append.1 hp).2.2 y (by simp) c (by simp)
        obtain ⟨A, z, hA⟩ := step_last (runsL q) y
        rw [← runsL_snoc] at hA
        rw [hA] at h1 ih ⊢
        have hz : z ≤ y := h1 (z, y) (by simp)
        obtain ⟨i1, i2, i3⟩ := List.pairwise_append.1 ih
        by_cases hj : y + 1 = c
        · rw [step_join A z y c hj]
          refine List.pairwise_append.2 ⟨i1, by simp, fun x hx w hw => ?_⟩
          simp at hw; subst hw
          exact i3 x hx (z, y) (by simp)
        · rw [step_new A z y c hj]
          refine List.pairwise_append.2 ⟨ih, by simp, fun x hx w hw => ?_⟩
          simp only [List.mem_singleton] at hw; subst hw
          rcases List.mem_append.1 hx with hx | hx
          · have := i3 x hx (z, y) (by simp)
            simp only at this ⊢; omega
          · simp only [List.mem_singleton] at hx; subst hx; simp only; omega
theorem runsS_apart (s : CSet) (i : Nat) (hi : i + 1 < (runsS s).length) : (runsS s)[i].2 + 1 < (runsS s)[i + 1].1 :=
  List.pairwise_iff_getElem.1 (show (runsS s).Pairwise _ from runs_apart _ _ rfl (items_sorted s 256)) i (i + 1) (by omega) hi (by omega)
end Go.Proofs.YtooiegejchcbhaaDoor
