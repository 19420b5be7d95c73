/- Plain laws of Close and Open. -/
import Derived.Test.YtfgfjapjpiilfaaFoldL
namespace Go.Proofs.Ytfgfjapjpiilfaa
open Go.RowKit

theorem cl3 (s : CSet) : turnS (s ||| turnS s) = s ||| turnS s := by rw [turn_or, turn_turn, BitVec.or_comm]
theorem op3 (s : CSet) : turnS (s &&& turnS s) = s &&& turnS s := by rw [turn_and, turn_turn, BitVec.and_comm]
theorem cl1 (s : CSet) : (s ||| turnS s) ||| turnS (s ||| turnS s) = s ||| turnS s := (closed_iff _).2 (cl3 s)
theorem op1 (s : CSet) : (s &&& turnS s) &&& turnS (s &&& turnS s) = s &&& turnS s := by rw [op3, BitVec.and_self]
theorem sub5 (s : CSet) : s &&& ~~~(s ||| turnS s) = 0#256 := (subB_iff _ _).2 fun b _ h => by rw [hasB_or, h]; rfl
theorem sub6 (s : CSet) : (s &&& turnS s) &&& ~~~s = 0#256 := (subB_iff _ _).2 fun b _ h => by rw [hasB_and, Bool.and_eq_true] at h; exact h.1
theorem not7 (s : CSet) : ~~~s &&& turnS (~~~s) = ~~~(s ||| turnS s) := by
  rw [turn_not]
  apply set_ext; intro b hb
  rw [hasB_and, hasB_not _ _ hb, hasB_not _ _ hb, hasB_not _ _ hb, hasB_or, Bool.not_or]
theorem sub8 (s t : CSet) : (s ||| turnS s) &&& ~~~((s ||| t) ||| turnS (s ||| t)) = 0#256 := (subB_iff _ _).2 fun b _ h => by
  rw [turn_or, hasB_or, hasB_or, hasB_or]
  rw [hasB_or, Bool.or_eq_true] at h
  rcases h with h | h <;> simp [h]
theorem sub9 (s t : CSet) : (s &&& turnS s) &&& ~~~((s ||| t) &&& turnS (s ||| t)) = 0#256 := (subB_iff _ _).2 fun b _ h => by
  rw [turn_or, hasB_and, hasB_or, hasB_or]
  rw [hasB_and, Bool.and_eq_true] at h
  simp [h.1, h.2]
theorem sub10 {s t : CSet} (ht : turnS t = t) (h : s &&& ~~~t = 0#256) : (s ||| turnS s) &&& ~~~t = 0#256 := by
  have h2 := sub_turn h
  rw [ht] at h2
  rw [subB_iff] at h h2 ⊢
  intro b hb hs
  rw [hasB_or, Bool.or_eq_true] at hs
  rcases hs with hs | hs
  · exact h b hb hs
  · exact h2 b hb hs
theorem sub11 {s t : CSet} (ht : turnS t = t) (h : t &&& ~~~s = 0#256) : t &&& ~~~(s &&& turnS s) = 0#256 := by
  have h2 := sub_turn h
  rw [ht] at h2
  rw [subB_iff] at h h2 ⊢
  intro b hb hs
  rw [hasB_and, h b hb hs, h2 b hb hs]; rfl
theorem sub12 {C : CSet} (hC : turnS C = C) {n : Nat} (hn : n < 256) (h : hasB C n = true) : bothS n &&& ~~~C = 0#256 := by
  rw [subB_iff]
  intro b hb hs
  rw [both_cases hn] at hs
  split at hs
  · rw [hasB_or, hasB_bit _ _ hn, hasB_bit _ _ (let_xor ⟨n, hn⟩).2.1, Bool.or_eq_true, decide_eq_true_iff, decide_eq_true_iff] at hs
    rcases hs with rfl | hs
    · exact h
    · have e := hasB_turn C n hn
      rw [if_pos (by assumption), hC, h] at e
      rw [← hs]
      exact e.symm
  · rw [hasB_bit _ _ hn, decide_eq_true_iff] at hs
    subst hs
    exact h
theorem listS_has {C : CSet} {x : UInt8} (h : x ∈ listS C) : hasB C x.toNat = true := by
  unfold listS listTo at h
  obtain ⟨n, hn, rfl⟩ := List.mem_map.1 h
  obtain ⟨h1, h2⟩ := List.mem_filter.1 hn
  have : n < 256 := List.mem_range.1 h1
  rw [show (UInt8.ofNat n).toNat = n by simp; omega]
  exact h2
end Go.Proofs.Ytfgfjapjpiilfaa
