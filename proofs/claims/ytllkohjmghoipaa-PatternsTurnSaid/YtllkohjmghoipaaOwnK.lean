/- Rows of structs that the call owns, in the sort's words. -/
import Derived.Test.YtllkohjmghoipaaRow
import Derived.Shelf.GgSortFunc.RowK
import Derived.Lib.OwnBridge
namespace Go.Proofs.Ytllkohjmghoipaa
open Go.RowKit Go.Sort Go.Lib

variable {α : Type}

theorem fmap_len {enc : α → List Value} {k : Nat} (hk : ∀ x, (enc x).length = k) : ∀ l : List α, (l.flatMap enc).length = l.length * k
  | [] => by simp
  | x :: l => by rw [List.flatMap_cons, List.length_append, fmap_len hk l, hk, List.length_cons, Nat.add_mul]; omega
theorem fmap_at {enc : α → List Value} {k : Nat} (hk : ∀ x, (enc x).length = k) : ∀ (l : List α) (i c : Nat) (h : i < l.length), c < k → (l.flatMap enc)[i * k + c]? = (enc l[i])[c]?
  | x :: l, 0, c, _, hc => by
    rw [List.flatMap_cons, Nat.zero_mul, Nat.zero_add, List.getElem?_append_left (by rw [hk]; exact hc)]; rfl
  | x :: l, i + 1, c, h, hc => by
    have e : (i + 1) * k + c = (enc x).length + (i * k + c) := by rw [hk, Nat.add_mul, Nat.one_mul]; omega
    rw [List.flatMap_cons, e, List.getElem?_append_right (Nat.le_add_right _ _), Nat.add_sub_cancel_left]
    exact fmap_at hk l i c (by simpa using h) hc
theorem flat_cell [Inhabited α] {enc : α → List Value} {k : Nat} (hk : ∀ x, (enc x).length = k) (l : List α) {t : Nat} (h : t < l.length * k) : (l.flatMap enc)[t]? = some (flatK enc k l.toArray)[t]! := by
  have k0 : 0 < k := by rcases Nat.eq_zero_or_pos k with rfl | h0; · simp at h
                        · exact h0
  have hi : t / k < l.length := Nat.div_lt_of_lt_mul (by rwa [Nat.mul_comm] at h)
  have hc : t % k < k := Nat.mod_lt _ k0
  have e : t = t / k * k + t % k := by rw [Nat.mul_comm]; exact (Nat.div_add_mod t k).symm
  rw [get_flatK enc k l.toArray t (by simpa using h)]
  conv => lhs; rw [e]
  rw [fmap_at hk l _ _ hi hc]
  have hh : t % k < (enc l[t / k]).length := by rw [hk]; exact hc
  rw [List.getElem?_eq_getElem hh]
  simp [getElem!_pos, hi, hh]
theorem holdsK_of_owns [Inhabited α] {enc : α → List Value} {k : Nat} (hk : ∀ x, (enc x).length = k) {w : World} {base : Nat} {e : TypeId} {g n cap : Nat} {l : List α}
    (h : w.ownsRow base e k (.slice (some ⟨g, 0, none⟩) n cap) n (l.flatMap enc)) : HoldsK enc k w g 0 l.toArray := by
  have hl := h.1
  rw [fmap_len hk] at hl
  rcases h.2 with ⟨e0, _⟩ | ⟨g', cap', cur, e0, hb, hg, hn, hm, hs, ht⟩
  · cases e0
  · injection e0 with e1 _ e3
    injection e1 with e1
    injection e1 with e1
    subst e1; subst e3
    intro j hj
    rw [size_flatK, List.size_toArray] at hj
    refine ⟨?_, by simp [World.frozen?, hg]⟩
    have hc := flat_cell hk l hj
    rw [← ht, List.getElem?_take, if_pos (by omega), Array.getElem?_toList] at hc
    simp only [World.cell?, hg, Nat.zero_add, Option.isSome_none, Bool.false_eq_true, if_false, id]
    exact hc
theorem owns_putRowK [Inhabited α] {enc : α → List Value} {k : Nat} (hk : ∀ x, (enc x).length = k) {w : World} {base : Nat} {e : TypeId} {g n cap q m : Nat} {xs : List Value} {ys : List α}
    (h : w.ownsRow base e k (.slice (some ⟨g, 0, none⟩) n cap) n xs) (hy : ys.length = n) (hm : m ≤ n) :
    (putRowK enc k (Sort.ahead w q) g 0 ys.toArray).ownsRow base e k (.slice (some ⟨g, 0, none⟩) m cap) m ((ys.take m).flatMap enc) := by
  rcases h.2 with ⟨e0, _⟩ | ⟨g', cap', cur, e0, hb, hg, hn, hmx, hs, ht⟩
  · cases e0
  · injection e0 with e1 _ e3
    injection e1 with e1
    injection e1 with e1
    subst e1; subst e3
    have hmk : m * k ≤ n * k := Nat.mul_le_mul_right _ hm
    have hnk : n * k ≤ cap * k := Nat.mul_le_mul_right _ hn
    have hlk : ((ys.take m).flatMap enc).length = m * k := by rw [fmap_len hk, List.length_take, Nat.min_eq_left (by omega)]
    refine ⟨hlk, .inr ⟨g, cap, putCells id 0 (flatK enc k ys.toArray) cur, rfl, hb, ?_, by omega, hmx, by simpa [putCells] using hs, ?_⟩⟩
    · simp [putRowK, putRow, mapBlock, Sort.ahead, Array.getElem?_modify, hg, onCells]
    · apply List.ext_getElem?
      intro j
      rw [List.getElem?_take, Array.getElem?_toList]
      by_cases hj : j < m * k
      · have hjc : j < cur.size := by omega
        simp only [if_pos hj, putCells, Array.getElem?_mapIdx, Array.getElem?_eq_getElem hjc, Option.map_some]
        rw [if_pos (by simp [hy]; omega)]
        have hc := flat_cell hk ys (t := j) (by rw [hy]; omega)
        have e2 : (ys.flatMap enc)[j]? = ((ys.take m).flatMap enc)[j]? := by
          conv => lhs; rw [← List.take_append_drop m ys, List.flatMap_append]
          rw [List.getElem?_append_left (by rw [hlk]; exact hj)]
        rw [← e2, hc]
        simp
      · rw [if_neg hj, List.getElem?_eq_none (by rw [hlk]; omega)]
theorem below_putRowK [Inhabited α] {enc : α → List Value} {k B : Nat} {w0 w : World} {g q : Nat} {d : Array α} (h : Below B w0 w) (hg : B ≤ g) : Below B w0 (putRowK enc k (Sort.ahead w q) g 0 d) := below_putRow h hg
end Go.Proofs.Ytllkohjmghoipaa
