/- Rows of truth values. -/
import Derived.Test.YtllkohjmghoipaaPaLenR
import Derived.Test.YtllkohjmghoipaaPaMat
namespace Go.Proofs.Ytllkohjmghoipaa
open Go.RowKit Go.Sort

/-- N truth values -/
def boolsOf (f : Nat → Bool) (N : Nat) : List Value := (List.range N).map fun m => Value.bool (f m)
/-- block g holds N truth values -/
def BRow (w : World) (g N : Nat) (f : Nat → Bool) : Prop := w.heap[g]? = some (.cells (boolsOf f N).toArray 4)
section
variable {w : World} {g N : Nat} {f : Nat → Bool}
theorem boolsOf_at {m : Nat} (hm : m < N) : (boolsOf f N)[m]? = some (.bool (f m)) := by
  unfold boolsOf
  rw [List.getElem?_map, List.getElem?_range hm]
  rfl
theorem BRow.lt (h : BRow w g N f) : g < w.heap.size := (Array.getElem?_eq_some_iff.1 h).1
theorem BRow.cell (h : BRow w g N f) {m : Nat} (hm : m < N) : w.cell? ⟨g, m, none⟩ = some (.bool (f m)) := cell_in h (by rw [List.getElem?_toArray]; exact boolsOf_at hm)
theorem BRow.free (h : BRow w g N f) (m : Nat) : w.frozen? ⟨g, m, none⟩ = false := free_in h
theorem BRow.keep {w' : World} (h : BRow w g N f) (hk : w'.heap[g]? = w.heap[g]?) : BRow w' g N f := hk.trans h
theorem BRow.below {w' : World} (h : BRow w g N f) (hb : Below w.heap.size w w') : BRow w' g N f := h.keep (hb.block g h.lt)
theorem BRow.congr (h : BRow w g N f) {f' : Nat → Bool} (e : ∀ m, m < N → f m = f' m) : BRow w g N f' := by
  unfold BRow at h ⊢
  rw [h]
  congr 3
  unfold boolsOf
  apply List.map_congr_left
  intro m hm
  rw [e m (List.mem_range.1 hm)]
theorem BRow.set (h : BRow w g N f) (m : Nat) : BRow (w.setCell ⟨g, m, none⟩ (.bool true)) g N (fun j => decide (j = m) || f j) := by
  unfold BRow at h ⊢
  rw [heap_setCell_at _ h]
  congr 2
  apply Array.ext'
  apply List.ext_getElem?
  intro j
  rw [Array.toList_setIfInBounds, List.toList_toArray, List.getElem?_set]
  by_cases hj : j < N
  · rw [boolsOf_at hj, boolsOf_at hj]
    by_cases e : m = j
    · subst e
      have : m < (boolsOf f N).length := by simp [boolsOf]; exact hj
      simp [this]
    · simp [e, Ne.symm e]
  · have e1 : (boolsOf f N)[j]? = none := by rw [List.getElem?_eq_none_iff]; simp [boolsOf]; omega
    have e2 : (boolsOf (fun j => decide (j = m) || f j) N)[j]? = none := by rw [List.getElem?_eq_none_iff]; simp [boolsOf]; omega
    rw [e1, e2]
    by_cases e : m = j
    · subst e
      have : ¬ m < (boolsOf f N).length := by simp [boolsOf]; omega
      simp [this]
    · simp [e]
theorem bools_made {w' : World} {base n g : Nat} (hn : 1 ≤ n) (hown : w'.ownsRow base 4 1 (.slice (some ⟨g, 0, none⟩) n n) n (madeCells #[.bool false] (n * 1)).toList) : BRow w' g n (fun _ => false) := by
  rw [Nat.mul_one, toList_madeCells_one] at hown
  rcases hown.2 with ⟨_, h0⟩ | ⟨g1, cap, cur, he, hgb, hg, _, _, hs, ht⟩
  · omega
  · injection he with e1 e2 e3
    injection e1 with e1
    injection e1 with e1
    subst e1
    subst e3
    unfold BRow
    rw [hg]
    congr 2
    apply Array.ext'
    rw [Nat.mul_one, List.take_of_length_le (by rw [Array.length_toList]; omega)] at ht
    rw [ht]
    apply List.ext_getElem?
    intro j
    by_cases hj : j < n
    · simp [boolsOf, hj]
    · simp [boolsOf, hj]
end
theorem infoB : (Try.prog.info? 4).map (fun i => (i.zero, i.size, i.bytes)) = some (some (.bool false), 1, 1) := by kernel_rfl
end Go.Proofs.Ytllkohjmghoipaa
