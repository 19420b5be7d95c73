/- A slice that reads as cells. -/
import Derived.Test.YtfmngphmmhjicaaMem
namespace Go.Proofs.Ytfmngphmmhjicaa
open Go.RowKit

/-- The slice value v has n elements of 'size' cells each, which read xs. -/
def Row (w : World) (size : Nat) (v : Value) (n : Nat) (xs : List Value) : Prop :=
  xs.length = n * size ∧ n ≤ maxLen ∧ ∃ a cap, v = .slice a n cap ∧ (n = 0 ∨ ∃ g o, a = some ⟨g, o, none⟩ ∧ ∀ j, j < n * size → w.cell? ⟨g, o + j, none⟩ = xs[j]?)

theorem Row.of_owns {w : World} {base : Nat} {e : TypeId} {size : Nat} {v : Value} {n : Nat} {xs : List Value} (h : w.ownsRow base e size v n xs) : Row w size v n xs := by
  obtain ⟨h1, h2⟩ := h
  rcases h2 with ⟨rfl, rfl⟩ | ⟨g, cap, cur, rfl, _, hg, hn, hc, hs, rfl⟩
  · exact ⟨h1, Nat.zero_le _, none, 0, rfl, .inl rfl⟩
  · refine ⟨h1, Nat.le_trans hn hc, _, cap, rfl, .inr ⟨g, 0, rfl, fun j hj => ?_⟩⟩
    simp only [World.cell?, hg, Option.isSome_none, Bool.false_eq_true, if_false, Nat.zero_add]
    rw [List.getElem?_take_of_lt hj, Array.getElem?_toList]

theorem Row.below {w w' : World} {size : Nat} {v : Value} {n : Nat} {xs : List Value} (h : Row w size v n xs) (hb : Below w.heap.size w w') : Row w' size v n xs := by
  obtain ⟨h1, h2, a, cap, rfl, h3⟩ := h
  refine ⟨h1, h2, a, cap, rfl, ?_⟩
  rcases h3 with h3 | ⟨g, o, rfl, hc⟩
  · exact .inl h3
  · refine .inr ⟨g, o, rfl, fun j hj => ?_⟩
    have e := hc j hj
    have hlt : g < w.heap.size := by
      rw [List.getElem?_eq_getElem (by omega)] at e
      exact World.block_lt_of_cell? w _ e
    exact (hb.cell (p := ⟨g, o + j, none⟩) hlt).trans e

theorem Row.lit (W : World) (t : TypeId) (size n : Nat) (cs : List Value) (hl : cs.length = n * size) (hm : n ≤ maxLen) :
    Row (W.alloc (.cells cs.toArray t)) size (.slice (some ⟨W.heap.size, 0, none⟩) n n) n cs :=
  ⟨hl, hm, _, n, rfl, .inr ⟨_, _, rfl, fun j hj => by
    simp only [World.cell?, heap_alloc_new, Option.isSome_none, Bool.false_eq_true, if_false, Nat.zero_add, List.getElem?_toArray]⟩⟩

theorem next {w w1 w2 : World} (h1 : Below w.heap.size w w1) (h2 : Below w1.heap.size w1 w2) : Below w.heap.size w w2 := h1.trans (h2.mono h1.size)

theorem Row.len {w : World} {size : Nat} {v : Value} {n : Nat} {xs : List Value} (h : Row w size v n xs) : xs.length = n * size := h.1

end Go.Proofs.Ytfmngphmmhjicaa
