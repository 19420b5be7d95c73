/- Layer 17: a line with another class; the positions before a place. -/
import Derived.Test.YtghdgenlkbocmaaLTyped
import Derived.Test.YtghdgenlkbocmaaLMoreL
namespace Go.Proofs.Ytghdgenlkbocmaa
open Go.RowKit

theorem infoCl : (Try.prog.info? 50).map (fun i => (i.zero, i.size, i.bytes)) = some (some (.agg #[.int .u64 0, .int .u64 0, .int .u64 0, .int .u64 0]), 4, 32) := by kernel_rfl
theorem infoLine : (Try.prog.info? 47).map (fun i => (i.zero, i.size, i.bytes)) = some (some (.slice none 0 0), 1, 24) := by kernel_rfl
theorem infoLines : (Try.prog.info? 46).map (fun i => (i.zero, i.size, i.bytes)) = some (some (.slice none 0 0), 1, 24) := by kernel_rfl

theorem ccells_set : ∀ (l : List CSet) (m : Nat) (s : CSet), m < l.length →
    ((((ccells l).set (m * 4) (.int .u64 (word s 0 : Int))).set (m * 4 + 1) (.int .u64 (word s 1 : Int))).set (m * 4 + 2) (.int .u64 (word s 2 : Int))).set (m * 4 + 3) (.int .u64 (word s 3 : Int)) = ccells (l.set m s)
  | x :: t, 0, s, _ => rfl
  | x :: t, m + 1, s, h => by
    have := ccells_set t m s (by simpa using h)
    simp only [ccells, List.set_cons_succ, ← this, show (m + 1) * 4 = m * 4 + 1 + 1 + 1 + 1 by omega]
def put4 (w : World) (g o : Nat) (s : CSet) : World :=
  (((w.setCell ⟨g, o, none⟩ (.int .u64 (word s 0 : Int))).setCell ⟨g, o + 1, none⟩ (.int .u64 (word s 1 : Int))).setCell ⟨g, o + 2, none⟩ (.int .u64 (word s 2 : Int))).setCell ⟨g, o + 3, none⟩ (.int .u64 (word s 3 : Int))
theorem below_put4 {N g : Nat} {a w : World} (h : Below N a w) (hN : N ≤ g) (o : Nat) (s : CSet) : Below N a (put4 w g o s) :=
  (((h.setCell (p := ⟨g, o, none⟩) hN _).setCell (p := ⟨g, o + 1, none⟩) hN _).setCell (p := ⟨g, o + 2, none⟩) hN _).setCell (p := ⟨g, o + 3, none⟩) hN _
/-- a line that the call owns: its cells, and what a store of a class makes of it -/
theorem TLine.put {w : World} {base : Nat} {v : Value} {l : List CSet} (h : TLine w base v l) {m : Nat} (hm : m < l.length) :
    ∃ g cap, v = .slice (some ⟨g, 0, none⟩) l.length cap ∧ base ≤ g ∧ g < w.heap.size ∧ (w.cell? ⟨g, m * 4, none⟩ = some (.int .u64 (word l[m] 0 : Int)) ∧ w.cell? ⟨g, m * 4 + 1, none⟩ = some (.int .u64 (word l[m] 1 : Int)) ∧ w.cell? ⟨g, m * 4 + 2, none⟩ = some (.int .u64 (word l[m] 2 : Int)) ∧ w.cell? ⟨g, m * 4 + 3, none⟩ = some (.int .u64 (word l[m] 3 : Int))) ∧
      (w.frozen? ⟨g, m * 4, none⟩ = false ∧ w.frozen? ⟨g, m * 4 + 1, none⟩ = false ∧ w.frozen? ⟨g, m * 4 + 2, none⟩ = false ∧ w.frozen? ⟨g, m * 4 + 3, none⟩ = false) ∧ ∀ s, TLine (put4 w g (m * 4) s) base v (l.set m s) := by
  obtain ⟨h1, h2⟩ := h
  rcases h2 with ⟨_, h0⟩ | ⟨g, cap, cur, rfl, hg, hh, hn, hmx, hs, hx⟩
  · omega
  · obtain ⟨e0, e1, e2, e3⟩ := ccells_at l m hm
    have hlen : (ccells l).length = l.length * 4 := length_ccells l
    have hc : ∀ j, j < l.length * 4 → cur[j]? = (ccells l)[j]? := fun j hj => by
      rw [← hx, List.getElem?_take_of_lt hj, Array.getElem?_toList]
    have hj : ∀ r, r < 4 → m * 4 + r < l.length * 4 := fun r hr => by omega
    refine ⟨g, cap, rfl, hg, (Array.getElem?_eq_some_iff.1 hh).1, ?_, ?_, fun s => ?_⟩
    · have c0 := (hc (m * 4) (hj 0 (by omega))).trans e0
      have c1 := (hc (m * 4 + 1) (hj 1 (by omega))).trans e1
      have c2 := (hc (m * 4 + 2) (hj 2 (by omega))).trans e2
      have c3 := (hc (m * 4 + 3) (hj 3 (by omega))).trans e3
      simp [World.cell?, hh, c0, c1, c2, c3]
    · simp [World.frozen?, hh]
    · have hput := heap_setCell_at (.int .u64 (word s 3 : Int)) (o := m * 4 + 3) (heap_setCell_at (.int .u64 (word s 2 : Int)) (o := m * 4 + 2) (heap_setCell_at (.int .u64 (word s 1 : Int)) (o := m * 4 + 1) (heap_setCell_at (.int .u64 (word s 0 : Int)) (o := m * 4) hh)))
      refine ⟨by rw [length_ccells, List.length_set], .inr ⟨g, cap, _, by rw [List.length_set], hg, hput, by rw [List.length_set]; exact hn, hmx, by simpa using hs, ?_⟩⟩
      rw [List.length_set, ← ccells_set l m s hm, ← hx]
      simp only [Array.toList_setIfInBounds]
      simp only [List.take_set]

/-- the positions before a place, counted up to line y of rule x -/
def nAt (R : List (List (List CSet))) (i k x y : Nat) : Nat :=
  if x < i ∨ (x = i ∧ y ≤ k) then (R.take x).flatten.flatten.length + ((R.getD x []).take y).flatten.length else (R.take i).flatten.flatten.length + ((R.getD i []).take k).flatten.length
theorem nAt_add {R : List (List (List CSet))} {i k x y : Nat} (hx : x < R.length) (hy : y < R[x].length) (h : x < i ∨ (x = i ∧ y < k)) : nAt R i k x (y + 1) = nAt R i k x y + R[x][y].length := by
  unfold nAt
  rw [if_pos (by omega), if_pos (by omega), getD_at hx, pre_step2 hy]
  omega
theorem nAt_stay {R : List (List (List CSet))} {i k x y : Nat} (h : ¬ (x < i ∨ (x = i ∧ y < k))) : nAt R i k x (y + 1) = nAt R i k x y := by
  unfold nAt
  rw [if_neg (by omega)]
  by_cases e : x = i ∧ y ≤ k
  · obtain ⟨rfl, e2⟩ := e
    obtain rfl : y = k := by omega
    rw [if_pos (.inr ⟨rfl, Nat.le_refl _⟩)]
  · rw [if_neg (by omega)]
theorem nAt_next {R : List (List (List CSet))} {i k x : Nat} (hx : x < R.length) (hi : i < R.length) (hk : k < R[i].length) : nAt R i k (x + 1) 0 = nAt R i k x R[x].length := by
  unfold nAt
  by_cases h : x < i
  · rw [if_pos (by omega), if_pos (.inl h), getD_at hx, List.take_length, (pre_step hx).1]
    simp
  · rw [if_neg (by omega), if_neg]
    rintro (h1 | ⟨rfl, h1⟩)
    · omega
    · omega
theorem nAt_zero (R : List (List (List CSet))) (i k : Nat) : nAt R i k 0 0 = 0 := by
  unfold nAt
  rw [if_pos (by omega)]
  simp
theorem nAt_end {R : List (List (List CSet))} {i k : Nat} (hi : i < R.length) : nAt R i k R.length 0 = (R.take i).flatten.flatten.length + ((R.getD i []).take k).flatten.length := by
  unfold nAt
  rw [if_neg (by omega)]
theorem nAt_le {R : List (List (List CSet))} {i k x y : Nat} (hx : x < R.length) (hi : i < R.length) : nAt R i k x y ≤ R.flatten.flatten.length := by
  have key : ∀ (x y : Nat) (hx : x < R.length), (R.take x).flatten.flatten.length + ((R.getD x []).take y).flatten.length ≤ R.flatten.flatten.length := fun x y hx => by
    have h1 := pre_le (R := R) (i := x + 1)
    rw [(pre_step hx).1] at h1
    rw [getD_at hx]
    have h2 : (R[x].take y).flatten.length ≤ R[x].flatten.length := by
      conv => rhs; rw [← List.take_append_drop y R[x]]
      rw [List.flatten_append, List.length_append]
      omega
    omega
  unfold nAt
  split
  · exact key x y hx
  · exact key i k hi
end Go.Proofs.Ytghdgenlkbocmaa
