/- Lanes, lines of classes, rules of lines: how they lie in memory. -/
import Derived.Test.YtghdgenlkbocmaaProg
import Derived.Test.YtghdgenlkbocmaaMem
import Derived.Test.YtghdgenlkbocmaaRow
import Derived.Test.YtghdgenlkbocmaaSet
namespace Go.Proofs.Ytghdgenlkbocmaa
open Go.RowKit

/-- a lane: its rule, its first position, its length -/
abbrev Ln := Int × Int × Int
def lcells : List Ln → List Value
  | [] => []
  | x :: t => .int .i64 x.1 :: .int .i64 x.2.1 :: .int .i64 x.2.2 :: lcells t
theorem length_lcells : ∀ l : List Ln, (lcells l).length = l.length * 3
  | [] => rfl
  | x :: t => by simp only [lcells, List.length_cons, length_lcells t]; omega
theorem lcells_append : ∀ a b : List Ln, lcells (a ++ b) = lcells a ++ lcells b
  | [], _ => rfl
  | x :: t, b => by simp only [lcells, List.cons_append, lcells_append t b]
theorem lcells_at : ∀ (l : List Ln) (i : Nat) (h : i < l.length), (lcells l)[i * 3]? = some (.int .i64 l[i].1) ∧ (lcells l)[i * 3 + 1]? = some (.int .i64 l[i].2.1) ∧ (lcells l)[i * 3 + 2]? = some (.int .i64 l[i].2.2)
  | x :: t, 0, _ => ⟨rfl, rfl, rfl⟩
  | x :: t, i + 1, h => by
    have := lcells_at t i (by simpa using h)
    simpa [lcells, Nat.add_mul] using this
theorem lcells_one : ∀ l : List Ln, ∀ v ∈ lcells l, v.oneCell' = true
  | [], _, h => by simp [lcells] at h
  | x :: t, v, h => by
    simp only [lcells, List.mem_cons] at h
    rcases h with rfl | rfl | rfl | h
    · rfl
    · rfl
    · rfl
    · exact lcells_one t v h

/-- cells of a slice value that reads as cells -/
theorem Row.cellAt {w : World} {size n : Nat} {v : Value} {xs : List Value} (h : Row w size v n xs) {i : Nat} (hi : i < n) (hs : 0 < size) :
    ∃ g o cap, v = .slice (some ⟨g, o, none⟩) n cap ∧ g < w.heap.size ∧ ∀ j, j < size → w.cell? ⟨g, o + i * size + j, none⟩ = xs[i * size + j]? := by
  obtain ⟨h1, _, a, cap, rfl, _, h2⟩ := h
  rcases h2 with h0 | ⟨g, o, rfl, hc⟩
  · omega
  · have hm : ∀ j, j < size → i * size + j < n * size := fun j hj => by
      have : (i + 1) * size ≤ n * size := Nat.mul_le_mul_right _ hi
      rw [Nat.add_mul] at this; omega
    have e0 := hc (i * size + 0) (hm 0 hs)
    have hx : (xs[i * size + 0]?) = some (xs[i * size + 0]'(by rw [h1]; exact hm 0 hs)) := List.getElem?_eq_getElem _
    refine ⟨g, o, cap, rfl, World.block_lt_of_cell? w _ (e0.trans hx), fun j hj => ?_⟩
    rw [Nat.add_assoc]
    exact hc _ (hm j hj)
theorem Row.form {w : World} {size n : Nat} {v : Value} {xs : List Value} (h : Row w size v n xs) : ∃ a cap, v = .slice a n cap := by
  obtain ⟨_, _, a, cap, e, _⟩ := h
  exact ⟨a, cap, e⟩
theorem Row.max {w : World} {size n : Nat} {v : Value} {xs : List Value} (h : Row w size v n xs) : n ≤ 9223372036854775807 := h.2.1

/-- the slice value v reads as a list of lanes -/
def Lanes (w : World) (v : Value) (l : List Ln) : Prop := Row w 3 v l.length (lcells l)
theorem Lanes.below {w w' : World} {v : Value} {l : List Ln} (h : Lanes w v l) (hb : Below w.heap.size w w') : Lanes w' v l := Row.below h hb
theorem Lanes.nil (w : World) : Lanes w (.slice none 0 0) [] := ⟨rfl, by simp, none, 0, rfl, fun _ => rfl, .inl rfl⟩
theorem Lanes.form {w : World} {v : Value} {l : List Ln} (h : Lanes w v l) : ∃ a cap, v = .slice a l.length cap := Row.form h
theorem Lanes.at {w : World} {a : Option Addr} {n cap : Nat} {l : List Ln} (h : Lanes w (.slice a n cap) l) {i : Nat} (hi : i < l.length) :
    ∃ g o, a = some ⟨g, o, none⟩ ∧ g < w.heap.size ∧ w.cell? ⟨g, o + i * 3, none⟩ = some (.int .i64 l[i].1) ∧ w.cell? ⟨g, o + i * 3 + 1, none⟩ = some (.int .i64 l[i].2.1) ∧ w.cell? ⟨g, o + i * 3 + 2, none⟩ = some (.int .i64 l[i].2.2) := by
  obtain ⟨g, o, cap', e, hg, hc⟩ := Row.cellAt h hi (by omega)
  cases e
  obtain ⟨e0, e1, e2⟩ := lcells_at l i hi
  exact ⟨g, o, rfl, hg, (hc 0 (by omega)).trans e0, (hc 1 (by omega)).trans e1, (hc 2 (by omega)).trans e2⟩

/-- the cells of classes -/
def ccells : List CSet → List Value
  | [] => []
  | s :: t => .int .u64 (word s 0 : Int) :: .int .u64 (word s 1 : Int) :: .int .u64 (word s 2 : Int) :: .int .u64 (word s 3 : Int) :: ccells t
theorem length_ccells : ∀ l : List CSet, (ccells l).length = l.length * 4
  | [] => rfl
  | x :: t => by simp only [ccells, List.length_cons, length_ccells t]; omega
theorem ccells_append : ∀ a b : List CSet, ccells (a ++ b) = ccells a ++ ccells b
  | [], _ => rfl
  | x :: t, b => by simp only [ccells, List.cons_append, ccells_append t b]
theorem ccells_at : ∀ (l : List CSet) (i : Nat) (h : i < l.length), (ccells l)[i * 4]? = some (.int .u64 (word l[i] 0 : Int)) ∧ (ccells l)[i * 4 + 1]? = some (.int .u64 (word l[i] 1 : Int)) ∧ (ccells l)[i * 4 + 2]? = some (.int .u64 (word l[i] 2 : Int)) ∧ (ccells l)[i * 4 + 3]? = some (.int .u64 (word l[i] 3 : Int))
  | x :: t, 0, _ => ⟨rfl, rfl, rfl, rfl⟩
  | x :: t, i + 1, h => by
    have := ccells_at t i (by simpa using h)
    simpa [ccells, Nat.add_mul] using this
theorem ccells_one : ∀ l : List CSet, ∀ v ∈ ccells l, v.oneCell' = true
  | [], _, h => by simp [ccells] at h
  | x :: t, v, h => by
    simp only [ccells, List.mem_cons] at h
    rcases h with rfl | rfl | rfl | rfl | h
    · rfl
    · rfl
    · rfl
    · rfl
    · exact ccells_one t v h

/-- the slice value v reads as a line of classes -/
def Line (w : World) (v : Value) (l : List CSet) : Prop := Row w 4 v l.length (ccells l)
theorem Line.below {w w' : World} {v : Value} {l : List CSet} (h : Line w v l) (hb : Below w.heap.size w w') : Line w' v l := Row.below h hb
theorem Line.form {w : World} {v : Value} {l : List CSet} (h : Line w v l) : ∃ a cap, v = .slice a l.length cap := Row.form h
theorem Line.at {w : World} {a : Option Addr} {n cap : Nat} {l : List CSet} (h : Line w (.slice a n cap) l) {i : Nat} (hi : i < l.length) :
    ∃ g o, a = some ⟨g, o, none⟩ ∧ g < w.heap.size ∧ w.cell? ⟨g, o + i * 4, none⟩ = some (.int .u64 (word l[i] 0 : Int)) ∧ w.cell? ⟨g, o + i * 4 + 1, none⟩ = some (.int .u64 (word l[i] 1 : Int)) ∧
      w.cell? ⟨g, o + i * 4 + 2, none⟩ = some (.int .u64 (word l[i] 2 : Int)) ∧ w.cell? ⟨g, o + i * 4 + 3, none⟩ = some (.int .u64 (word l[i] 3 : Int)) := by
  obtain ⟨g, o, cap', e, hg, hc⟩ := Row.cellAt h hi (by omega)
  cases e
  obtain ⟨e0, e1, e2, e3⟩ := ccells_at l i hi
  exact ⟨g, o, rfl, hg, (hc 0 (by omega)).trans e0, (hc 1 (by omega)).trans e1, (hc 2 (by omega)).trans e2, (hc 3 (by omega)).trans e3⟩

/-- the slice value v reads as lines -/
def Lines (w : World) (v : Value) (L : List (List CSet)) : Prop :=
  ∃ hs : List Value, Row w 1 v L.length hs ∧ ∀ (i : Nat) (h : i < L.length), ∃ u, hs[i]? = some u ∧ Line w u L[i]
theorem Lines.below {w w' : World} {v : Value} {L : List (List CSet)} (h : Lines w v L) (hb : Below w.heap.size w w') : Lines w' v L := by
  obtain ⟨hs, h1, h2⟩ := h
  exact ⟨hs, h1.below hb, fun i hi => by obtain ⟨u, e, hu⟩ := h2 i hi; exact ⟨u, e, hu.below hb⟩⟩
theorem Lines.form {w : World} {v : Value} {L : List (List CSet)} (h : Lines w v L) : ∃ a cap, v = .slice a L.length cap := by
  obtain ⟨hs, h1, _⟩ := h
  exact h1.form
theorem Lines.max {w : World} {v : Value} {L : List (List CSet)} (h : Lines w v L) : L.length ≤ 9223372036854775807 := by
  obtain ⟨hs, h1, _⟩ := h
  exact h1.max
theorem Lines.at {w : World} {a : Option Addr} {n cap : Nat} {L : List (List CSet)} (h : Lines w (.slice a n cap) L) {i : Nat} (hi : i < L.length) :
    ∃ g o b c, a = some ⟨g, o, none⟩ ∧ g < w.heap.size ∧ w.cell? ⟨g, o + i, none⟩ = some (.slice b L[i].length c) ∧ Line w (.slice b L[i].length c) L[i] := by
  obtain ⟨hs, h1, h2⟩ := h
  obtain ⟨g, o, cap', e, hg, hc⟩ := Row.cellAt h1 hi (by omega)
  cases e
  obtain ⟨u, eu, hu⟩ := h2 i hi
  obtain ⟨b, c, rfl⟩ := hu.form
  have := hc 0 (by omega)
  rw [Nat.mul_one, Nat.add_zero, Nat.add_zero, eu] at this
  exact ⟨g, o, b, c, rfl, hg, this, hu⟩

/-- the slice value v reads as rules -/
def Rules3 (w : World) (v : Value) (R : List (List (List CSet))) : Prop :=
  ∃ hs : List Value, Row w 1 v R.length hs ∧ ∀ (i : Nat) (h : i < R.length), ∃ u, hs[i]? = some u ∧ Lines w u R[i]
theorem Rules3.below {w w' : World} {v : Value} {R : List (List (List CSet))} (h : Rules3 w v R) (hb : Below w.heap.size w w') : Rules3 w' v R := by
  obtain ⟨hs, h1, h2⟩ := h
  exact ⟨hs, h1.below hb, fun i hi => by obtain ⟨u, e, hu⟩ := h2 i hi; exact ⟨u, e, hu.below hb⟩⟩
theorem Rules3.form {w : World} {v : Value} {R : List (List (List CSet))} (h : Rules3 w v R) : ∃ a cap, v = .slice a R.length cap := by
  obtain ⟨hs, h1, _⟩ := h
  exact h1.form
theorem Rules3.max {w : World} {v : Value} {R : List (List (List CSet))} (h : Rules3 w v R) : R.length ≤ 9223372036854775807 := by
  obtain ⟨hs, h1, _⟩ := h
  exact h1.max
theorem Rules3.at {w : World} {a : Option Addr} {n cap : Nat} {R : List (List (List CSet))} (h : Rules3 w (.slice a n cap) R) {i : Nat} (hi : i < R.length) :
    ∃ g o b c, a = some ⟨g, o, none⟩ ∧ g < w.heap.size ∧ w.cell? ⟨g, o + i, none⟩ = some (.slice b R[i].length c) ∧ Lines w (.slice b R[i].length c) R[i] := by
  obtain ⟨hs, h1, h2⟩ := h
  obtain ⟨g, o, cap', e, hg, hc⟩ := Row.cellAt h1 hi (by omega)
  cases e
  obtain ⟨u, eu, hu⟩ := h2 i hi
  obtain ⟨b, c, rfl⟩ := hu.form
  have := hc 0 (by omega)
  rw [Nat.mul_one, Nat.add_zero, Nat.add_zero, eu] at this
  exact ⟨g, o, b, c, rfl, hg, this, hu⟩
end Go.Proofs.Ytghdgenlkbocmaa
