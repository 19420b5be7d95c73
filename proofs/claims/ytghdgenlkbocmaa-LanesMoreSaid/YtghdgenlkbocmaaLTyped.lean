/- Lines and rules that the call owns: each row in a block of its own type. -/
import Derived.Test.YtghdgenlkbocmaaLMem
import Derived.Test.YtghdgenlkbocmaaLPk
namespace Go.Proofs.Ytghdgenlkbocmaa
open Go.RowKit

theorem block_ne {w : World} {b1 b2 : Nat} {e1 e2 : TypeId} {s1 s2 n1 n2 : Nat} {v1 v2 : Value} {x1 x2 : List Value} (h1 : w.ownsRow b1 e1 s1 v1 n1 x1) (h2 : w.ownsRow b2 e2 s2 v2 n2 x2) (he : e1 ≠ e2) : v1.ownBlock = none ∨ v1.ownBlock ≠ v2.ownBlock := by
  rcases h1.2 with ⟨rfl, _⟩ | ⟨g1, c1, cur1, rfl, _, hh1, _⟩
  · exact .inl rfl
  · right
    rcases h2.2 with ⟨rfl, _⟩ | ⟨g2, c2, cur2, rfl, _, hh2, _⟩
    · simp [Value.ownBlock]
    · intro e
      simp only [Value.ownBlock, Option.some.injEq] at e
      subst e
      rw [hh1] at hh2
      simp only [Option.some.injEq, Obj.cells.injEq] at hh2
      exact he hh2.2.1

def TLine (w : World) (base : Nat) (v : Value) (l : List CSet) : Prop := w.ownsRow base 50 4 v l.length (ccells l)
theorem TLine.below {w w' : World} {base : Nat} {v : Value} {l : List CSet} (h : TLine w base v l) (hb : Below w.heap.size w w') : TLine w' base v l := ownsRow_below h hb
theorem TLine.line {w : World} {base : Nat} {v : Value} {l : List CSet} (h : TLine w base v l) : Line w v l := Row.of_owns h
theorem TLine.mono {w : World} {base base' : Nat} {v : Value} {l : List CSet} (h : TLine w base v l) (hb : base' ≤ base) : TLine w base' v l := ownsRow_base h hb

/-- lines: their headers, and each of them -/
def TLines (w : World) (base : Nat) (v : Value) (L : List (List CSet)) : Prop :=
  ∃ hs : List Value, w.ownsRow base 47 1 v L.length hs ∧ ∀ (j : Nat) (h : j < L.length), ∃ u, hs[j]? = some u ∧ TLine w base u L[j]
theorem TLines.nil (w : World) (base : Nat) : TLines w base (.slice none 0 0) [] := ⟨[], World.ownsRow_nil _ _ _ _, fun j h => by simp at h⟩
theorem TLines.below {w w' : World} {base : Nat} {v : Value} {L : List (List CSet)} (h : TLines w base v L) (hb : Below w.heap.size w w') : TLines w' base v L := by
  obtain ⟨hs, h1, h2⟩ := h
  exact ⟨hs, ownsRow_below h1 hb, fun j hj => by obtain ⟨u, e, hu⟩ := h2 j hj; exact ⟨u, e, hu.below hb⟩⟩
theorem TLines.lines {w : World} {base : Nat} {v : Value} {L : List (List CSet)} (h : TLines w base v L) : Lines w v L := by
  obtain ⟨hs, h1, h2⟩ := h
  exact ⟨hs, Row.of_owns h1, fun j hj => by obtain ⟨u, e, hu⟩ := h2 j hj; exact ⟨u, e, hu.line⟩⟩
theorem TLines.mono {w : World} {base base' : Nat} {v : Value} {L : List (List CSet)} (h : TLines w base v L) (hb : base' ≤ base) : TLines w base' v L := by
  obtain ⟨hs, h1, h2⟩ := h
  exact ⟨hs, ownsRow_base h1 hb, fun j hj => by obtain ⟨u, e, hu⟩ := h2 j hj; exact ⟨u, e, hu.mono hb⟩⟩
theorem TLines.push {w w' : World} {base : Nat} {v v' u : Value} {L : List (List CSet)} {l : List CSet} {hs : List Value} (h1 : w.ownsRow base 47 1 v L.length hs)
    (h2 : ∀ (j : Nat) (h : j < L.length), ∃ u, hs[j]? = some u ∧ TLine w base u L[j]) (hl : TLine w base u l) (ho : w'.ownsRow base 47 1 v' (L.length + 1) (hs ++ [u])) (hg : w.grownBy w' v.ownBlock) : TLines w' base v' (L ++ [l]) := by
  have kept : ∀ {u : Value} {l : List CSet}, TLine w base u l → TLine w' base u l := fun h => World.ownsRow.kept h hg (block_ne h h1 (by decide))
  have hlen : hs.length = L.length := by have := h1.1; omega
  refine ⟨hs ++ [u], by rw [List.length_append]; exact ho, fun j hj => ?_⟩
  by_cases e : j < L.length
  · obtain ⟨u2, e2, hu2⟩ := h2 j e
    refine ⟨u2, by rw [List.getElem?_append_left (by omega)]; exact e2, ?_⟩
    rw [List.getElem_append_left e]
    exact kept hu2
  · have : j = L.length := by simp at hj; omega
    subst this
    refine ⟨u, by rw [List.getElem?_append_right (by omega), hlen, Nat.sub_self]; rfl, ?_⟩
    rw [List.getElem_append_right (by omega)]
    simp only [Nat.sub_self, List.getElem_cons_zero]
    exact kept hl

/-- rules: their headers, and each of them -/
def TRules (w : World) (base : Nat) (v : Value) (R : List (List (List CSet))) : Prop :=
  ∃ hs : List Value, w.ownsRow base 46 1 v R.length hs ∧ ∀ (j : Nat) (h : j < R.length), ∃ u, hs[j]? = some u ∧ TLines w base u R[j]
theorem TRules.nil (w : World) (base : Nat) : TRules w base (.slice none 0 0) [] := ⟨[], World.ownsRow_nil _ _ _ _, fun j h => by simp at h⟩
theorem TRules.below {w w' : World} {base : Nat} {v : Value} {R : List (List (List CSet))} (h : TRules w base v R) (hb : Below w.heap.size w w') : TRules w' base v R := by
  obtain ⟨hs, h1, h2⟩ := h
  exact ⟨hs, ownsRow_below h1 hb, fun j hj => by obtain ⟨u, e, hu⟩ := h2 j hj; exact ⟨u, e, hu.below hb⟩⟩
theorem TRules.rules {w : World} {base : Nat} {v : Value} {R : List (List (List CSet))} (h : TRules w base v R) : Rules3 w v R := by
  obtain ⟨hs, h1, h2⟩ := h
  exact ⟨hs, Row.of_owns h1, fun j hj => by obtain ⟨u, e, hu⟩ := h2 j hj; exact ⟨u, e, hu.lines⟩⟩
theorem TLines.kept {w w' : World} {base b2 s2 n2 : Nat} {e2 : TypeId} {v v2 : Value} {x2 : List Value} {L : List (List CSet)} (h : TLines w base v L) (h2 : w.ownsRow b2 e2 s2 v2 n2 x2) (n1 : 47 ≠ e2) (n0 : 50 ≠ e2) (hg : w.grownBy w' v2.ownBlock) : TLines w' base v L := by
  obtain ⟨hs, h1, hj⟩ := h
  exact ⟨hs, World.ownsRow.kept h1 hg (block_ne h1 h2 n1), fun j hlt => by obtain ⟨u, e, hu⟩ := hj j hlt; exact ⟨u, e, World.ownsRow.kept hu hg (block_ne hu h2 n0)⟩⟩
theorem TRules.push {w w' : World} {base : Nat} {v v' u : Value} {R : List (List (List CSet))} {L : List (List CSet)} {hs : List Value} (h1 : w.ownsRow base 46 1 v R.length hs)
    (h2 : ∀ (j : Nat) (h : j < R.length), ∃ u, hs[j]? = some u ∧ TLines w base u R[j]) (hl : TLines w base u L) (ho : w'.ownsRow base 46 1 v' (R.length + 1) (hs ++ [u])) (hg : w.grownBy w' v.ownBlock) : TRules w' base v' (R ++ [L]) := by
  have kept : ∀ {u : Value} {L : List (List CSet)}, TLines w base u L → TLines w' base u L := fun h => h.kept h1 (by decide) (by decide) hg
  have hlen : hs.length = R.length := by have := h1.1; omega
  refine ⟨hs ++ [u], by rw [List.length_append]; exact ho, fun j hj => ?_⟩
  by_cases e : j < R.length
  · obtain ⟨u2, e2, hu2⟩ := h2 j e
    refine ⟨u2, by rw [List.getElem?_append_left (by omega)]; exact e2, ?_⟩
    rw [List.getElem_append_left e]
    exact kept hu2
  · have : j = R.length := by simp at hj; omega
    subst this
    refine ⟨u, by rw [List.getElem?_append_right (by omega), hlen, Nat.sub_self]; rfl, ?_⟩
    rw [List.getElem_append_right (by omega)]
    simp only [Nat.sub_self, List.getElem_cons_zero]
    exact kept hl
end Go.Proofs.Ytghdgenlkbocmaa
