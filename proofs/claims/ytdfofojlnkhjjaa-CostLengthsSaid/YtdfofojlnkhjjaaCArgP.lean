/- An argument that is a slice of pairs of numbers, opened. -/
import Derived.Test.YtdfofojlnkhjjaaArgs
import Derived.Test.YtdfofojlnkhjjaaCShapes
import Derived.Deep.SlicePairs
namespace Go.Proofs.Ytdfofojlnkhjjaa
open Go.RowKit Go.ChangeShapes Go.WideShapes Go.Deep

theorem pairs_of {H : Type} {enc : TypeId × Value → H} {W : World} {fuel : Nat} {v : Value} {x : DataW H × List MemPlace} (hs : ∃ a len cap, v = .slice a len cap)
    (h : DataW.trod enc Try.prog W 0 (fun _ => true) true fuel 38 v.cells.toList = some x) : ∃ L, Pairs W v L := by
  obtain ⟨a0, len0, cap0, rfl⟩ := hs
  rcases open_slice_pairs Try.underlying38 Try.underlying58 (by kernel_rfl) rfl rfl (by kernel_rfl) (by kernel_rfl) h with ⟨e, _⟩ | ⟨a, len, cap, m, n, V0, V1, D0, D1, P0, P1, e, hb, hl, hm, hmm, _, hx⟩
  · have e' : Value.slice a0 len0 cap0 = .slice none 0 0 := by simpa [Value.cells] using e
    rw [e']
    exact ⟨[], by simp, none, 0, rfl, .inl rfl⟩
  · have e' : Value.slice a0 len0 cap0 = .slice (some a) len cap := by simpa [Value.cells] using e
    rw [e']
    clear e e' h
    have hm' : m = cap := by simpa using hmm
    subst hm'
    have hi0 : ∀ i, i < m → V0 i = .int .i64 (intOf (V0 i)) ∧ V1 i = .int .i64 (intOf (V1 i)) := by
      intro i hi
      obtain ⟨_, _, t0, t1⟩ := hx i hi
      obtain ⟨n0, e0, _⟩ := DataW.trod_int Try.underlying3 t0
      obtain ⟨n1, e1, _⟩ := DataW.trod_int Try.underlying3 t1
      simp at e0 e1
      rw [e0, e1]
      exact ⟨rfl, rfl⟩
    refine ⟨(List.range len).map fun i => (intOf (V0 i), intOf (V1 i)), by simp; omega, some a, m, by simp, ?_⟩
    by_cases h0 : len = 0
    · left; simp [h0]
    · right
      obtain ⟨g, o, z⟩ := a
      have hc0 := (hx 0 (by omega)).1
      cases z with
      | some z => have := World.cell?_spot hc0; simp [Addr.add] at this
      | none =>
        refine ⟨g, o, rfl, World.block_lt_of_cell? W _ hc0, fun k hk => ?_⟩
        have hk' : k < len := by simpa using hk
        obtain ⟨q0, q1, _⟩ := hx k (by omega)
        obtain ⟨i0, i1⟩ := hi0 k (by omega)
        simp only [List.getElem_map, List.getElem_range]
        rw [← i0, ← i1]
        rw [add_plain] at q0 q1
        exact ⟨q0, by rw [Nat.add_assoc]; exact q1⟩
end Go.Proofs.Ytdfofojlnkhjjaa
