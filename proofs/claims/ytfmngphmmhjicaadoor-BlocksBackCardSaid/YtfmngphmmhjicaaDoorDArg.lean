/- Arguments: a slice of parts. -/
import Derived.Test.YtfmngphmmhjicaaDoorArgs
import Derived.Test.YtfmngphmmhjicaaDoorDJoin
import Derived.Deep.SlicePairs
namespace Go.Proofs.YtfmngphmmhjicaaDoor
open Go.RowKit Go.ChangeShapes Go.WideShapes Go.Deep

theorem flat_len {f : Nat → List Value} {size : Nat} : ∀ n, (∀ i, i < n → (f i).length = size) → ((List.range n).flatMap f).length = n * size
  | 0, _ => by simp
  | n + 1, h => by
    rw [List.range_succ, List.flatMap_append, List.length_append, flat_len n (fun i hi => h i (by omega)), List.flatMap_cons, List.flatMap_nil, List.append_nil, h n (by omega), Nat.add_mul]
    omega
theorem flat_get {f : Nat → List Value} {size : Nat} : ∀ n, (∀ i, i < n → (f i).length = size) → ∀ i r, i < n → r < size → ((List.range n).flatMap f)[i * size + r]? = (f i)[r]?
  | 0, _, i, r, hi, _ => by omega
  | n + 1, h, i, r, hi, hr => by
    have hl := flat_len (f := f) n (fun i hi => h i (by omega))
    rw [List.range_succ, List.flatMap_append, List.flatMap_cons, List.flatMap_nil, List.append_nil]
    by_cases e : i = n
    · subst e
      rw [List.getElem?_append_right (by omega), hl, show i * size + r - i * size = r by omega]
    · have : (i + 1) * size ≤ n * size := Nat.mul_le_mul_right _ (by omega)
      rw [Nat.add_mul] at this
      rw [List.getElem?_append_left (by omega)]
      exact flat_get n (fun i hi => h i (by omega)) i r (by omega) hr

theorem row_of {H : Type} {enc : TypeId × Value → H} {P : Program} {W : World} {fuel : Nat} {t e : TypeId} {size : Nat} {v : Value} {x : DataW H × List MemPlace} (ht : P.underlying t = some (.slice e)) (hC : P.cellsOf e = size) (hs : 0 < size)
    (h : DataW.trod enc P W 0 (fun _ => true) true fuel t [v] = some x) :
    ∃ (len : Nat) (f : Nat → List Value), (∀ i, i < len → (f i).length = size) ∧ Row W size v len ((List.range len).flatMap f) ∧ ∀ i, i < len → ∃ n y, DataW.trod enc P W 0 (fun _ => true) true n e (f i) = some y := by
  rcases open_slice ht h with ⟨e1, _⟩ | ⟨a, len, cap, m, n, D, Pl, e1, hb, hl, hm, hmm, _, hx⟩
  · obtain rfl : v = .slice none 0 0 := by simpa using e1
    exact ⟨0, fun _ => [], fun i hi => by omega, ⟨by simp, by simp, none, 0, rfl, fun _ => rfl, .inl rfl⟩, fun i hi => by omega⟩
  · obtain rfl : v = .slice (some a) len cap := by simpa using e1
    have hm' : m = cap := by simpa using hmm
    subst hm'
    have hx' : ∀ i, ∃ cs : List Value, i < m → (cs.length = size ∧ (∀ j (h : j < cs.length), W.cell? ((a.add (i * size)).add j) = some cs[j]) ∧ ∃ n y, DataW.trod enc P W 0 (fun _ => true) true n e cs = some y) := by
      intro i
      by_cases hi : i < m
      · obtain ⟨cs', hc, ht'⟩ := hx i hi
        rw [hC] at hc
        obtain ⟨_, hcl, hat⟩ := World.cells?_some hc
        refine ⟨cs', fun _ => ⟨by omega, fun j hj => ?_, _, _, ht'⟩⟩
        have := hat j (by omega)
        first | exact this | (rw [this]; exact List.getElem?_eq_getElem hj)
      · exact ⟨[], fun h => absurd h hi⟩
    obtain ⟨f, hf⟩ := Classical.axiomOfChoice hx'
    have hfl : ∀ i, i < len → (f i).length = size := fun i hi => (hf i (by omega)).1
    refine ⟨len, f, hfl, ⟨flat_len len hfl, by omega, some a, m, rfl, (by intro e; cases e), ?_⟩, fun i hi => (hf i (by omega)).2.2⟩
    by_cases h0 : len = 0
    · exact .inl h0
    · right
      obtain ⟨g, o, z⟩ := a
      have hc0 := (hf 0 (by omega)).2.1 0 (by rw [(hf 0 (by omega)).1]; exact hs)
      cases z with
      | some z => have := World.cell?_spot hc0; simp [Addr.add] at this
      | none =>
        refine ⟨g, o, rfl, fun j hj => ?_⟩
        have hjq : j / size < len := (Nat.div_lt_iff_lt_mul hs).2 hj
        have hjr : j % size < size := Nat.mod_lt _ hs
        have e2 := flat_get len hfl (j / size) (j % size) hjq hjr
        rw [Nat.mul_comm, Nat.div_add_mod] at e2
        rw [e2]
        have hl2 := (hf (j / size) (by omega)).1
        have hc := (hf (j / size) (by omega)).2.1 (j % size) (by omega)
        rw [List.getElem?_eq_getElem (by omega), ← hc, add_plain, add_plain]
        congr 2
        rw [Nat.add_assoc, Nat.mul_comm, Nat.div_add_mod]

theorem choose_list {α : Type} {f : Nat → List Value} {encz : α → List Value} : ∀ len, (∀ i, i < len → ∃ z, f i = encz z) → ∃ l : List α, l.length = len ∧ (List.range len).flatMap f = l.flatMap encz
  | 0, _ => ⟨[], rfl, by simp⟩
  | n + 1, h => by
    obtain ⟨l, h1, h2⟩ := choose_list n (fun i hi => h i (by omega))
    obtain ⟨z, hz⟩ := h n (by omega)
    exact ⟨l ++ [z], by simp [h1], by rw [List.range_succ, List.flatMap_append, h2, List.flatMap_append]; simp [hz]⟩

def numOk (p : Part) : Prop := (-9223372036854775808 ≤ p.2.1 ∧ p.2.1 ≤ 9223372036854775807) ∧ (-9223372036854775808 ≤ p.2.2 ∧ p.2.2 ≤ 9223372036854775807)
theorem part_cells {H : Type} {enc : TypeId × Value → H} {W : World} {n : Nat} {cs : List Value} {y : DataW H × List MemPlace}
    (h : DataW.trod enc Tryd.prog W 0 (fun _ => true) true n 33 cs = some y) : ∃ z : {p : Part // numOk p}, cs = pcell z.1 := by
  obtain ⟨xs, m, _, _, hcl, hxl, hf⟩ := DataW.trod_struct Tryd.underlying33 h
  have hc : cs.length = 3 := hcl.trans (by kernel_rfl)
  have h1 : Tryd.prog.cellsOf 3 = 1 := by kernel_rfl
  have h2 : Tryd.prog.cellsOf 9 = 1 := by kernel_rfl
  have h3 : Tryd.prog.cellsOf 2 = 1 := by kernel_rfl
  match cs, hc, xs, hxl with
  | [c0, c1, c2], _, [x0, x1, x2], _ =>
    have g0 : DataW.trod enc Tryd.prog W 0 (fun _ => true) true m 9 (([c0, c1, c2].drop 0).take (Tryd.prog.cellsOf 9)) = _ := hf 0 _ rfl
    have g1 : DataW.trod enc Tryd.prog W 0 (fun _ => true) true m 3 (([c0, c1, c2].drop 1).take (Tryd.prog.cellsOf 3)) = _ := hf 1 _ rfl
    have g2 : DataW.trod enc Tryd.prog W 0 (fun _ => true) true m 2 (([c0, c1, c2].drop 2).take (Tryd.prog.cellsOf 2)) = _ := hf 2 _ rfl
    rw [h2] at g0
    rw [h1] at g1
    rw [h3] at g2
    obtain ⟨s, e0, _⟩ := DataW.trod_string Tryd.underlying9 (g0.trans rfl)
    obtain ⟨b, e1, _, w1⟩ := DataW.trod_int Tryd.underlying3 (g1.trans rfl)
    obtain ⟨c, e2, _, w2⟩ := DataW.trod_int Tryd.underlying2 (g2.trans rfl)
    simp at e0 e1 e2
    have hu : ∀ n : Int, (Lit.int .i64 n).wf = true → -9223372036854775808 ≤ n ∧ n ≤ 9223372036854775807 := fun n h => by
      simpa [Lit.wf, IntKind.min, IntKind.max, IntKind.signed, IntKind.bits] using h
    refine ⟨⟨(s.data.toList, b, c), hu _ w1, hu _ w2⟩, ?_⟩
    rw [e0, e1, e2]
    simp [pcell, str_data]
/-- a slice of parts -/
theorem parts_of {H : Type} {enc : TypeId × Value → H} {W : World} {n : Nat} {v : Value} {y : DataW H × List MemPlace}
    (h : DataW.trod enc Tryd.prog W 0 (fun _ => true) true n 22 [v] = some y) : ∃ L : List Part, Parts W v L ∧ ∀ p ∈ L, numOk p := by
  obtain ⟨len, f, h1, h2, h3⟩ := row_of Tryd.underlying22 (size := 3) (by kernel_rfl) (by omega) h
  obtain ⟨l, hl, he⟩ := choose_list (α := {p : Part // numOk p}) (encz := fun z => pcell z.1) len (fun i hi => by
    obtain ⟨n, y, hy⟩ := h3 i hi
    exact part_cells hy)
  have e : ∀ l : List {p : Part // numOk p}, l.flatMap (fun z => pcell z.1) = pcells (l.map (·.1)) := fun l => by
    unfold pcells
    rw [List.flatMap_map]
  rw [he, e l, ← hl, ← List.length_map (f := fun z : {p : Part // numOk p} => z.1)] at h2
  exact ⟨l.map (fun z : {p : Part // numOk p} => z.1), h2, fun p hp => by
    obtain ⟨z, _, rfl⟩ := List.mem_map.1 hp
    exact z.2⟩
end Go.Proofs.YtfmngphmmhjicaaDoor
