/- Arguments that are slices of bytes. -/
import Derived.Test.YtooiegejchcbhaaDoorArgs
import Derived.Test.YtooiegejchcbhaaDoorRow
import Derived.Deep.SlicePairs
namespace Go.Proofs.YtooiegejchcbhaaDoor
open Go.RowKit Go.ChangeShapes Go.WideShapes Go.Deep

theorem flat_len {f : Nat → List Value} {size : Nat} : ∀ n, (∀ i, i < n → (f i).length = size) → ((List.range n).flatMap f).length = n * size
  | 0, _ => by simp
  | n + 1, h => by
    rw [List.range_succ, List.flatMap_append, List.length_append, flat_len n (fun i hi => h i (by omega)), List.flatMap_cons, List.flatMap_nil, List.append_nil, h n (by omega), Nat.add_mul]
    omega
theorem flat_get {f : Nat → List Value} {size : Nat} : ∀ n, (∀ i, i < n → (f i).length = size) → ∀ i r, i < n → r < size → ((List.range n).flatMap f)[i * size + r]? = (f i)[r]?
  | 0, _, i, r, hi, _ => by omega
  | n + 1, h, i, r, hi, hr => by
    have hl := flat_len (f := f) n (fun i hi => h i (by omega))
    rw [List.range_succ, List.flatMap_append, List.flatMap_cons, List.flatMap_nil, List.append_nil]
    by_cases e : i = n
    · subst e
      rw [List.getElem?_append_right (by omega), hl, show i * size + r - i * size = r by omega]
    · have : (i + 1) * size ≤ n * size := Nat.mul_le_mul_right _ (by omega)
      rw [Nat.add_mul] at this
      rw [List.getElem?_append_left (by omega)]
      exact flat_get n (fun i hi => h i (by omega)) i r (by omega) hr

theorem row_of {H : Type} {enc : TypeId × Value → H} {P : Program} {W : World} {fuel : Nat} {t e : TypeId} {size : Nat} {v : Value} {x : DataW H × List MemPlace} (ht : P.underlying t = some (.slice e)) (hC : P.cellsOf e = size) (hs : 0 < size)
    (h : DataW.trod enc P W 0 (fun _ => true) true fuel t [v] = some x) :
    ∃ (len : Nat) (f : Nat → List Value), (∀ i, i < len → (f i).length = size) ∧ Row W size v len ((List.range len).flatMap f) ∧ ∀ i, i < len → ∃ n y, DataW.trod enc P W 0 (fun _ => true) true n e (f i) = some y := by
  rcases open_slice ht h with ⟨e1, _⟩ | ⟨a, len, cap, m, n, D, Pl, e1, hb, hl, hm, hmm, _, hx⟩
  · obtain rfl : v = .slice none 0 0 := by simpa using e1
    exact ⟨0, fun _ => [], fun i hi => by omega, ⟨by simp, by simp, none, 0, rfl, fun _ => rfl, .inl rfl⟩, fun i hi => by omega⟩
  · obtain rfl : v = .slice (some a) len cap := by simpa using e1
    have hm' : m = cap := by simpa using hmm
    subst hm'
    have hx' : ∀ i, ∃ cs : List Value, i < m → (cs.length = size ∧ (∀ j (h : j < cs.length), W.cell? ((a.add (i * size)).add j) = some cs[j]) ∧ ∃ n y, DataW.trod enc P W 0 (fun _ => true) true n e cs = some y) := by
      intro i
      by_cases hi : i < m
      · obtain ⟨cs', hc, ht'⟩ := hx i hi
        rw [hC] at hc
        obtain ⟨_, hcl, hat⟩ := World.cells?_some hc
        refine ⟨cs', fun _ => ⟨by omega, fun j hj => ?_, _, _, ht'⟩⟩
        have := hat j (by omega)
        first | exact this | (rw [this]; exact List.getElem?_eq_getElem hj)
      · exact ⟨[], fun h => absurd h hi⟩
    obtain ⟨f, hf⟩ := Classical.axiomOfChoice hx'
    have hfl : ∀ i, i < len → (f i).length = size := fun i hi => (hf i (by omega)).1
    refine ⟨len, f, hfl, ⟨flat_len len hfl, by omega, some a, m, rfl, (by intro e; cases e), ?_⟩, fun i hi => (hf i (by omega)).2.2⟩
    by_cases h0 : len = 0
    · exact .inl h0
    · right
      obtain ⟨g, o, z⟩ := a
      have hc0 := (hf 0 (by omega)).2.1 0 (by rw [(hf 0 (by omega)).1]; exact hs)
      cases z with
      | some z => have := World.cell?_spot hc0; simp [Addr.add] at this
      | none =>
        refine ⟨g, o, rfl, fun j hj => ?_⟩
        have hjq : j / size < len := (Nat.div_lt_iff_lt_mul hs).2 hj
        have hjr : j % size < size := Nat.mod_lt _ hs
        have e2 := flat_get len hfl (j / size) (j % size) hjq hjr
        rw [Nat.mul_comm, Nat.div_add_mod] at e2
        rw [e2]
        have hl2 := (hf (j / size) (by omega)).1
        have hc := (hf (j / size) (by omega)).2.1 (j % size) (by omega)
        rw [List.getElem?_eq_getElem (by omega), ← hc, add_plain, add_plain]
        congr 2
        rw [Nat.add_assoc, Nat.mul_comm, Nat.div_add_mod]

theorem choose_list {α : Type} [Inhabited α] {f : Nat → List Value} {encz : α → List Value} : ∀ len, (∀ i, i < len → ∃ z, f i = encz z) → ∃ l : List α, l.length = len ∧ (List.range len).flatMap f = l.flatMap encz
  | 0, _ => ⟨[], rfl, by simp⟩
  | n + 1, h => by
    obtain ⟨l, h1, h2⟩ := choose_list n (fun i hi => h i (by omega))
    obtain ⟨z, hz⟩ := h n (by omega)
    exact ⟨l ++ [z], by simp [h1], by rw [List.range_succ, List.flatMap_append, h2, List.flatMap_append]; simp [hz]⟩

theorem byte_cell {H : Type} {enc : TypeId × Value → H} {W : World} {n : Nat} {cs : List Value} {y : DataW H × List MemPlace}
    (h : DataW.trod enc Tryd.prog W 0 (fun _ => true) true n 5 cs = some y) (hl : cs.length = 1) : ∃ z : UInt8, cs = [.int .u8 (z.toNat : Int)] := by
  match cs, hl with
  | [c], _ =>
    obtain ⟨a, e0, _, w0⟩ := DataW.trod_int Tryd.underlying5 h
    have h0 : 0 ≤ a ∧ a ≤ 255 := by simpa [Lit.wf, IntKind.min, IntKind.max, IntKind.signed, IntKind.bits] using w0
    simp at e0
    exact ⟨UInt8.ofNat a.toNat, by rw [e0, UInt8.toNat_ofNat']; congr 3; omega⟩
/-- a slice of bytes -/
theorem bytes_of {H : Type} {enc : TypeId × Value → H} {W : World} {n : Nat} {v : Value} {y : DataW H × List MemPlace}
    (h : DataW.trod enc Tryd.prog W 0 (fun _ => true) true n 39 [v] = some y) : ∃ l : List UInt8, Row W 1 v l.length (bcells l) := by
  obtain ⟨len, f, h1, h2, h3⟩ := row_of Tryd.underlying39 (size := 1) (by kernel_rfl) (by omega) h
  obtain ⟨l, hl, he⟩ := choose_list (α := UInt8) (encz := fun z => [.int .u8 (z.toNat : Int)]) len (fun i hi => by
    obtain ⟨n, y, hy⟩ := h3 i hi
    exact byte_cell hy (h1 i hi))
  have e : ∀ l : List UInt8, l.flatMap (fun z => [Value.int .u8 (z.toNat : Int)]) = bcells l := fun l => by
    unfold bcells
    induction l with
    | nil => rfl
    | cons a l ih => rw [List.flatMap_cons, ih]; rfl
  rw [he, e l, ← hl] at h2
  exact ⟨l, h2⟩
end Go.Proofs.YtooiegejchcbhaaDoor
