/- Arguments: patterns, bytes, lists of bytes. -/
import Derived.Test.YtllkohjmghoipaaArgs
import Derived.Test.YtllkohjmghoipaaPaPat
import Derived.Test.YtllkohjmghoipaaPaMat
import Derived.Deep.SlicePairs
namespace Go.Proofs.Ytllkohjmghoipaa
open Go.RowKit Go.ChangeShapes Go.WideShapes Go.Deep

theorem flat_len {f : Nat → List Value} {size : Nat} : ∀ n, (∀ i, i < n → (f i).length = size) → ((List.range n).flatMap f).length = n * size
  | 0, _ => by simp
  | n + 1, h => by
    rw [List.range_succ, List.flatMap_append, List.length_append, flat_len n (fun i hi => h i (by omega)), List.flatMap_cons, List.flatMap_nil, List.append_nil, h n (by omega), Nat.add_mul]
    omega
theorem flat_get {f : Nat → List Value} {size : Nat} : ∀ n, (∀ i, i < n → (f i).length = size) → ∀ i r, i < n → r < size → ((List.range n).flatMap f)[i * size + r]? = (f i)[r]?
  | 0, _, i, r, hi, _ => by omega
  | n + 1, h, i, r, hi, hr => by
    have hl := flat_len (f := f) n (fun i hi => h i (by omega))
    rw [List.range_succ, List.flatMap_append, List.flatMap_cons, List.flatMap_nil, List.append_nil]
    by_cases e : i = n
    · subst e
      rw [List.getElem?_append_right (by omega), hl, show i * size + r - i * size = r by omega]
    · have : (i + 1) * size ≤ n * size := Nat.mul_le_mul_right _ (by omega)
      rw [Nat.add_mul] at this
      rw [List.getElem?_append_left (by omega)]
      exact flat_get n (fun i hi => h i (by omega)) i r (by omega) hr

theorem row_of {H : Type} {enc : TypeId × Value → H} {P : Program} {W : World} {fuel : Nat} {t e : TypeId} {size : Nat} {v : Value} {x : DataW H × List MemPlace} (ht : P.underlying t = some (.slice e)) (hC : P.cellsOf e = size) (hs : 0 < size)
    (h : DataW.trod enc P W 0 (fun _ => true) true fuel t [v] = some x) :
    ∃ (len : Nat) (f : Nat → List Value), (∀ i, i < len → (f i).length = size) ∧ Row W size v len ((List.range len).flatMap f) ∧ ∀ i, i < len → ∃ n y, DataW.trod enc P W 0 (fun _ => true) true n e (f i) = some y := by
  rcases open_slice ht h with ⟨e1, _⟩ | ⟨a, len, cap, m, n, D, Pl, e1, hb, hl, hm, hmm, _, hx⟩
  · obtain rfl : v = .slice none 0 0 := by simpa using e1
    exact ⟨0, fun _ => [], fun i hi => by omega, ⟨by simp, by simp, none, 0, rfl, fun _ => rfl, .inl rfl⟩, fun i hi => by omega⟩
  · obtain rfl : v = .slice (some a) len cap := by simpa using e1
    have hm' : m = cap := by simpa using hmm
    subst hm'
    have hx' : ∀ i, ∃ cs : List Value, i < m → (cs.length = size ∧ (∀ j (h : j < cs.length), W.cell? ((a.add (i * size)).add j) = some cs[j]) ∧ ∃ n y, DataW.trod enc P W 0 (fun _ => true) true n e cs = some y) := by
      intro i
      by_cases hi : i < m
      · obtain ⟨cs', hc, ht'⟩ := hx i hi
        rw [hC] at hc
        obtain ⟨_, hcl, hat⟩ := World.cells?_some hc
        refine ⟨cs', fun _ => ⟨by omega, fun j hj => ?_, _, _, ht'⟩⟩
        have := hat j (by omega)
        first | exact this | (rw [this]; exact List.getElem?_eq_getElem hj)
      · exact ⟨[], fun h => absurd h hi⟩
    obtain ⟨f, hf⟩ := Classical.axiomOfChoice hx'
    have hfl : ∀ i, i < len → (f i).length = size := fun i hi => (hf i (by omega)).1
    refine ⟨len, f, hfl, ⟨flat_len len hfl, by omega, some a, m, rfl, (by intro e; cases e), ?_⟩, fun i hi => (hf i (by omega)).2.2⟩
    by_cases h0 : len = 0
    · exact .inl h0
    · right
      obtain ⟨g, o, z⟩ := a
      have hc0 := (hf 0 (by omega)).2.1 0 (by rw [(hf 0 (by omega)).1]; exact hs)
      cases z with
      | some z => have := World.cell?_spot hc0; simp [Addr.add] at this
      | none =>
        refine ⟨g, o, rfl, fun j hj => ?_⟩
        have hjq : j / size < len := (Nat.div_lt_iff_lt_mul hs).2 hj
        have hjr : j % size < size := Nat.mod_lt _ hs
        have e2 := flat_get len hfl (j / size) (j % size) hjq hjr
        rw [Nat.mul_comm, Nat.div_add_mod] at e2
        rw [e2]
        have hl2 := (hf (j / size) (by omega)).1
        have hc := (hf (j / size) (by omega)).2.1 (j % size) (by omega)
        rw [List.getElem?_eq_getElem (by omega), ← hc, add_plain, add_plain]
        congr 2
        rw [Nat.add_assoc, Nat.mul_comm, Nat.div_add_mod]

theorem choose_list {α : Type} {f : Nat → List Value} {encz : α → List Value} : ∀ len, (∀ i, i < len → ∃ z, f i = encz z) → ∃ l : List α, l.length = len ∧ (List.range len).flatMap f = l.flatMap encz
  | 0, _ => ⟨[], rfl, by simp⟩
  | n + 1, h => by
    obtain ⟨l, h1, h2⟩ := choose_list n (fun i hi => h i (by omega))
    obtain ⟨z, hz⟩ := h n (by omega)
    exact ⟨l ++ [z], by simp [h1], by rw [List.range_succ, List.flatMap_append, h2, List.flatMap_append]; simp [hz]⟩

set_option maxRecDepth 100000 in
theorem class_cells {H : Type} {enc : TypeId × Value → H} {W : World} {n : Nat} {cs : List Value} {y : DataW H × List MemPlace}
    (h : DataW.trod enc Try.prog W 0 (fun _ => true) true n 45 cs = some y) : ∃ s : CSet, cs = (setC s).toList := by
  obtain ⟨xs, m, _, _, hcl, hxl, hf⟩ := DataW.trod_array Try.underlying45 h
  have hc : cs.length = 4 := hcl.trans (by kernel_rfl)
  have h1 : Try.prog.cellsOf 43 = 1 := by kernel_rfl
  match cs, hc, xs, hxl with
  | [c0, c1, c2, c3], _, [x0, x1, x2, x3], _ =>
    have g0 := hf 0 (by omega)
    have g1 := hf 1 (by omega)
    have g2 := hf 2 (by omega)
    have g3 := hf 3 (by omega)
    rw [h1] at g0 g1 g2 g3
    obtain ⟨a, e0, _, w0⟩ := DataW.trod_int Try.underlying43 (g0.trans rfl)
    obtain ⟨b, e1, _, w1⟩ := DataW.trod_int Try.underlying43 (g1.trans rfl)
    obtain ⟨c, e2, _, w2⟩ := DataW.trod_int Try.underlying43 (g2.trans rfl)
    obtain ⟨d, e3, _, w3⟩ := DataW.trod_int Try.underlying43 (g3.trans rfl)
    simp at e0 e1 e2 e3
    have hu : ∀ n : Int, (Lit.int .u64 n).wf = true → 0 ≤ n ∧ n ≤ 18446744073709551615 := fun n h => by
      simpa [Lit.wf, IntKind.min, IntKind.max, IntKind.signed, IntKind.bits] using h
    have ha := hu _ w0
    have hb := hu _ w1
    have hcc := hu _ w2
    have hd := hu _ w3
    obtain ⟨a, rfl⟩ : ∃ n : Nat, a = n := ⟨a.toNat, by omega⟩
    obtain ⟨b, rfl⟩ : ∃ n : Nat, b = n := ⟨b.toNat, by omega⟩
    obtain ⟨c, rfl⟩ : ∃ n : Nat, c = n := ⟨c.toNat, by omega⟩
    obtain ⟨d, rfl⟩ : ∃ n : Nat, d = n := ⟨d.toNat, by omega⟩
    refine ⟨BitVec.ofNat 256 (a + 2 ^ 64 * b + 2 ^ 128 * c + 2 ^ 192 * d), ?_⟩
    have h : a + 2 ^ 64 * b + 2 ^ 128 * c + 2 ^ 192 * d < 2 ^ 256 := by omega
    rw [e0, e1, e2, e3]
    unfold setC word
    rw [BitVec.toNat_ofNat, Nat.mod_eq_of_lt h]
    have e0 : (a + 2 ^ 64 * b + 2 ^ 128 * c + 2 ^ 192 * d) / 2 ^ (64 * 0) % 2 ^ 64 = a := by omega
    have e1 : (a + 2 ^ 64 * b + 2 ^ 128 * c + 2 ^ 192 * d) / 2 ^ (64 * 1) % 2 ^ 64 = b := by omega
    have e2 : (a + 2 ^ 64 * b + 2 ^ 128 * c + 2 ^ 192 * d) / 2 ^ (64 * 2) % 2 ^ 64 = c := by omega
    have e3 : (a + 2 ^ 64 * b + 2 ^ 128 * c + 2 ^ 192 * d) / 2 ^ (64 * 3) % 2 ^ 64 = d := by omega
    rw [e0, e1, e2, e3]


set_option maxRecDepth 100000 in
theorem elem_cells {H : Type} {enc : TypeId × Value → H} {W : World} {n : Nat} {cs : List Value} {y : DataW H × List MemPlace}
    (h : DataW.trod enc Try.prog W 0 (fun _ => true) true n 47 cs = some y) : ∃ x : El, cs = pcell x := by
  obtain ⟨xs, m, _, _, hcl, hxl, hf⟩ := DataW.trod_struct Try.underlying47 h
  have hc : cs.length = 7 := hcl.trans (by kernel_rfl)
  have h1 : Try.prog.cellsOf 3 = 1 := by kernel_rfl
  have h2 : Try.prog.cellsOf 4 = 1 := by kernel_rfl
  have h3 : Try.prog.cellsOf 45 = 4 := by kernel_rfl
  match cs, hc, xs, hxl with
  | [c0, c1, c2, c3, c4, c5, c6], _, [x0, x1, x2, x3], _ =>
    have g0 : DataW.trod enc Try.prog W 0 (fun _ => true) true m 4 (([c0, c1, c2, c3, c4, c5, c6].drop 0).take (Try.prog.cellsOf 4)) = _ := hf 0 _ rfl
    have g1 : DataW.trod enc Try.prog W 0 (fun _ => true) true m 45 (([c0, c1, c2, c3, c4, c5, c6].drop 1).take (Try.prog.cellsOf 45)) = _ := hf 1 _ rfl
    have g2 : DataW.trod enc Try.prog W 0 (fun _ => true) true m 3 (([c0, c1, c2, c3, c4, c5, c6].drop 5).take (Try.prog.cellsOf 3)) = _ := hf 2 _ rfl
    have g3 : DataW.trod enc Try.prog W 0 (fun _ => true) true m 3 (([c0, c1, c2, c3, c4, c5, c6].drop 6).take (Try.prog.cellsOf 3)) = _ := hf 3 _ rfl
    rw [h2] at g0
    rw [h3] at g1
    rw [h1] at g2 g3
    obtain ⟨a, e0, _⟩ := DataW.trod_bool Try.underlying4 (g0.trans rfl)
    obtain ⟨s, e1⟩ := class_cells (g1.trans rfl)
    obtain ⟨b, e2, _⟩ := DataW.trod_int Try.underlying3 (g2.trans rfl)
    obtain ⟨c, e3, _⟩ := DataW.trod_int Try.underlying3 (g3.trans rfl)
    simp [setC] at e0 e1 e2 e3
    obtain ⟨e4, e5, e6, e7⟩ := e1
    exact ⟨⟨a, s, b, c⟩, by rw [e0, e2, e3, e4, e5, e6, e7]; rfl⟩
/-- an argument that is a pattern -/
theorem pats_of {H : Type} {enc : TypeId × Value → H} {W : World} {n : Nat} {v : Value} {y : DataW H × List MemPlace}
    (h : DataW.trod enc Try.prog W 0 (fun _ => true) true n 22 [v] = some y) : ∃ l, Pats W v l := by
  obtain ⟨len, f, _, hr, hf⟩ := row_of Try.underlying22 (size := 7) (by kernel_rfl) (by omega) h
  obtain ⟨l, h1, h2⟩ := choose_list (encz := pcell) len (fun i hi => by obtain ⟨_, _, ht⟩ := hf i hi; exact elem_cells ht)
  refine ⟨l, ?_⟩
  unfold Pats pcells
  rw [h1, ← h2]
  exact hr
theorem byte_cell {H : Type} {enc : TypeId × Value → H} {W : World} {n : Nat} {cs : List Value} {y : DataW H × List MemPlace}
    (h : DataW.trod enc Try.prog W 0 (fun _ => true) true n 5 cs = some y) (hl : cs.length = 1) : ∃ z : UInt8, cs = [.int .u8 (z.toNat : Int)] := by
  match cs, hl with
  | [c], _ =>
    obtain ⟨a, e0, _, w0⟩ := DataW.trod_int Try.underlying5 h
    have h0 : 0 ≤ a ∧ a ≤ 255 := by simpa [Lit.wf, IntKind.min, IntKind.max, IntKind.signed, IntKind.bits] using w0
    simp at e0
    exact ⟨UInt8.ofNat a.toNat, by rw [e0, UInt8.toNat_ofNat']; congr 3; omega⟩
/-- a slice of bytes -/
theorem bytes_of {H : Type} {enc : TypeId × Value → H} {W : World} {n : Nat} {v : Value} {y : DataW H × List MemPlace}
    (h : DataW.trod enc Try.prog W 0 (fun _ => true) true n 30 [v] = some y) : ∃ l : List UInt8, Row W 1 v l.length (bcells l) := by
  obtain ⟨len, f, h1, h2, h3⟩ := row_of Try.underlying30 (size := 1) (by kernel_rfl) (by omega) h
  obtain ⟨l, hl, he⟩ := choose_list (α := UInt8) (encz := fun z => [.int .u8 (z.toNat : Int)]) len (fun i hi => by
    obtain ⟨n, y, hy⟩ := h3 i hi
    exact byte_cell hy (h1 i hi))
  have e : ∀ l : List UInt8, l.flatMap (fun z => [Value.int .u8 (z.toNat : Int)]) = bcells l := fun l => by
    unfold bcells
    induction l with
    | nil => rfl
    | cons a l ih => rw [List.flatMap_cons, ih]; rfl
  rw [he, e l, ← hl] at h2
  exact ⟨l, h2⟩
end Go.Proofs.Ytllkohjmghoipaa
