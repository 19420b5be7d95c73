/- Arguments that are slices, opened to cells: lanes, lines, rules. -/
import Derived.Test.YtghdgenlkbocmaaArgs
import Derived.Test.YtghdgenlkbocmaaLMem
import Derived.Deep.SlicePairs
namespace Go.Proofs.Ytghdgenlkbocmaa
open Go.RowKit Go.ChangeShapes Go.WideShapes Go.Deep

theorem flat_len {f : Nat → List Value} {size : Nat} : ∀ n, (∀ i, i < n → (f i).length = size) → ((List.range n).flatMap f).length = n * size
  | 0, _ => by simp
  | n + 1, h => by
    rw [List.range_succ, List.flatMap_append, List.length_append, flat_len n (fun i hi => h i (by omega)), List.flatMap_cons, List.flatMap_nil, List.append_nil, h n (by omega), Nat.add_mul]
    omega
theorem flat_get {f : Nat → List Value} {size : Nat} : ∀ n, (∀ i, i < n → (f i).length = size) → ∀ i r, i < n → r < size → ((List.range n).flatMap f)[i * size + r]? = (f i)[r]?
  | 0, _, i, r, hi, _ => by omega
  | n + 1, h, i, r, hi, hr => by
    have hl := flat_len (f := f) n (fun i hi => h i (by omega))
    rw [List.range_succ, List.flatMap_append, List.flatMap_cons, List.flatMap_nil, List.append_nil]
    by_cases e : i = n
    · subst e
      rw [List.getElem?_append_right (by omega), hl, show i * size + r - i * size = r by omega]
    · have : (i + 1) * size ≤ n * size := Nat.mul_le_mul_right _ (by omega)
      rw [Nat.add_mul] at this
      rw [List.getElem?_append_left (by omega)]
      exact flat_get n (fun i hi => h i (by omega)) i r (by omega) hr

theorem row_of {H : Type} {enc : TypeId × Value → H} {P : Program} {W : World} {fuel : Nat} {t e : TypeId} {size : Nat} {v : Value} {x : DataW H × List MemPlace} (ht : P.underlying t = some (.slice e)) (hC : P.cellsOf e = size) (hs : 0 < size)
    (h : DataW.trod enc P W 0 (fun _ => true) true fuel t [v] = some x) :
    ∃ (len : Nat) (f : Nat → List Value), (∀ i, i < len → (f i).length = size) ∧ Row W size v len ((List.range len).flatMap f) ∧ ∀ i, i < len → ∃ n y, DataW.trod enc P W 0 (fun _ => true) true n e (f i) = some y := by
  rcases open_slice ht h with ⟨e1, _⟩ | ⟨a, len, cap, m, n, D, Pl, e1, hb, hl, hm, hmm, _, hx⟩
  · obtain rfl : v = .slice none 0 0 := by simpa using e1
    exact ⟨0, fun _ => [], fun i hi => by omega, ⟨by simp, by simp, none, 0, rfl, fun _ => rfl, .inl rfl⟩, fun i hi => by omega⟩
  · obtain rfl : v = .slice (some a) len cap := by simpa using e1
    have hm' : m = cap := by simpa using hmm
    subst hm'
    have hx' : ∀ i, ∃ cs : List Value, i < m → (cs.length = size ∧ (∀ j (h : j < cs.length), W.cell? ((a.add (i * size)).add j) = some cs[j]) ∧ ∃ n y, DataW.trod enc P W 0 (fun _ => true) true n e cs = some y) := by
      intro i
      by_cases hi : i < m
      · obtain ⟨cs', hc, ht'⟩ := hx i hi
        rw [hC] at hc
        obtain ⟨_, hcl, hat⟩ := World.cells?_some hc
        refine ⟨cs', fun _ => ⟨by omega, fun j hj => ?_, _, _, ht'⟩⟩
        have := hat j (by omega)
        first | exact this | (rw [this]; exact List.getElem?_eq_getElem hj)
      · exact ⟨[], fun h => absurd h hi⟩
    obtain ⟨f, hf⟩ := Classical.axiomOfChoice hx'
    have hfl : ∀ i, i < len → (f i).length = size := fun i hi => (hf i (by omega)).1
    refine ⟨len, f, hfl, ⟨flat_len len hfl, by omega, some a, m, rfl, (by intro e; cases e), ?_⟩, fun i hi => (hf i (by omega)).2.2⟩
    by_cases h0 : len = 0
    · exact .inl h0
    · right
      obtain ⟨g, o, z⟩ := a
      have hc0 := (hf 0 (by omega)).2.1 0 (by rw [(hf 0 (by omega)).1]; exact hs)
      cases z with
      | some z => have := World.cell?_spot hc0; simp [Addr.add] at this
      | none =>
        refine ⟨g, o, rfl, fun j hj => ?_⟩
        have hjq : j / size < len := (Nat.div_lt_iff_lt_mul hs).2 hj
        have hjr : j % size < size := Nat.mod_lt _ hs
        have e2 := flat_get len hfl (j / size) (j % size) hjq hjr
        rw [Nat.mul_comm, Nat.div_add_mod] at e2
        rw [e2]
        have hl2 := (hf (j / size) (by omega)).1
        have hc := (hf (j / size) (by omega)).2.1 (j % size) (by omega)
        rw [List.getElem?_eq_getElem (by omega), ← hc, add_plain, add_plain]
        congr 2
        rw [Nat.add_assoc, Nat.mul_comm, Nat.div_add_mod]

theorem choose_list {α : Type} [Inhabited α] {f : Nat → List Value} {encz : α → List Value} : ∀ len, (∀ i, i < len → ∃ z, f i = encz z) → ∃ l : List α, l.length = len ∧ (List.range len).flatMap f = l.flatMap encz
  | 0, _ => ⟨[], rfl, by simp⟩
  | n + 1, h => by
    obtain ⟨l, h1, h2⟩ := choose_list n (fun i hi => h i (by omega))
    obtain ⟨z, hz⟩ := h n (by omega)
    exact ⟨l ++ [z], by simp [h1], by rw [List.range_succ, List.flatMap_append, h2, List.flatMap_append]; simp [hz]⟩
theorem lcells_flat : ∀ l : List Ln, lcells l = l.flatMap fun x => [.int .i64 x.1, .int .i64 x.2.1, .int .i64 x.2.2]
  | [] => rfl
  | x :: t => by simp [lcells, lcells_flat t]
theorem ccells_flat : ∀ l : List CSet, ccells l = l.flatMap fun s => (setC s).toList
  | [] => rfl
  | x :: t => by simp [ccells, ccells_flat t, setC]

theorem lane_cells {H : Type} {enc : TypeId × Value → H} {W : World} {n : Nat} {cs : List Value} {y : DataW H × List MemPlace}
    (h : DataW.trod enc Try.prog W 0 (fun _ => true) true n 55 cs = some y) : ∃ z : Ln, cs = [.int .i64 z.1, .int .i64 z.2.1, .int .i64 z.2.2] := by
  obtain ⟨xs, m, _, _, hcl, hxl, hf⟩ := DataW.trod_struct Try.underlying55 h
  have hc : cs.length = 3 := hcl.trans (by kernel_rfl)
  have h1 : Try.prog.cellsOf 3 = 1 := by kernel_rfl
  match cs, hc, xs, hxl with
  | [c0, c1, c2], _, [x0, x1, x2], _ =>
    have g0 : DataW.trod enc Try.prog W 0 (fun _ => true) true m 3 (([c0, c1, c2].drop 0).take (Try.prog.cellsOf 3)) = _ := hf 0 _ rfl
    have g1 : DataW.trod enc Try.prog W 0 (fun _ => true) true m 3 (([c0, c1, c2].drop 1).take (Try.prog.cellsOf 3)) = _ := hf 1 _ rfl
    have g2 : DataW.trod enc Try.prog W 0 (fun _ => true) true m 3 (([c0, c1, c2].drop 2).take (Try.prog.cellsOf 3)) = _ := hf 2 _ rfl
    rw [h1] at g0 g1 g2
    obtain ⟨a, e0, _⟩ := DataW.trod_int Try.underlying3 (g0.trans rfl)
    obtain ⟨b, e1, _⟩ := DataW.trod_int Try.underlying3 (g1.trans rfl)
    obtain ⟨c, e2, _⟩ := DataW.trod_int Try.underlying3 (g2.trans rfl)
    simp at e0 e1 e2
    exact ⟨(a, b, c), by rw [e0, e1, e2]⟩

theorem class_cells {H : Type} {enc : TypeId × Value → H} {W : World} {n : Nat} {cs : List Value} {y : DataW H × List MemPlace}
    (h : DataW.trod enc Try.prog W 0 (fun _ => true) true n 50 cs = some y) : ∃ s : CSet, cs = (setC s).toList := by
  obtain ⟨xs, m, _, _, hcl, hxl, hf⟩ := DataW.trod_array Try.underlying50 h
  have hc : cs.length = 4 := hcl.trans (by kernel_rfl)
  have h1 : Try.prog.cellsOf 48 = 1 := by kernel_rfl
  match cs, hc, xs, hxl with
  | [c0, c1, c2, c3], _, [x0, x1, x2, x3], _ =>
    have g0 := hf 0 (by omega)
    have g1 := hf 1 (by omega)
    have g2 := hf 2 (by omega)
    have g3 := hf 3 (by omega)
    rw [h1] at g0 g1 g2 g3
    obtain ⟨a, e0, _, w0⟩ := DataW.trod_int Try.underlying48 (g0.trans rfl)
    obtain ⟨b, e1, _, w1⟩ := DataW.trod_int Try.underlying48 (g1.trans rfl)
    obtain ⟨c, e2, _, w2⟩ := DataW.trod_int Try.underlying48 (g2.trans rfl)
    obtain ⟨d, e3, _, w3⟩ := DataW.trod_int Try.underlying48 (g3.trans rfl)
    simp at e0 e1 e2 e3
    have hu : ∀ n : Int, (Lit.int .u64 n).wf = true → 0 ≤ n ∧ n ≤ 18446744073709551615 := fun n h => by
      simpa [Lit.wf, IntKind.min, IntKind.max, IntKind.signed, IntKind.bits] using h
    have ha := hu _ w0
    have hb := hu _ w1
    have hcc := hu _ w2
    have hd := hu _ w3
    obtain ⟨a, rfl⟩ : ∃ n : Nat, a = n := ⟨a.toNat, by omega⟩
    obtain ⟨b, rfl⟩ : ∃ n : Nat, b = n := ⟨b.toNat, by omega⟩
    obtain ⟨c, rfl⟩ : ∃ n : Nat, c = n := ⟨c.toNat, by omega⟩
    obtain ⟨d, rfl⟩ : ∃ n : Nat, d = n := ⟨d.toNat, by omega⟩
    refine ⟨BitVec.ofNat 256 (a + 2 ^ 64 * b + 2 ^ 128 * c + 2 ^ 192 * d), ?_⟩
    have h : a + 2 ^ 64 * b + 2 ^ 128 * c + 2 ^ 192 * d < 2 ^ 256 := by omega
    rw [e0, e1, e2, e3]
    unfold setC word
    rw [BitVec.toNat_ofNat, Nat.mod_eq_of_lt h]
    have e0 : (a + 2 ^ 64 * b + 2 ^ 128 * c + 2 ^ 192 * d) / 2 ^ (64 * 0) % 2 ^ 64 = a := by omega
    have e1 : (a + 2 ^ 64 * b + 2 ^ 128 * c + 2 ^ 192 * d) / 2 ^ (64 * 1) % 2 ^ 64 = b := by omega
    have e2 : (a + 2 ^ 64 * b + 2 ^ 128 * c + 2 ^ 192 * d) / 2 ^ (64 * 2) % 2 ^ 64 = c := by omega
    have e3 : (a + 2 ^ 64 * b + 2 ^ 128 * c + 2 ^ 192 * d) / 2 ^ (64 * 3) % 2 ^ 64 = d := by omega
    rw [e0, e1, e2, e3]

theorem lanes_of {H : Type} {enc : TypeId × Value → H} {W : World} {n : Nat} {v : Value} {y : DataW H × List MemPlace}
    (h : DataW.trod enc Try.prog W 0 (fun _ => true) true n 25 [v] = some y) : ∃ l, Lanes W v l := by
  obtain ⟨len, f, _, hr, hf⟩ := row_of Try.underlying25 (size := 3) (by kernel_rfl) (by omega) h
  obtain ⟨l, h1, h2⟩ := choose_list (encz := fun x : Ln => [.int .i64 x.1, .int .i64 x.2.1, .int .i64 x.2.2]) len (fun i hi => by obtain ⟨_, _, ht⟩ := hf i hi; exact lane_cells ht)
  refine ⟨l, ?_⟩
  unfold Lanes
  rw [h1, lcells_flat, ← h2]
  exact hr
theorem line_of {H : Type} {enc : TypeId × Value → H} {W : World} {n : Nat} {v : Value} {y : DataW H × List MemPlace}
    (h : DataW.trod enc Try.prog W 0 (fun _ => true) true n 47 [v] = some y) : ∃ l, Line W v l := by
  obtain ⟨len, f, _, hr, hf⟩ := row_of Try.underlying47 (size := 4) (by kernel_rfl) (by omega) h
  obtain ⟨l, h1, h2⟩ := choose_list (encz := fun s : CSet => (setC s).toList) len (fun i hi => by obtain ⟨_, _, ht⟩ := hf i hi; exact class_cells ht)
  refine ⟨l, ?_⟩
  unfold Line
  rw [h1, ccells_flat, ← h2]
  exact hr
theorem hs_at {f : Nat → List Value} {len : Nat} (hl : ∀ i, i < len → (f i).length = 1) {i : Nat} (hi : i < len) : ∃ u, ((List.range len).flatMap f)[i]? = some u ∧ f i = [u] := by
  have h1 := hl i hi
  have h2 := flat_get len hl i 0 hi (by omega)
  rw [Nat.mul_one, Nat.add_zero] at h2
  match hf : f i, h1 with
  | [u], _ => exact ⟨u, by rw [h2, hf]; rfl, rfl⟩
theorem lists_of {α : Type} [Inhabited α] {len : Nat} {p : Nat → α → Prop} : (∀ i, i < len → ∃ z, p i z) → ∃ L : List α, L.length = len ∧ ∀ (i : Nat) (h : i < L.length), p i L[i] := by
  intro h
  induction len with
  | zero => exact ⟨[], rfl, fun i hi => by simp at hi⟩
  | succ n ih =>
    obtain ⟨L, h1, h2⟩ := ih (fun i hi => h i (by omega))
    obtain ⟨z, hz⟩ := h n (by omega)
    refine ⟨L ++ [z], by simp [h1], fun i hi => ?_⟩
    by_cases e : i < L.length
    · rw [List.getElem_append_left e]; exact h2 i e
    · have : i = n := by simp at hi; omega
      subst this
      rw [List.getElem_append_right (by omega)]
      simpa [h1] using hz
theorem lines_of {H : Type} {enc : TypeId × Value → H} {W : World} {n : Nat} {v : Value} {y : DataW H × List MemPlace}
    (h : DataW.trod enc Try.prog W 0 (fun _ => true) true n 46 [v] = some y) : ∃ L, Lines W v L := by
  obtain ⟨len, f, hl, hr, hf⟩ := row_of Try.underlying46 (size := 1) (by kernel_rfl) (by omega) h
  obtain ⟨L, h1, h2⟩ := lists_of (len := len) (p := fun i (z : List CSet) => ∃ u, ((List.range len).flatMap f)[i]? = some u ∧ Line W u z) (fun i hi => by
    obtain ⟨u, e1, e2⟩ := hs_at hl hi
    obtain ⟨_, _, ht⟩ := hf i hi
    rw [e2] at ht
    obtain ⟨l, hl⟩ := line_of ht
    exact ⟨l, u, e1, hl⟩)
  exact ⟨L, _, by rw [h1]; exact hr, h2⟩
theorem rules_of {H : Type} {enc : TypeId × Value → H} {W : World} {n : Nat} {v : Value} {y : DataW H × List MemPlace}
    (h : DataW.trod enc Try.prog W 0 (fun _ => true) true n 22 [v] = some y) : ∃ R, Rules3 W v R := by
  obtain ⟨len, f, hl, hr, hf⟩ := row_of Try.underlying22 (size := 1) (by kernel_rfl) (by omega) h
  obtain ⟨L, h1, h2⟩ := lists_of (len := len) (p := fun i (z : List (List CSet)) => ∃ u, ((List.range len).flatMap f)[i]? = some u ∧ Lines W u z) (fun i hi => by
    obtain ⟨u, e1, e2⟩ := hs_at hl hi
    obtain ⟨_, _, ht⟩ := hf i hi
    rw [e2] at ht
    obtain ⟨l, hl⟩ := lines_of ht
    exact ⟨l, u, e1, hl⟩)
  exact ⟨L, _, by rw [h1]; exact hr, h2⟩
end Go.Proofs.Ytghdgenlkbocmaa
