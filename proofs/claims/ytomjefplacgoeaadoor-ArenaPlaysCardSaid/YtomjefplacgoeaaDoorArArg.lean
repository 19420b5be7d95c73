/- Arguments: a slice of calls; far. -/
import Derived.Test.YtomjefplacgoeaaDoorArgs
import Derived.Test.YtomjefplacgoeaaDoorArAwake
import Derived.Deep.SlicePairs
namespace Go.Proofs.YtomjefplacgoeaaDoor
open Go.RowKit Go.ChangeShapes Go.WideShapes Go.Deep

theorem flat_len {f : Nat → List Value} {size : Nat} : ∀ n, (∀ i, i < n → (f i).length = size) → ((List.range n).flatMap f).length = n * size
  | 0, _ => by simp
  | n + 1, h => by
    rw [List.range_succ, List.flatMap_append, List.length_append, flat_len n (fun i hi => h i (by omega)), List.flatMap_cons, List.flatMap_nil, List.append_nil, h n (by omega), Nat.add_mul]
    omega
theorem flat_get {f : Nat → List Value} {size : Nat} : ∀ n, (∀ i, i < n → (f i).length = size) → ∀ i r, i < n → r < size → ((List.range n).flatMap f)[i * size + r]? = (f i)[r]?
  | 0, _, i, r, hi, _ => by omega
  | n + 1, h, i, r, hi, hr => by
    have hl := flat_len (f := f) n (fun i hi => h i (by omega))
    rw [List.range_succ, List.flatMap_append, List.flatMap_cons, List.flatMap_nil, List.append_nil]
    by_cases e : i = n
    · subst e
      rw [List.getElem?_append_right (by omega), hl, show i * size + r - i * size = r by omega]
    · have : (i + 1) * size ≤ n * size := Nat.mul_le_mul_right _ (by omega)
      rw [Nat.add_mul] at this
      rw [List.getElem?_append_left (by omega)]
      exact flat_get n (fun i hi => h i (by omega)) i r (by omega) hr

theorem row_of {H : Type} {enc : TypeId × Value → H} {P : Program} {W : World} {fuel : Nat} {t e : TypeId} {size : Nat} {v : Value} {x : DataW H × List MemPlace} (ht : P.underlying t = some (.slice e)) (hC : P.cellsOf e = size) (hs : 0 < size)
    (h : DataW.trod enc P W 0 (fun _ => true) true fuel t [v] = some x) :
    ∃ (len : Nat) (f : Nat → List Value), (∀ i, i < len → (f i).length = size) ∧ Row W size v len ((List.range len).flatMap f) ∧ ∀ i, i < len → ∃ n y, DataW.trod enc P W 0 (fun _ => true) true n e (f i) = some y := by
  rcases open_slice ht h with ⟨e1, _⟩ | ⟨a, len, cap, m, n, D, Pl, e1, hb, hl, hm, hmm, _, hx⟩
  · obtain rfl : v = .slice none 0 0 := by simpa using e1
    exact ⟨0, fun _ => [], fun i hi => by omega, ⟨by simp, by simp, none, 0, rfl, fun _ => rfl, .inl rfl⟩, fun i hi => by omega⟩
  · obtain rfl : v = .slice (some a) len cap := by simpa using e1
    have hm' : m = cap := by simpa using hmm
    subst hm'
    have hx' : ∀ i, ∃ cs : List Value, i < m → (cs.length = size ∧ (∀ j (h : j < cs.length), W.cell? ((a.add (i * size)).add j) = some cs[j]) ∧ ∃ n y, DataW.trod enc P W 0 (fun _ => true) true n e cs = some y) := by
      intro i
      by_cases hi : i < m
      · obtain ⟨cs', hc, ht'⟩ := hx i hi
        rw [hC] at hc
        obtain ⟨_, hcl, hat⟩ := World.cells?_some hc
        refine ⟨cs', fun _ => ⟨by omega, fun j hj => ?_, _, _, ht'⟩⟩
        have := hat j (by omega)
        first | exact this | (rw [this]; exact List.getElem?_eq_getElem hj)
      · exact ⟨[], fun h => absurd h hi⟩
    obtain ⟨f, hf⟩ := Classical.axiomOfChoice hx'
    have hfl : ∀ i, i < len → (f i).length = size := fun i hi => (hf i (by omega)).1
    refine ⟨len, f, hfl, ⟨flat_len len hfl, by omega, some a, m, rfl, (by intro e; cases e), ?_⟩, fun i hi => (hf i (by omega)).2.2⟩
    by_cases h0 : len = 0
    · exact .inl h0
    · right
      obtain ⟨g, o, z⟩ := a
      have hc0 := (hf 0 (by omega)).2.1 0 (by rw [(hf 0 (by omega)).1]; exact hs)
      cases z with
      | some z => have := World.cell?_spot hc0; simp [Addr.add] at this
      | none =>
        refine ⟨g, o, rfl, fun j hj => ?_⟩
        have hjq : j / size < len := (Nat.div_lt_iff_lt_mul hs).2 hj
        have hjr : j % size < size := Nat.mod_lt _ hs
        have e2 := flat_get len hfl (j / size) (j % size) hjq hjr
        rw [Nat.mul_comm, Nat.div_add_mod] at e2
        rw [e2]
        have hl2 := (hf (j / size) (by omega)).1
        have hc := (hf (j / size) (by omega)).2.1 (j % size) (by omega)
        rw [List.getElem?_eq_getElem (by omega), ← hc, add_plain, add_plain]
        congr 2
        rw [Nat.add_assoc, Nat.mul_comm, Nat.div_add_mod]

theorem choose_list {α : Type} {f : Nat → List Value} {encz : α → List Value} : ∀ len, (∀ i, i < len → ∃ z, f i = encz z) → ∃ l : List α, l.length = len ∧ (List.range len).flatMap f = l.flatMap encz
  | 0, _ => ⟨[], rfl, by simp⟩
  | n + 1, h => by
    obtain ⟨l, h1, h2⟩ := choose_list n (fun i hi => h i (by omega))
    obtain ⟨z, hz⟩ := h n (by omega)
    exact ⟨l ++ [z], by simp [h1], by rw [List.range_succ, List.flatMap_append, h2, List.flatMap_append]; simp [hz]⟩

/-- a call: what, at, n, v, name -/
structure Cl where
  what : Nat
  at' : Int
  n : Int
  v : Nat
  name : List UInt8
def Cl.ok (c : Cl) : Prop := c.what < 256 ∧ (-9223372036854775808 ≤ c.at' ∧ c.at' ≤ 9223372036854775807) ∧ (-9223372036854775808 ≤ c.n ∧ c.n ≤ 9223372036854775807) ∧ c.v < 18446744073709551616
def clcell (c : Cl) : List Value := [.int .u8 (c.what : Int), .int .i64 c.at', .int .i64 c.n, .int .u64 (c.v : Int), .string (str c.name)]
def clcells (l : List Cl) : List Value := l.flatMap clcell
abbrev Cls (w : World) (v : Value) (l : List Cl) : Prop := Row w 5 v l.length (clcells l)
set_option maxRecDepth 100000 in
theorem call_cells {H : Type} {enc : TypeId × Value → H} {W : World} {n : Nat} {cs : List Value} {y : DataW H × List MemPlace}
    (h : DataW.trod enc Tryd.prog W 0 (fun _ => true) true n 33 cs = some y) : ∃ z : {p : Cl // p.ok}, cs = clcell z.1 := by
  obtain ⟨xs, m, _, _, hcl, hxl, hf⟩ := DataW.trod_struct Tryd.underlying33 h
  have hc : cs.length = 5 := hcl.trans (by kernel_rfl)
  have h1 : Tryd.prog.cellsOf 3 = 1 := by kernel_rfl
  have h2 : Tryd.prog.cellsOf 9 = 1 := by kernel_rfl
  have h3 : Tryd.prog.cellsOf 31 = 1 := by kernel_rfl
  have h4 : Tryd.prog.cellsOf 5 = 1 := by kernel_rfl
  match cs, hc, xs, hxl with
  | [c0, c1, c2, c3, c4], _, [x0, x1, x2, x3, x4], _ =>
    have g0 : DataW.trod enc Tryd.prog W 0 (fun _ => true) true m 5 (([c0, c1, c2, c3, c4].drop 0).take (Tryd.prog.cellsOf 5)) = _ := hf 0 _ rfl
    have g1 : DataW.trod enc Tryd.prog W 0 (fun _ => true) true m 3 (([c0, c1, c2, c3, c4].drop 1).take (Tryd.prog.cellsOf 3)) = _ := hf 1 _ rfl
    have g2 : DataW.trod enc Tryd.prog W 0 (fun _ => true) true m 3 (([c0, c1, c2, c3, c4].drop 2).take (Tryd.prog.cellsOf 3)) = _ := hf 2 _ rfl
    have g3 : DataW.trod enc Tryd.prog W 0 (fun _ => true) true m 31 (([c0, c1, c2, c3, c4].drop 3).take (Tryd.prog.cellsOf 31)) = _ := hf 3 _ rfl
    have g4 : DataW.trod enc Tryd.prog W 0 (fun _ => true) true m 9 (([c0, c1, c2, c3, c4].drop 4).take (Tryd.prog.cellsOf 9)) = _ := hf 4 _ rfl
    rw [h4] at g0
    rw [h1] at g1
    rw [h1] at g2
    rw [h3] at g3
    rw [h2] at g4
    obtain ⟨a, e0, _, w0⟩ := DataW.trod_int Tryd.underlying5 (g0.trans rfl)
    obtain ⟨b, e1, _, w1⟩ := DataW.trod_int Tryd.underlying3 (g1.trans rfl)
    obtain ⟨c, e2, _, w2⟩ := DataW.trod_int Tryd.underlying3 (g2.trans rfl)
    obtain ⟨d, e3, _, w3⟩ := DataW.trod_int Tryd.underlying31 (g3.trans rfl)
    obtain ⟨s, e4, _⟩ := DataW.trod_string Tryd.underlying9 (g4.trans rfl)
    simp at e0 e1 e2 e3 e4
    have hi : ∀ n : Int, (Lit.int .i64 n).wf = true → -9223372036854775808 ≤ n ∧ n ≤ 9223372036854775807 := fun n h => by
      simpa [Lit.wf, IntKind.min, IntKind.max, IntKind.signed, IntKind.bits] using h
    have hu : ∀ n : Int, (Lit.int .u64 n).wf = true → 0 ≤ n ∧ n ≤ 18446744073709551615 := fun n h => by
      simpa [Lit.wf, IntKind.min, IntKind.max, IntKind.signed, IntKind.bits] using h
    have h8 : ∀ n : Int, (Lit.int .u8 n).wf = true → 0 ≤ n ∧ n ≤ 255 := fun n h => by
      simpa [Lit.wf, IntKind.min, IntKind.max, IntKind.signed, IntKind.bits] using h
    have := h8 _ w0
    have := hu _ w3
    refine ⟨⟨⟨a.toNat, b, c, d.toNat, s.data.toList⟩, by simp only; omega, hi _ w1, hi _ w2, by simp only; omega⟩, ?_⟩
    rw [e0, e1, e2, e3, e4]
    simp only [clcell, str_data]
    rw [Int.toNat_of_nonneg (by omega), Int.toNat_of_nonneg (by omega)]
/-- a slice of calls -/
theorem calls_of {H : Type} {enc : TypeId × Value → H} {W : World} {n : Nat} {v : Value} {y : DataW H × List MemPlace}
    (h : DataW.trod enc Tryd.prog W 0 (fun _ => true) true n 23 [v] = some y) : ∃ L : List Cl, Cls W v L ∧ ∀ p ∈ L, p.ok := by
  obtain ⟨len, f, h1, h2, h3⟩ := row_of Tryd.underlying23 (size := 5) (by kernel_rfl) (by omega) h
  obtain ⟨l, hl, he⟩ := choose_list (α := {p : Cl // p.ok}) (encz := fun z => clcell z.1) len (fun i hi => by
    obtain ⟨n, y, hy⟩ := h3 i hi
    exact call_cells hy)
  have e : ∀ l : List {p : Cl // p.ok}, l.flatMap (fun z => clcell z.1) = clcells (l.map (·.1)) := fun l => by
    unfold clcells
    rw [List.flatMap_map]
  rw [he, e l, ← hl, ← List.length_map (f := fun z : {p : Cl // p.ok} => z.1)] at h2
  exact ⟨l.map (fun z : {p : Cl // p.ok} => z.1), h2, fun p hp => by
    obtain ⟨z, _, rfl⟩ := List.mem_map.1 hp
    exact z.2⟩
theorem clcells_at : ∀ (l : List Cl) (i : Nat) (h : i < l.length), (clcells l)[i * 5]? = some (.int .u8 (l[i].what : Int)) ∧ (clcells l)[i * 5 + 1]? = some (.int .i64 l[i].at') ∧ (clcells l)[i * 5 + 2]? = some (.int .i64 l[i].n) ∧ (clcells l)[i * 5 + 3]? = some (.int .u64 (l[i].v : Int)) ∧ (clcells l)[i * 5 + 4]? = some (.string (str l[i].name))
  | c :: l, 0, _ => ⟨rfl, rfl, rfl, rfl, rfl⟩
  | c :: l, i + 1, h => by
    obtain ⟨h1, h2, h3, h4, h5⟩ := clcells_at l i (by simpa using h)
    rw [show (i + 1) * 5 = i * 5 + 5 by omega]
    exact ⟨h1, h2, h3, h4, h5⟩
theorem Cls.at {w : World} {a : Option Addr} {n cap : Nat} {l : List Cl} (h : Cls w (.slice a n cap) l) {i : Nat} (hi : i < l.length) :
    ∃ g o, a = some ⟨g, o, none⟩ ∧ g < w.heap.size ∧ w.cell? ⟨g, o + i * 5, none⟩ = some (.int .u8 (l[i].what : Int)) ∧ w.cell? ⟨g, o + i * 5 + 1, none⟩ = some (.int .i64 l[i].at') ∧ w.cell? ⟨g, o + i * 5 + 2, none⟩ = some (.int .i64 l[i].n) ∧ w.cell? ⟨g, o + i * 5 + 3, none⟩ = some (.int .u64 (l[i].v : Int)) ∧ w.cell? ⟨g, o + i * 5 + 4, none⟩ = some (.string (str l[i].name)) := by
  obtain ⟨g, o, cap', e, hg, hc⟩ := Row.cellAt2 h hi (by omega)
  cases e
  obtain ⟨e0, e1, e2, e3, e4⟩ := clcells_at l i hi
  exact ⟨g, o, rfl, hg, (hc 0 (by omega)).trans e0, (hc 1 (by omega)).trans e1, (hc 2 (by omega)).trans e2, (hc 3 (by omega)).trans e3, (hc 4 (by omega)).trans e4⟩

def farV (l : List Cl) : Bool := (l.take 210).any (fun c => decide (100 < c.name.length)) || decide (200 < l.length)
theorem not_far {l : List Cl} (h : farV l = false) : l.length ≤ 200 ∧ ∀ c ∈ l, c.name.length ≤ 100 := by
  unfold farV at h
  rw [Bool.or_eq_false_iff] at h
  obtain ⟨h1, h2⟩ := h
  have h3 : l.length ≤ 200 := by simpa using h2
  refine ⟨h3, fun c hc => ?_⟩
  rw [List.take_of_length_le (by omega), List.any_eq_false] at h1
  simpa using h1 c hc
theorem any_take_next {α : Type} {p : α → Bool} {l : List α} {k : Nat} (h : k < l.length) (h1 : (l.take k).any p = false) (h2 : p l[k] = false) : (l.take (k + 1)).any p = false := by
  rw [List.take_add_one, List.any_append, h1, List.getElem?_eq_getElem h]
  simp [h2]
theorem any_take_yes {α : Type} {p : α → Bool} {l : List α} {k n : Nat} (h : k < l.length) (hk : k < n) (h2 : p l[k] = true) : (l.take n).any p = true := by
  rw [List.any_eq_true]
  refine ⟨l[k], ?_, h2⟩
  rw [List.mem_take_iff_getElem]
  exact ⟨k, by omega, rfl⟩

set_option maxRecDepth 100000 in
set_option maxHeartbeats 2000000 in
theorem far_p (v : Value) (l : List Cl) (w : World) (ha : Cls w v l) :
    Calls Tryd.prog 10 #[v] w fun e w' => e = .returned (.bool (farV l)) ∧ Below w.heap.size w w' := by
  obtain ⟨a, capa, rfl⟩ := Row.form2 ha
  have hm1 : l.length ≤ 9223372036854775807 := by have := ha.2.1; unfold maxLen at this; omega
  have HA := Lib.hid ha
  clear ha
  go_enter Tryd.func10, Tryd.ntmps10
  go_wp2_with fail
  go_loopw [3] (fun iv wr => ∃ k : Nat, k ≤ l.length ∧ k ≤ 210 ∧ iv = .int .i64 (k : Nat) ∧ (l.take k).any (fun c => decide (100 < c.name.length)) = false ∧ Below w.heap.size w wr) (fun iv _ => l.length - (intOf iv).toNat)
  case atStart => exact ⟨0, by omega, by omega, rfl, rfl, Below.refl _ _⟩
  case round =>
    obtain ⟨k, hk, hk2, rfl, heq, hBl⟩ := hrel
    have HE := Lib.hid heq
    have HW := Lib.hid hBl
    clear heq hBl
    by_cases hlt : k < l.length
    · by_cases hlt2 : k < 210
      · obtain ⟨g, o, hga, hg, hc0, hc1, hc2, hc3, hc4⟩ := Cls.at (Row.below HA.out HW.out) hlt
        subst hga
        have i1 : (0 : Int) ≤ (k : Int) := by omega
        have i2 : (k : Int) < (l.length : Int) := by omega
        have i3 : (k : Int) < 210 := by omega
        have hz : (str l[k].name).size = l[k].name.length := size_str _
        have wi1 : IntKind.i64.wrap ((k : Int) + 1) = (k : Int) + 1 := IntWalk.i64_in _ (by omega)
        clear hc0 hc1 hc2 hc3
        by_cases hp : 100 < l[k].name.length
        · have t1 : (100 : Int) < (l[k].name.length : Int) := by omega
          have hyes : farV l = true := by
            unfold farV; rw [any_take_yes hlt hlt2 (by simpa using hp)]; rfl
          have HY := Lib.hid hyes
          clear hp hyes
          go_wp2_with fail
          go_ret
          exact ⟨by rw [HY.out]; rfl, HW.out⟩
        · have t1 : ¬ ((100 : Int) < (l[k].name.length : Int)) := by omega
          have HN := Lib.hid (any_take_next hlt HE.out (by simpa using hp))
          clear hp
          go_wp2_with fail
          exact ⟨⟨k + 1, by omega, by omega, by go_num, HN.out, HW.out⟩, by simp [intOf]; omega⟩
      · obtain rfl : k = 210 := by omega
        have i2 : ((210 : Nat) : Int) < (l.length : Int) := by omega
        have e : farV l = decide ((200 : Int) < (l.length : Int)) := by
          unfold farV; rw [HE.out, Bool.false_or]; exact decide_eq_decide.2 (by omega)
        have HY := Lib.hid e
        clear e
        go_wp2_with fail
        go_ret
        exact ⟨by rw [HY.out]; rfl, HW.out⟩
    · obtain rfl : l.length = k := by omega
      have i1 : ¬ ((l.length : Int) < (l.length : Int)) := by omega
      have e : farV l = decide ((200 : Int) < (l.length : Int)) := by
        unfold farV
        have h := HE.out
        rw [List.take_of_length_le (Nat.le_refl _)] at h
        rw [List.take_of_length_le (by omega), h, Bool.false_or]; exact decide_eq_decide.2 (by omega)
      have HY := Lib.hid e
      clear e
      go_wp2_with fail
      go_ret
      exact ⟨by rw [HY.out]; rfl, HW.out⟩
end Go.Proofs.YtomjefplacgoeaaDoor
