/- Lists of runs: how they lie in memory; the reference's Meet, Count, Same. -/
import Derived.Test.YtooiegejchcbhaaDoorKList
namespace Go.Proofs.YtooiegejchcbhaaDoor
open Go.RowKit

/-- a store into a row that the call owns -/
theorem own_put {w : World} {base : Nat} {e : TypeId} {size n : Nat} {v : Value} {xs : List Value} (h : w.ownsRow base e size v n xs) {k : Nat} (hk : k < n * size) :
    ∃ g cap, v = .slice (some ⟨g, 0, none⟩) n cap ∧ base ≤ g ∧ g < w.heap.size ∧ w.cell? ⟨g, k, none⟩ = xs[k]? ∧ w.frozen? ⟨g, k, none⟩ = false ∧ ∀ u : Value, (w.setCell ⟨g, k, none⟩ u).ownsRow base e size v n (xs.set k u) := by
  obtain ⟨h1, h2⟩ := h
  rcases h2 with ⟨_, h0⟩ | ⟨g, cap, cur, rfl, hg, hh, hn, hmx, hs, hx⟩
  · subst h0; omega
  · refine ⟨g, cap, rfl, hg, (Array.getElem?_eq_some_iff.1 hh).1, ?_, ?_, fun u => ?_⟩
    · rw [← hx, List.getElem?_take_of_lt hk, Array.getElem?_toList]
      simp [World.cell?, hh]
    · simp [World.frozen?, hh]
    · have hput := heap_setCell_at u (o := k) hh
      refine ⟨by rw [List.length_set]; exact h1, .inr ⟨g, cap, _, rfl, hg, hput, hn, hmx, by simpa using hs, ?_⟩⟩
      rw [← hx, Array.toList_setIfInBounds, List.take_set]

theorem below_drewN {w w' : World} {B : Nat} (h : Below B w w') (n : Nat) : Below B w (w'.drewN n) := ⟨h.os, h.tape, h.output, h.size, h.block⟩
abbrev Pr := Nat × Nat
def pcells : List Pr → List Value
  | [] => []
  | x :: t => .int .u8 (x.1 : Int) :: .int .u8 (x.2 : Int) :: pcells t
theorem length_pcells : ∀ l : List Pr, (pcells l).length = l.length * 2
  | [] => rfl
  | x :: t => by simp only [pcells, List.length_cons, length_pcells t]; omega
theorem pcells_append : ∀ a b : List Pr, pcells (a ++ b) = pcells a ++ pcells b
  | [], _ => rfl
  | x :: t, b => by simp only [pcells, List.cons_append, pcells_append t b]
theorem pcells_at : ∀ (l : List Pr) (i : Nat) (h : i < l.length), (pcells l)[i * 2]? = some (.int .u8 (l[i].1 : Int)) ∧ (pcells l)[i * 2 + 1]? = some (.int .u8 (l[i].2 : Int))
  | x :: t, 0, _ => ⟨rfl, rfl⟩
  | x :: t, i + 1, h => by
    have := pcells_at t i (by simpa using h)
    simpa [pcells, Nat.add_mul] using this
theorem pcells_last (l : List Pr) (a b c : Nat) : (pcells (l ++ [(a, b)])).set (l.length * 2 + 1) (.int .u8 (c : Int)) = pcells (l ++ [(a, c)]) := by
  rw [pcells_append, pcells_append, List.set_append_right _ _ (by rw [length_pcells]; omega), length_pcells, show l.length * 2 + 1 - l.length * 2 = 1 by omega]
  rfl
theorem infoPr : (Tryd.prog.info? 32).map (fun i => (i.zero, i.size, i.bytes)) = some (some (.agg #[.int .u8 0, .int .u8 0]), 2, 2) := by kernel_rfl
def Prs (w : World) (v : Value) (l : List Pr) : Prop := Row w 2 v l.length (pcells l)
theorem Row.cellAt2 {w : World} {size n : Nat} {v : Value} {xs : List Value} (h : Row w size v n xs) {i : Nat} (hi : i < n) (hs : 0 < size) :
    ∃ g o cap, v = .slice (some ⟨g, o, none⟩) n cap ∧ g < w.heap.size ∧ ∀ j, j < size → w.cell? ⟨g, o + i * size + j, none⟩ = xs[i * size + j]? := by
  obtain ⟨h1, _, a, cap, rfl, _, h2⟩ := h
  rcases h2 with h0 | ⟨g, o, rfl, hc⟩
  · omega
  · have hm : ∀ j, j < size → i * size + j < n * size := fun j hj => by
      have : (i + 1) * size ≤ n * size := Nat.mul_le_mul_right _ hi
      rw [Nat.add_mul] at this; omega
    have e0 := hc (i * size + 0) (hm 0 hs)
    have hx : (xs[i * size + 0]?) = some (xs[i * size + 0]'(by rw [h1]; exact hm 0 hs)) := List.getElem?_eq_getElem _
    refine ⟨g, o, cap, rfl, World.block_lt_of_cell? w _ (e0.trans hx), fun j hj => ?_⟩
    rw [Nat.add_assoc]
    exact hc _ (hm j hj)
theorem Row.form2 {w : World} {size n : Nat} {v : Value} {xs : List Value} (h : Row w size v n xs) : ∃ a cap, v = .slice a n cap := by
  obtain ⟨_, _, a, cap, e, _⟩ := h
  exact ⟨a, cap, e⟩
theorem Prs.at {w : World} {a : Option Addr} {n cap : Nat} {l : List Pr} (h : Prs w (.slice a n cap) l) {i : Nat} (hi : i < l.length) :
    ∃ g o, a = some ⟨g, o, none⟩ ∧ g < w.heap.size ∧ w.cell? ⟨g, o + i * 2, none⟩ = some (.int .u8 (l[i].1 : Int)) ∧ w.cell? ⟨g, o + i * 2 + 1, none⟩ = some (.int .u8 (l[i].2 : Int)) := by
  obtain ⟨g, o, cap', e, hg, hc⟩ := Row.cellAt2 h hi (by omega)
  cases e
  obtain ⟨e0, e1⟩ := pcells_at l i hi
  exact ⟨g, o, rfl, hg, (hc 0 (by omega)).trans e0, (hc 1 (by omega)).trans e1⟩

theorem eq_pair (a b a' b' : Int) (w : World) : (Op.equalIn 10000 32 (.agg #[.int .u8 a, .int .u8 b]) (.agg #[.int .u8 a', .int .u8 b'])).run Tryd.prog w = .ok (a == a' && b == b') w := by
  have u3 := Tryd.underlying5
  have a3 := Tryd.isAgg5
  have z3 := Tryd.sizeOf5
  rw [show (10000 : Nat) = 9999 + 1 from rfl, Op.equalIn]
  simp only [Sem.run_bind, run_underlying Tryd.underlying32, Result.andThen_ok]
  simp only [Std.Legacy.Range.forIn_eq_forIn_range', Std.Legacy.Range.size, Nat.sub_zero, Nat.add_sub_cancel, Nat.div_one, List.range'_succ, List.range'_zero, List.forIn_cons, List.forIn_nil]
  go_simp
  by_cases h1 : a = a' <;> by_cases h2 : b = b' <;> simp [h1, h2]
theorem run_ne_pair (w : World) (a b : Int) : (binOp .neq 32 (.agg #[.int .u8 a, .int .u8 b]) (.agg #[.int .u8 a, .int .u8 b])).run Tryd.prog w = .ok (.bool false) w := by
  simp [go_sem, eq_pair]

set_option maxRecDepth 100000 in
set_option maxHeartbeats 2000000 in
/-- lists of runs that are equal -/
theorem same_r (u v : Value) (l : List Pr) (w : World) (hu : Prs w u l) (hv : Prs w v l) :
    Calls Tryd.prog 38 #[u, v] w fun e w' => e = .returned (.bool true) ∧ Below w.heap.size w w' := by
  obtain ⟨a, cap, rfl⟩ := Row.form2 hu
  obtain ⟨b, cap2, rfl⟩ := Row.form2 hv
  have hm1 : l.length ≤ 9223372036854775807 := hu.2.1
  have HU := Lib.hid hu
  have HV := Lib.hid hv
  clear hu hv
  go_enter Tryd.func38, Tryd.ntmps38
  go_wp2_with fail
  go_loopw [5] (fun iv wr => ∃ i : Nat, i ≤ l.length ∧ iv = .int .i64 (i : Nat) ∧ Below w.heap.size w wr) (fun iv _ => l.length - (intOf iv).toNat)
  case atStart => exact ⟨0, by omega, rfl, Below.refl _ _⟩
  case round =>
    obtain ⟨i, hi, rfl, hB⟩ := hrel
    have HB := Lib.hid hB
    have i0 : (0 : Int) ≤ (i : Int) := by omega
    by_cases hlt : i < l.length
    · have i1 : (i : Int) < (l.length : Int) := by omega
      obtain ⟨g, o, rfl, hg, q0, q1⟩ := HU.out.at hlt
      obtain ⟨g2, o2, rfl, hg2, p0, p1⟩ := HV.out.at hlt
      have c0 := (hB.cell (p := ⟨g, o + i * 2, none⟩) hg).trans q0
      have c1 := (hB.cell (p := ⟨g, o + i * 2 + 1, none⟩) hg).trans q1
      have d0 := (hB.cell (p := ⟨g2, o2 + i * 2, none⟩) hg2).trans p0
      have d1 := (hB.cell (p := ⟨g2, o2 + i * 2 + 1, none⟩) hg2).trans p1
      clear q0 q1 p0 p1 hB
      generalize (l[i].1 : Int) = x at *
      generalize (l[i].2 : Int) = y at *
      have hne := fun w => run_ne_pair w x y
      go_wp2_with fail
      go_quiet (fail)
      go_wp2_with fail
      exact ⟨⟨i + 1, by omega, by go_num, below_drewN HB.out _⟩, by simp [intOf]; omega⟩
    · obtain rfl : i = l.length := by omega
      have i1 : ¬ (l.length : Int) < (l.length : Int) := by omega
      clear hB
      go_wp2_with fail
      go_ret
      exact ⟨rfl, HB.out⟩

set_option maxRecDepth 100000 in
set_option maxHeartbeats 1000000 in
theorem count_r (s : CSet) (w : World) : Calls Tryd.prog 35 #[setV s] w fun e w' => e = .returned (.int .i64 ((listS s).length : Int)) ∧ Below w.heap.size w w' := by
  have HB := Lib.hid ((Below.refl w.heap.size w).alloc (Nat.le_refl _) (.cells (setC s) 24))
  have M := Lib.hid (fun w => list_r s w)
  unfold setV setC at *
  go_enter Tryd.func35, Tryd.ntmps35
  go_wp2_with fail
  refine (M.out _).mono ?_
  rintro e w1 ⟨v, rfl, h1, h2⟩
  obtain ⟨a, cap, rfl⟩ := Row.form2 (Row.of_owns h1)
  have H2 := Lib.hid (next HB.out h2)
  clear h1 h2
  go_wp2_with fail
  go_ret
  exact ⟨rfl, H2.out⟩

theorem meet_minus (s t : CSet) : s &&& ~~~(s &&& ~~~t) = s &&& t := by
  apply set_ext
  intro b hb
  rw [hasB_and, hasB_not _ _ hb, hasB_and, hasB_not _ _ hb, hasB_and]
  cases hasB s b <;> cases hasB t b <;> rfl
set_option maxRecDepth 100000 in
set_option maxHeartbeats 1000000 in
theorem meet_r (s t : CSet) (w : World) : Calls Tryd.prog 29 #[setV s, setV t] w fun e w' => e = .returned (setV (s &&& t)) ∧ Below w.heap.size w w' := by
  have a2 := SetAt.zero ((w.alloc (.cells (setC s) 24)).alloc (.cells (setC t) 24))
  rw [World.size_alloc, World.size_alloc] at a2
  have a0 := (((SetAt.new w s).alloc (.cells (setC t) 24)).alloc (.cells #[.int .u64 0, .int .u64 0, .int .u64 0, .int .u64 0] 24))
  have hB0 : Below w.heap.size w (((w.alloc (.cells (setC s) 24)).alloc (.cells (setC t) 24)).alloc (.cells #[.int .u64 0, .int .u64 0, .int .u64 0, .int .u64 0] 24)) := (((Below.refl _ _).alloc (Nat.le_refl _) _).alloc (by simp) _).alloc (by simp; omega) _
  have A2 := Lib.hid a2
  have A0 := Lib.hid a0
  have HB0 := Lib.hid hB0
  have M := Lib.hid (fun s t w => minus_r s t w)
  have E := Lib.hid (meet_minus s t)
  clear a2 a0 hB0
  unfold setV setC
  go_enter Tryd.func29, Tryd.ntmps29
  go_wp2_with fail
  have tok : True := trivial
  go_region_with (first
    | (have _t := tok; go_at_call 30; refine (M.out s t _).mono ?_; rintro e w1 ⟨rfl, hb1⟩; unfold setV setC; have k0 := A0.out.after hb1 (by simp <;> omega); have k1 := A2.out.after hb1 (by simp <;> omega); obtain ⟨c0, c1, c2, c3⟩ := k0.cells; have HB1 := Lib.hid (next HB0.out.drew hb1); have l1 := k1.lt; clear hb1 tok _t)
    | (go_at_call 30; refine (M.out s (s &&& ~~~t) _).mono ?_; rintro e w2 ⟨rfl, hb2⟩; rw [E.out]; unfold setV setC; have k2 := k1.below hb2 l1; obtain ⟨f0, f1, f2, f3⟩ := k2.free; obtain ⟨d0, d1, d2, d3⟩ := k2.cells; have HB2 := Lib.hid (next HB1.out hb2); clear hb2))
  all_goals
    clear f0 f1 f2 f3 d0 d1 d2 d3 c0 c1 c2 c3
    obtain ⟨q0, q1, q2, q3⟩ := (k2.put (s &&& t)).cells
    go_wp2_with fail
    show bodyPost _ _ _ _ _ (putSet w2 (w.heap.size + 1 + 1) (s &&& t))
    exact bodyPost_ret (v := .agg #[.int .u64 _, .int .u64 _, .int .u64 _, .int .u64 _]) (by simp [results, Tryd.results29, go_sem, q0, q1, q2, q3]) rfl ⟨rfl, below_put HB2.out (by omega) _⟩
end Go.Proofs.YtooiegejchcbhaaDoor
