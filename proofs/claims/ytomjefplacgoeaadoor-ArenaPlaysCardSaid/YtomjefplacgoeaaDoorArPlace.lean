/- The place of a region. -/
import Derived.Test.YtomjefplacgoeaaDoorArName
namespace Go.Proofs.YtomjefplacgoeaaDoor
open Go.RowKit

theorem rcells_at : ∀ (l : List Reg) (i : Nat) (h : i < l.length), (rcells l)[i * 3]? = some (.string (str l[i].1)) ∧ (rcells l)[i * 3 + 1]? = some (.int .i64 l[i].2.1) ∧ (rcells l)[i * 3 + 2]? = some (.int .i64 l[i].2.2)
  | [], i, h => by simp at h
  | e :: l, 0, _ => by simp [rcells, rcell]
  | e :: l, i + 1, h => by
    have ih := rcells_at l i (by simpa using h)
    rw [show rcells (e :: l) = rcell e ++ rcells l from rfl, List.getElem?_append_right (by simp [rcell]; omega), List.getElem?_append_right (by simp [rcell]; omega), List.getElem?_append_right (by simp [rcell]; omega)]
    simp only [rcell, List.length_cons, List.length_nil, List.getElem_cons_succ]
    rw [show (i + 1) * 3 - (0 + 1 + 1 + 1) = i * 3 by omega, show (i + 1) * 3 + 1 - (0 + 1 + 1 + 1) = i * 3 + 1 by omega, show (i + 1) * 3 + 2 - (0 + 1 + 1 + 1) = i * 3 + 2 by omega]
    exact ih
abbrev Regs (w : World) (v : Value) (l : List Reg) : Prop := Row w 3 v l.length (rcells l)
theorem Regs.at {w : World} {a : Option Addr} {n cap : Nat} {l : List Reg} (h : Regs w (.slice a n cap) l) {i : Nat} (hi : i < l.length) :
    ∃ g o, a = some ⟨g, o, none⟩ ∧ g < w.heap.size ∧ w.cell? ⟨g, o + i * 3, none⟩ = some (.string (str l[i].1)) ∧ w.cell? ⟨g, o + i * 3 + 1, none⟩ = some (.int .i64 l[i].2.1) ∧ w.cell? ⟨g, o + i * 3 + 2, none⟩ = some (.int .i64 l[i].2.2) := by
  obtain ⟨g, o, cap', e, hg, hc⟩ := Row.cellAt2 h hi (by omega)
  cases e
  obtain ⟨e0, e1, e2⟩ := rcells_at l i hi
  exact ⟨g, o, rfl, hg, (hc 0 (by omega)).trans e0, (hc 1 (by omega)).trans e1, (hc 2 (by omega)).trans e2⟩

/-- the place of the first region with a name, or -1 -/
def idxR (rs : List Reg) (nm : List UInt8) : Int := if rs.any (fun r => decide (r.1 = nm)) then (rs.findIdx (fun r => decide (r.1 = nm)) : Int) else -1
theorem idxR_hit {rs : List Reg} {nm : List UInt8} {k : Nat} (h : k < rs.length) (hk : rs[k].1 = nm) (hj : ∀ j (h : j < rs.length), j < k → rs[j].1 ≠ nm) : idxR rs nm = k := by
  unfold idxR
  rw [if_pos (by rw [List.any_eq_true]; exact ⟨rs[k], List.getElem_mem h, by simpa using hk⟩)]
  congr 1
  rw [List.findIdx_eq h]
  exact ⟨by simpa using hk, fun j hjk => by have := hj j (by omega) hjk; simpa using this⟩
theorem idxR_miss {rs : List Reg} {nm : List UInt8} (hj : ∀ j (h : j < rs.length), rs[j].1 ≠ nm) : idxR rs nm = -1 := by
  unfold idxR
  rw [if_neg]
  rw [List.any_eq_true]
  rintro ⟨r, hr, he⟩
  obtain ⟨j, hjl, rfl⟩ := List.getElem_of_mem hr
  exact hj j hjl (by simpa using he)
theorem eq_str (a b : List UInt8) : ((str a).toList == (str b).toList) = decide (a = b) := by
  rw [toL_str, toL_str]; by_cases h : a = b <;> simp [h]
theorem eq_str2 (a b : List UInt8) : decide (str a = str b) = decide (a = b) := by
  refine decide_eq_decide.2 ⟨fun h => ?_, fun h => by rw [h]⟩
  have := congrArg ByteArray.toList h
  rwa [toL_str, toL_str] at this

set_option maxRecDepth 100000 in
set_option maxHeartbeats 2000000 in
theorem pred_p (r : Reg) (nm : List UInt8) (p : Nat) (w : World) (h : w.cell? ⟨p, 0, none⟩ = some (.string (str nm))) (hp : p < w.heap.size) :
    Calls Tryd.prog 51 #[.agg (rcell r).toArray, .pointer (some ⟨p, 0, none⟩)] w fun e w' => e = .returned (.bool (decide (r.1 = nm))) ∧ Below w.heap.size w w' := by
  have es := eq_str r.1 nm
  have es2 := eq_str2 r.1 nm
  have HB := Lib.hid ((Below.refl w.heap.size w).alloc (Nat.le_refl _) (.cells (rcell r).toArray 43))
  obtain ⟨q, a, b⟩ := r
  unfold rcell at *
  go_enter Tryd.func51, Tryd.ntmps51
  go_wp2_with fail
  go_ret
  exact ⟨by first | (rw [← es2]; rfl) | (rw [← es]; rfl), HB.out⟩

set_option maxRecDepth 100000 in
set_option maxHeartbeats 2000000 in
theorem index_p (rv : Value) (rs : List Reg) (nm : List UInt8) (p : Nat) (w : World) (hr : Regs w rv rs) (h : w.cell? ⟨p, 0, none⟩ = some (.string (str nm))) :
    Calls Tryd.prog 50 #[rv, .func (.func 51) #[] #[.pointer (some ⟨p, 0, none⟩)]] w fun e w' => e = .returned (.int .i64 (idxR rs nm)) ∧ Below w.heap.size w w' := by
  have hp : p < w.heap.size := World.block_lt_of_cell? w _ h
  obtain ⟨a, cap, rfl⟩ := Row.form2 hr
  have hm1 : rs.length ≤ 9223372036854775807 := by have := hr.2.1; unfold maxLen at this; omega
  have HR := Lib.hid hr
  have HP := Lib.hid (show ∀ w', Below w.heap.size w w' → w'.cell? ⟨p, 0, none⟩ = some (.string (str nm)) ∧ p < w'.heap.size from fun w' hb => ⟨(hb.cell hp).trans h, Nat.lt_of_lt_of_le hp hb.size⟩)
  clear hr h hp
  go_enter Tryd.func50, Tryd.ntmps50
  go_wp2_with fail
  go_loopw [5, 8] (fun _ t8 wr => ∃ k : Nat, k ≤ rs.length ∧ t8 = .int .i64 (k : Nat) ∧ (∀ j (h : j < rs.length), j < k → rs[j].1 ≠ nm) ∧ Below w.heap.size w wr) (fun _ t8 _ => rs.length - (intOf t8).toNat)
  case atStart => exact ⟨0, by omega, rfl, fun j _ h => absurd h (by omega), Below.refl _ _⟩
  case round =>
    obtain ⟨k, hk, rfl, hno, hBl⟩ := hrel
    have HE := Lib.hid hno
    have HW := Lib.hid hBl
    clear hno hBl
    by_cases hlt : k < rs.length
    · obtain ⟨g, o, hga, hg, hc0, hc1, hc2⟩ := Regs.at (Row.below HR.out HW.out) hlt
      subst hga
      obtain ⟨hp1, hp2⟩ := HP.out _ HW.out
      have KP := Lib.hid (pred_p rs[k] nm p _ hp1 hp2)
      unfold rcell at KP
      have i1 : (0 : Int) ≤ (k : Int) := by omega
      have i2 : (k : Int) < (rs.length : Int) := by omega
      have wi1 : IntKind.i64.wrap ((k : Int) + 1) = (k : Int) + 1 := IntWalk.i64_in _ (by omega)
      clear hg hp1 hp2
      by_cases hpq : rs[k].1 = nm
      · have HI := Lib.hid (idxR_hit hlt hpq HE.out)
        rw [decide_eq_true hpq] at KP
        clear hpq
        go_wp2_with fail
        refine KP.out.mono ?_
        rintro e w1 ⟨rfl, hb⟩
        have HB := Lib.hid hb
        clear hb hc0 hc1 hc2
        go_wp2_with fail
        go_ret
        exact ⟨by rw [HI.out]; rfl, next HW.out HB.out⟩
      · have HPQ := Lib.hid hpq
        rw [decide_eq_false hpq] at KP
        clear hpq
        go_wp2_with fail
        refine KP.out.mono ?_
        rintro e w1 ⟨rfl, hb⟩
        have HB := Lib.hid hb
        clear hb hc0 hc1 hc2
        go_wp2_with fail
        exact ⟨⟨k + 1, by omega, by go_num, fun j hj hjk => by
          by_cases e : j = k
          · subst e; exact HPQ.out
          · exact HE.out j hj (by omega), next HW.out HB.out⟩, by simp [intOf]; omega⟩
    · obtain rfl : rs.length = k := by omega
      have i1 : ¬ ((rs.length : Int) < (rs.length : Int)) := by omega
      have HI := Lib.hid (idxR_miss (nm := nm) (fun j hj => HE.out j hj hj))
      go_wp2_with fail
      go_ret
      exact ⟨by rw [HI.out]; rfl, HW.out⟩

section
variable {W : World} {base : Nat} {F : List Nat} {A : Nat} {cs : List Nat} {rs : List Reg} {ev : List Ev}
set_option maxRecDepth 100000 in
set_option maxHeartbeats 2000000 in
theorem place_p (nm : List UInt8) (h : ArenaAt W base F A cs rs ev) :
    Calls Tryd.prog 34 #[.pointer (some ⟨A, 0, none⟩), .string (str nm)] W fun e w' => e = .returned (.int .i64 (idxR rs nm)) ∧ Below W.heap.size W w' := by
  obtain ⟨pv, rv, C, PL, h⟩ := h
  obtain ⟨c0, c1, c2, c3, c4⟩ := h.cells
  have hlt := h.lt
  have hr : Regs W rv rs := Row.of_owns h.r
  have HB := Lib.hid ((Below.refl W.heap.size W).alloc (Nat.le_refl _) (.cells #[.string (str nm)] 9))
  have KI := Lib.hid (index_p rv rs nm W.heap.size _ (Row.below hr HB.out) (cell_in (heap_alloc_new _ _) rfl))
  clear h c0 c1 c2 c4 hr
  go_enter Tryd.func34, Tryd.ntmps34
  go_wp2_with fail
  refine KI.out.mono ?_
  rintro e w1 ⟨rfl, hb⟩
  have HB1 := Lib.hid hb
  clear hb c3
  go_wp2_with fail
  go_ret
  exact ⟨rfl, next HB.out HB1.out⟩
end
end Go.Proofs.YtomjefplacgoeaaDoor
