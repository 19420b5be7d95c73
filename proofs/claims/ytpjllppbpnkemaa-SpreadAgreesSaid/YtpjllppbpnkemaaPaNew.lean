/- walk: a pattern that has read nothing. -/
import Derived.Test.YtpjllppbpnkemaaPaOver
import Derived.OwnWalk
namespace Go.Proofs.Ytpjllppbpnkemaa
open Go.RowKit Go.Sort Go.Maps

theorem free_in {W : World} {A i : Nat} {c : Array Value} {t : TypeId} (h : W.heap[A]? = some (.cells c t)) : W.frozen? ⟨A, i, none⟩ = false := by
  unfold World.frozen?; rw [h]; simp
theorem infoMap : (Try.prog.info? 96).map (fun i => (i.zero, i.size, i.bytes)) = some (some (Value.map none), 1, 8) := by kernel_rfl
def NewP (w : World) (pv : Value) (p : List El) (e : Ending) (w' : World) : Prop := ∃ W A ms, e = .returned (.pointer (some ⟨W, 0, none⟩)) ∧ WalkIn w w' W pv p A ms (fun _ _ => false)
/-- the maps that were made so far -/
structure MakeIn (w0 w : World) (W : Nat) (pv : Value) (p : List El) (A : Nat) (ms : List Nat) (i : Nat) : Prop where
  hw : w.heap[W]? = some (.cells #[pv, .slice (some ⟨A, 0, none⟩) (p.length + 1) (p.length + 1)] 95)
  ha : w.heap[A]? = some (.cells (mcells ms ++ List.replicate (p.length + 1 - i) (Value.map none)).toArray 96)
  len : ms.length = i
  m : ∀ j (h : j < ms.length), MapIs w ms[j] (fun _ => false)
  nd : (W :: A :: ms).Nodup
  lo : ∀ k ∈ W :: A :: ms, w0.heap.size ≤ k ∧ k < w.heap.size
  b : Below w0.heap.size w0 w
theorem MakeIn.next {w0 w : World} {W : Nat} {pv : Value} {p : List El} {A : Nat} {ms : List Nat} {i : Nat} (h : MakeIn w0 w W pv p A ms i) (hi : i < p.length + 1) :
    MakeIn w0 ((w.alloc (.map #[] 0)).setCell ⟨A, i, none⟩ (.map (some w.heap.size))) W pv p A (ms ++ [w.heap.size]) (i + 1) := by
  have hs0 := h.b.size
  have hAl := (h.lo A (by simp)).2
  have hWl := (h.lo W (by simp)).2
  have hnd := h.nd
  rw [List.nodup_cons, List.nodup_cons] at hnd
  obtain ⟨n1, n2, n3⟩ := hnd
  have hWA : W ≠ A := fun e => n1 (by simp [e])
  have far : ∀ k, k ≠ A → k < w.heap.size → ((w.alloc (.map #[] 0)).setCell ⟨A, i, none⟩ (.map (some w.heap.size))).heap[k]? = w.heap[k]? := fun k hk hl => by
    rw [Below.heap_setCell _ _ _ _ hk, Below.heap_alloc _ _ _ hl]
  have hA2 : (w.alloc (.map #[] 0)).heap[A]? = some (.cells (mcells ms ++ List.replicate (p.length + 1 - i) (Value.map none)).toArray 96) := (Below.heap_alloc _ _ _ hAl).trans h.ha
  refine ⟨(far W hWA hWl).trans h.hw, ?_, by simp [h.len], fun j hj => ?_, ?_, fun k hk => ?_, (h.b.alloc hs0 _).setCell (by exact (h.lo A (by simp)).1) _⟩
  · rw [heap_setCell_at _ hA2]
    congr 2
    apply Array.ext'
    have e : p.length + 1 - i = (p.length + 1 - (i + 1)) + 1 := by omega
    rw [e, List.replicate_succ]
    have hl := h.len
    simp [mcells, hl]
  · by_cases hjl : j < ms.length
    · rw [List.getElem_append_left hjl]
      have hin : ms[j] ∈ ms := List.getElem_mem hjl
      exact (h.m j hjl).keep (far _ (fun e => n2 (e ▸ hin)) (h.lo _ (by simp [hin])).2)
    · have : j = ms.length := by simp at hj; omega
      subst this
      rw [List.getElem_append_right (by omega)]
      simp only [Nat.sub_self, List.getElem_cons_zero]
      exact (mapIs_made w).keep (Below.heap_setCell _ _ _ _ (by show w.heap.size ≠ A; omega))
  · rw [List.nodup_cons, List.nodup_cons, List.nodup_append]
    refine ⟨fun hm => ?_, fun hm => ?_, n3, by simp, fun x hx y hy e => ?_⟩
    · simp only [List.mem_cons, List.mem_append, List.not_mem_nil, or_false] at hm
      rcases hm with e | e | e
      · exact hWA e
      · exact n1 (by simp [e])
      · omega
    · simp only [List.mem_append, List.mem_singleton] at hm
      rcases hm with e | e
      · exact n2 e
      · omega
    · rw [List.mem_singleton] at hy
      have := (h.lo x (by simp [hx])).2
      omega
  · simp only [List.mem_cons, List.mem_append, List.not_mem_nil, or_false] at hk
    have hsz : ((w.alloc (.map #[] 0)).setCell ⟨A, i, none⟩ (.map (some w.heap.size))).heap.size = w.heap.size + 1 := by simp [World.size_setCell]
    rw [hsz]
    rcases hk with e | e | e | e
    · have := h.lo k (by simp [e]); omega
    · have := h.lo k (by simp [e]); omega
    · have := h.lo k (by simp [e]); omega
    · omega
set_option maxRecDepth 100000 in
set_option maxHeartbeats 8000000 in
theorem walk_p (pv : Value) (p : List El) (w : World) (h : Pats w pv p) (hs : p.length ≤ 512) : Calls Try.prog 40 #[pv] w (NewP w pv p) := by
  have HP := Lib.hid h
  obtain ⟨a, cap, rfl⟩ := Row.form2 h
  clear h
  obtain ⟨i0, hi, hz0, hz1, hz2⟩ := info_parts infoMap
  have w1 : IntKind.i64.wrap ((p.length : Int) + 1) = (p.length : Int) + 1 := IntWalk.i64_in _ (by omega)
  have hmm := @run_makeMap Try.prog
  go_enter Try.func40, Try.ntmps40
  go_wp2_with (first | (at_make; refine wpList_make_full _ rfl _ _ 93 rfl w.heap.size 96 i0 _ 1 Try.underlying93 hi hz0 hz1 _ _ _ _ (p.length + 1) rfl rfl (by omega) (by omega) (by rw [hz2]; omega) (by unfold maxLen; omega) (Nat.le_refl _) ?_; intro w1' hown hgrow))
  have hb1 : Below w.heap.size w w1' := (Below.refl _ _).grown hgrow (Nat.le_refl _) (fun q e => by cases e)
  have hA : w1'.heap[w.heap.size]? = some (.cells (List.replicate (p.length + 1) (Value.map none)).toArray 96) := by
    have hown2 : w1'.ownsRow w.heap.size 96 1 (.slice (some ⟨w.heap.size, 0, none⟩) (p.length + 1) (p.length + 1)) (p.length + 1) (madeCells #[Value.map none] ((p.length + 1) * 1)).toList := hown
    rw [Nat.mul_one, toList_madeCells_one] at hown2
    rcases hown2.2 with ⟨_, h0⟩ | ⟨g1, cap1, cur, he, hgb, hg, _, _, hs, ht⟩
    · omega
    · injection he with e1 e2 e3
      injection e1 with e1
      injection e1 with e1
      subst e1
      subst e3
      have hcur : cur = (List.replicate (p.length + 1) (Value.map none)).toArray := by
        apply Array.ext'
        rw [Nat.mul_one, List.take_of_length_le (by rw [Array.length_toList]; omega)] at ht
        rw [ht]
      rw [hg, hcur]
  have hAl : w.heap.size < w1'.heap.size := (Array.getElem?_eq_some_iff.1 hA).1
  have HM := Lib.hid (show MakeIn w (w1'.alloc (.cells #[.slice a p.length cap, .slice (some ⟨w.heap.size, 0, none⟩) (p.length + 1) (p.length + 1)] 95)) w1'.heap.size (.slice a p.length cap) p w.heap.size [] 0 from
    ⟨heap_alloc_new _ _, by rw [Below.heap_alloc _ _ _ hAl, hA]; simp [mcells], rfl, fun j hj => by simp at hj, by simp; omega, fun k hk => by
      simp at hk
      rcases hk with rfl | rfl
      · simp; omega
      · simp; omega, hb1.alloc hb1.size _⟩)
  have hx1 := cell_in (i := 1) HM.out.hw rfl
  have hx2 := (Below.refl w1'.heap.size w1').alloc (Nat.le_refl _) (.cells #[.slice a p.length cap, .slice (some ⟨w.heap.size, 0, none⟩) (p.length + 1) (p.length + 1)] 95)
  clear hown hgrow hb1 hA hz0 hz1 hz2 hi hx2
  generalize w1'.heap.size = W at *
  generalize w.heap.size = A at *
  go_wp2_with fail
  go_loopw [17] (fun iv wr => ∃ i : Nat, i ≤ p.length + 1 ∧ iv = .int .i64 (i : Nat) ∧ ∃ ms, MakeIn w wr W (.slice a p.length cap) p A ms i) (fun iv _ => p.length + 1 - (intOf iv).toNat)
  case atStart => exact ⟨0, by omega, rfl, [], HM.out⟩
  case round =>
    obtain ⟨i, hi, rfl, ms, hM⟩ := hrel
    have HMr := Lib.hid hM
    have c1 := cell_in (i := 1) hM.hw rfl
    by_cases hlt : i < p.length + 1
    · have hnx := hM.next hlt
      rw [World.setCell_alloc_past _ _ _ _ (hM.lo A (by simp)).2] at hnx
      have HN := Lib.hid hnx
      have hAl := (hM.lo A (by simp)).2
      have hWl := (hM.lo W (by simp)).2
      have fr := free_in (i := i) hM.ha
      have cc : wr.cell? ⟨A, i, none⟩ = some (Value.map none) := cell_in hM.ha (by
        have hl := hM.len
        simp [mcells, List.getElem?_append, hl, List.getElem?_replicate]
        omega)
      have j0 : (0 : Int) ≤ (i : Int) := by omega
      have j1 : (i : Int) < (p.length : Int) + 1 := by omega
      have wi1 : IntKind.i64.wrap ((i : Int) + 1) = (i : Int) + 1 := IntWalk.i64_in _ (by omega)
      clear hM hx1 hnx
      go_wp2_with fail
      exact ⟨⟨i + 1, by omega, by go_num, _, HN.out⟩, by simp [intOf]; omega⟩
    · obtain rfl : i = p.length + 1 := by omega
      have j1 : ¬ ((p.length : Int) + 1 < (p.length : Int) + 1) := by omega
      have HF := Lib.hid (show WalkIn w wr W (.slice a p.length cap) p A ms (fun _ _ => false) from ⟨hM.hw, by have := hM.ha; rw [Nat.sub_self] at this; simpa using this, hM.len, fun j hj => hM.m j hj, hM.nd, fun k hk => (hM.lo k hk).1, hM.b, HP.out⟩)
      clear hM hx1
      go_wp2_with fail
      go_ret
      exact show NewP _ _ _ _ _ from ⟨_, _, _, rfl, HF.out⟩
end Go.Proofs.Ytpjllppbpnkemaa
