/- classes.Runs. -/
import Derived.Test.YtooiegejchcbhaaDoorKRunsR
namespace Go.Proofs.YtooiegejchcbhaaDoor
open Go.RowKit Go.Shelf
attribute [local go_sem] Oper.semAt_some

theorem heap_other {w : World} {b o b' : Nat} (u : Value) (h : b' ≠ b) : (w.setCell ⟨b, o, none⟩ u).heap[b']? = w.heap[b']? := Below.heap_setCell _ _ _ _ h

theorem appended_more {W w1 : World} {n₀ n1 B : Nat} {t e : TypeId} {size : Nat} {v v' : Value} {k m : Nat} {xs ys : List Value} {tmp : Obj}
    (hrow : W.ownsRow n1 e size v k xs) (hv : Boxed W B t v) (hte : t ≠ e) (hs : n1 ≤ W.heap.size) (hn : n₀ ≤ B) (hBn : B < n1) (hown' : w1.ownsRow n1 e size v' m ys) (hgrow : (W.alloc tmp).grownBy w1 v.ownBlock) :
    Boxed w1 B t v ∧ Boxed (w1.setCell ⟨B, 0, none⟩ v') B t v' ∧ (w1.setCell ⟨B, 0, none⟩ v').ownsRow n1 e size v' m ys ∧ KeepsOthers W (w1.setCell ⟨B, 0, none⟩ v') ∧ Below n₀ W (w1.setCell ⟨B, 0, none⟩ v') ∧
      (∀ q, q < n1 → q ≠ B → (w1.setCell ⟨B, 0, none⟩ v').heap[q]? = W.heap[q]?) ∧ n1 ≤ (w1.setCell ⟨B, 0, none⟩ v').heap.size := by
  obtain ⟨hv1, hv2, hr2, hk2, hb2⟩ := hv.appended (n₀ := n₀) hte (ownsRow_base hrow (by omega)) (by omega) hn (ownsRow_base hown' (by omega)) hgrow
  have bg : Below n1 W w1 := ((Below.refl n1 W).alloc hs tmp).grown hgrow (by simp; omega) (fun q e => (hrow.lt q e).1)
  refine ⟨hv1, hv2, hown'.kept (grownBy_setCell' w1 B v') (.inr (hv1.not_row hte hown').symm), hk2, hb2, fun q hq hne => ?_, by have := hb2.size; omega⟩
  rw [heap_other _ hne]
  exact bg.block q hq

set_option maxRecDepth 100000 in
set_option maxHeartbeats 4000000 in
theorem runs_in (s : CSet) (w : World) (hT : Tab w) :
    CallsIn Fence.wide 8 Tryd.prog 13 #[setV s] w fun e w' =>
      ∃ v, e = .returned v ∧ w'.ownsRow w.heap.size 32 2 v (runsS s).length (pcells (runsS s)) ∧ Below w.heap.size w w' := by
  obtain ⟨i0, hi, hz0, hz1, hz2⟩ := info_parts infoPr
  have M := Lib.hid (fun w => members_p s w)
  have hT0 := hT.lt
  have hb0 : Below w.heap.size w (((w.alloc (.cells (setC s) 24)).alloc (.cells #[.slice none 0 0] 30)).alloc (.cells (setC s) 24)) := (((Below.refl _ _).alloc (Nat.le_refl _) _).alloc (by simp) _).alloc (by simp; omega) _
  have HT1 := Lib.hid (hT.below hb0)
  have hs1 := SetAt.new ((w.alloc (.cells (setC s) 24)).alloc (.cells #[.slice none 0 0] 30)) s
  rw [World.size_alloc, World.size_alloc] at hs1
  have HS1 := Lib.hid hs1
  have HB0 := Lib.hid hb0
  have bO := (Boxed.new (w.alloc (.cells (setC s) 24)) 30 (.slice none 0 0)).alloc (.cells (setC s) 24)
  rw [World.size_alloc] at bO
  have BO := Lib.hid bO
  have hmx := items_le s 256
  clear hs1 hb0 bO hT
  unfold setV setC at *
  refine callsIn_of_wp_marks Tryd.func13 rfl trivial ?_ rfl
  simp only [Tryd.ntmps13, List.size_toArray, List.length_cons, List.length_nil, Nat.reduceAdd, Nat.reduceSub, Array.replicate_succ, Array.replicate_zero, List.push_toArray, List.append_toArray, List.nil_append, List.cons_append]
  gi_wp2_with fail
  refine ⟨trivial, ?_⟩
  refine (callsIn_wide.2 (M.out _)).mono ?_
  rintro e w1 ⟨rfl, rfl⟩
  rw [World.size_alloc, World.size_alloc]
  gi_wp2_with fail
  have hsz3 : (((w.alloc (.cells #[.int .u64 (word s 0 : Int), .int .u64 (word s 1 : Int), .int .u64 (word s 2 : Int), .int .u64 (word s 3 : Int)] 24)).alloc (.cells #[.slice none 0 0] 30)).alloc (.cells #[.int .u64 (word s 0 : Int), .int .u64 (word s 1 : Int), .int .u64 (word s 2 : Int), .int .u64 (word s 3 : Int)] 24)).heap.size = w.heap.size + 1 + 1 + 1 := by simp
  have HIT := Lib.hid (members_iter s (w.heap.size + 1 + 1) _ HS1.out HT1.out)
  generalize ((w.alloc (.cells #[.int .u64 (word s 0 : Int), .int .u64 (word s 1 : Int), .int .u64 (word s 2 : Int), .int .u64 (word s 3 : Int)] 24)).alloc (.cells #[.slice none 0 0] 30)).alloc (.cells #[.int .u64 (word s 0 : Int), .int .u64 (word s 1 : Int), .int .u64 (word s 2 : Int), .int .u64 (word s 3 : Int)] 24) = W3 at *
  have own := holdsRow_own (β := List Nat) (w.heap.size + 1 + 1 + 1) (w.heap.size + 1) 30 32 2 (fun pre => (runsL pre).length) (fun pre => pcells (runsL pre)) (fun _ _ => True)
  refine range_wide (gf := 60) rfl (enters_of Tryd.func60 (by kernel_rfl) rfl) HIT.out (Below.refl _ _) (fun _ => rfl)
    (fun a b => ⟨Nat.le_trans a.1 b.1, b.2.1.trans a.2.1, b.2.2.trans a.2.2⟩) (fun W l o o' hl _ _ => ⟨by simp [World.putObj], World.putObj_heap_other (by omega), World.putObj_heap_other (by omega)⟩)
    (fun A B k o st hk ho hc => (st.block k (Array.getElem?_eq_some_iff.1 ho).1).trans ho)
    (fun pre W => (∃ v, Boxed W (w.heap.size + 1) 30 v ∧ W.ownsRow (w.heap.size + 1 + 1 + 1) 32 2 v (runsL pre).length (pcells (runsL pre)) ∧ True) ∧ Below w.heap.size w W ∧ w.heap.size + 1 + 1 + 1 ≤ W.heap.size)
    (fun _ _ _ => False)
    (fun s A l o o' hs hl ho hc => ⟨own s A _ _ hs.1 (grownBy_putObj' A l o') (fun r e => by cases e; exact ⟨o, ho, hc⟩), hs.2.1.trans (below_put' _ (by omega)), by have := hs.2.2; simpa [World.putObj] using this⟩)
    (fun _ _ _ _ _ _ hs _ _ _ => hs)
    (fun s A B hs st => ⟨by obtain ⟨v, h1, h2, h3⟩ := hs.1; exact ⟨v, (st.block _ h1.lt).trans h1, ownsRow_below h2 st, h3⟩, next hs.2.1 st, Nat.le_trans hs.2.2 st.size⟩) (fun _ _ _ _ hs _ => hs)
    (fun o1 o2 _ _ => ⟨⟨_, (BO.out.alloc _).alloc _, by simpa [runsL, pcells] using World.ownsRow_nil _ _ _ _, trivial⟩, (HB0.out.alloc (by omega) _).alloc (by simp; omega) _, by simp; omega⟩)
    ?a1 ?assign ?body ?done ?stop
  case assign =>
    intro l x W K hK
    simp only [encB]
    gi_wp2
    exact hK
  case body =>
    rintro l pre x W ⟨⟨v, hv, hrow, _⟩, hB, hs⟩ hpre
    have HBW := Lib.hid hB
    have HV := Lib.hid hv
    have HROW := Lib.hid hrow
    have hx : x < 256 := by
      have : x ∈ itemsTo s 256 := hpre.subset (by simp)
      exact List.mem_range.1 (List.mem_filter.1 this).1
    have hsorted := List.Pairwise.sublist hpre.sublist (items_sorted s 256)
    have hplen : pre.length + 1 ≤ 256 := by have := hpre.length_le; simp at this; omega
    have hrl := runs_len pre
    have hc2 := hv.cell
    have hf2 := hv.frozen
    have hsn := runsL_snoc pre x
    obtain ⟨a, cap, rfl⟩ := Row.form2 (Row.of_owns hrow)
    clear HIT own HS1 HT1 HB0 BO hpre hB hv hrow
    rcases List.eq_nil_or_concat pre with rfl | ⟨p', y, rfl⟩
    · have HE := Lib.hid (show runsL ([] ++ [x]) = runsL [] ++ [(x, x)] from rfl)
      have hz : (runsL ([] : List Nat)).length = 0 := rfl
      rw [hz] at HROW hc2 HV hrl
      clear hsorted hsn hz
      gi_wp2_with (gi_at_builtin; refine wpListIn_append_own _ rfl _ _ 30 rfl (w.heap.size + 1 + 1 + 1) 32 i0 _ 2 2 Tryd.underlying30 hi hz0 hz1 hz2 rfl (by decide) _ _ _ rfl (HROW.out.alloc _) ⟨W.heap.size, 0, none⟩ 1 1 [.int .u8 (x : Int), .int .u8 (x : Int)] rfl rfl (cells_new _ _ _) (by simp [Value.oneCell']) (by unfold maxLen; omega) (by omega) (by simp; omega) ?_; intro v' w1 hown' hgrow _; have H9 := Lib.hid (appended_more (n₀ := w.heap.size) HROW.out HV.out (by decide) hs (by omega) (by omega) hown' hgrow); have hx9 := H9.out.1; obtain ⟨g', cap', rfl⟩ := ownsRow_succ hown'; have hc3 := hx9.cell; have hf3 := hx9.frozen; clear hown' hgrow hx9)
      obtain ⟨_, q1, q2, q3, q4, q5, q6⟩ := H9.out
      exact ⟨q3.from _, ⟨q4.size, q5 _ (by omega) (by omega), q5 _ (by omega) (by omega)⟩, ⟨_, q1, by rw [HE.out, List.length_append, pcells_append]; exact q2, trivial⟩, HBW.out.trans q4, q6⟩
    · rw [List.concat_eq_append] at *
      obtain ⟨A, p, hA⟩ := step_last (runsL p') y
      rw [← runsL_snoc] at hA
      have hyx : y < x := by
        have := List.pairwise_append.1 hsorted
        exact this.2.2 y (by simp) x (by simp)
      have hlen : (runsL (p' ++ [y])).length = A.length + 1 := by rw [hA]; simp
      have hA256 : A.length + 1 ≤ 256 := by omega
      have hO2 := HROW.out
      rw [hlen, hA] at hO2
      obtain ⟨g, cap2, e2, hg, hgs, hcl, hfz, hput⟩ := own_put hO2 (k := A.length * 2 + 1) (by omega)
      rw [hlen] at hc2 HV HROW
      cases e2
      have hpc := (pcells_at (A ++ [(p, y)]) A.length (by simp)).2
      rw [hpc] at hcl
      simp only [List.getElem_concat_length] at hcl
      have a0 : (0 : Int) ≤ (A.length : Int) := by omega
      have a1 : (A.length : Int) < (A.length : Int) + 1 := by omega
      have y1 : (y : Int) + 1 ≤ 255 := by omega
      by_cases hj : y + 1 = x
      · have t1 : ((y : Int) + 1 == (x : Int)) = true := beq_iff_eq.2 (by omega)
        have HE := Lib.hid (show runsL (p' ++ [y] ++ [x]) = A ++ [(p, x)] by rw [hsn, hA, step_join A p y x hj])
        have HPUT := Lib.hid (hput (.int .u8 (x : Int)))
        have HNR := Lib.hid (HV.out.not_row (by decide) hO2)
        clear hsorted hsn hlen hA hO2 hput hpc hj
        gi_wp2
        have hne : w.heap.size + 1 ≠ g := by omega
        have h0 := HPUT.out
        rw [pcells_last] at h0
        refine ⟨(KeepsOthers.setCell _ _ _).from _, ⟨by simp, heap_other _ (by omega), heap_other _ (by omega)⟩, ⟨_, (heap_other _ hne).trans HV.out, ?_, trivial⟩, HBW.out.setCell (p := ⟨g, A.length * 2 + 1, none⟩) (show w.heap.size ≤ g by omega) _, by simpa using hs⟩
        rw [HE.out, List.length_append]
        exact h0
      · have t1 : ((y : Int) + 1 == (x : Int)) = false := beq_eq_false_iff_ne.2 (by omega)
        have HE := Lib.hid (show runsL (p' ++ [y] ++ [x]) = runsL (p' ++ [y]) ++ [(x, x)] by rw [hsn, hA, step_new A p y x hj])
        rw [← hA] at hO2
        rw [hlen] at hrl
        clear hsorted hsn hput hpc hj hA hO2
        gi_wp2_with (gi_at_builtin; refine wpListIn_append_own _ rfl _ _ 30 rfl (w.heap.size + 1 + 1 + 1) 32 i0 _ 2 2 Tryd.underlying30 hi hz0 hz1 hz2 rfl (by decide) _ _ _ rfl (HROW.out.alloc _) ⟨W.heap.size, 0, none⟩ 1 1 [.int .u8 (x : Int), .int .u8 (x : Int)] rfl rfl (cells_new _ _ _) (by simp [Value.oneCell']) (by unfold maxLen; omega) (by omega) (by simp; omega) ?_; intro v' w1 hown' hgrow _; have H9 := Lib.hid (appended_more (n₀ := w.heap.size) HROW.out HV.out (by decide) hs (by omega) (by omega) hown' hgrow); have hx9 := H9.out.1; obtain ⟨g', cap', rfl⟩ := ownsRow_succ hown'; have hc3 := hx9.cell; have hf3 := hx9.frozen; clear hown' hgrow hx9)
        obtain ⟨_, q1, q2, q3, q4, q5, q6⟩ := H9.out
        exact ⟨q3.from _, ⟨q4.size, q5 _ (by omega) (by omega), q5 _ (by omega) (by omega)⟩, ⟨_, q1, by rw [HE.out, List.length_append, pcells_append, hlen]; exact q2, trivial⟩, HBW.out.trans q4, q6⟩
  case done =>
    rintro D W hD ⟨⟨v, hv, hrow, _⟩, hB, _⟩ hK
    have hc2 := hv.cell
    gi_wp2
    refine ⟨by simp, .inl ⟨_, _, rfl, run_takeDeferred hK, ?_⟩⟩
    exact ⟨_, results_tmp rfl _ _ _, v, rfl, ownsRow_putObj (ownsRow_base hrow (by omega)) _ hK rfl, hB.trans (below_put' _ (by omega))⟩
  case stop =>
    rintro D c pre W _ _ h _
    exact h.elim

theorem runs_p (s : CSet) (w : World) (hT : Tab w) :
    Calls Tryd.prog 13 #[setV s] w fun e w' =>
      ∃ v, e = .returned v ∧ w'.ownsRow w.heap.size 32 2 v (runsS s).length (pcells (runsS s)) ∧ Below w.heap.size w w' :=
  callsIn_wide.1 (runs_in s w hT)
end Go.Proofs.YtooiegejchcbhaaDoor
