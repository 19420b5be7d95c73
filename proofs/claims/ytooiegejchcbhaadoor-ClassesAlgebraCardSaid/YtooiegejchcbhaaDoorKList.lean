/- classes.List: slices.Collect over the bytes of a set. -/
import Derived.Test.YtooiegejchcbhaaDoorKMem
import Derived.Maps.AppendAt
namespace Go.Proofs.YtooiegejchcbhaaDoor
open Go.RowKit Go.Shelf
attribute [local go_sem] Oper.semAt_some

theorem Iter.mono {α : Type} {P : Program} {g : Nat} {lb : Array Value} {encs : α → Array Value} {Step Keep Step' Keep' : World → World → Prop} {items : List α} {w w' : World}
    (h : Iter P g lb encs Step Keep items w) (hs : ∀ A B, Step A B → Step' A B) (hk : ∀ A B, Keep' A B → Keep A B) (hw : Below w.heap.size w w') : Iter P g lb encs Step' Keep' items w' := by
  intro n l J Jx W hW hJ hJx hY h0
  refine h n l J Jx W (next hw hW) (fun s A B a b => hJ s A B a (hs A B b)) (fun s A B a b => hJx s A B a (hs A B b)) (fun pre x W1 h1 h2 => (hY pre x W1 h1 h2).mono ?_) h0
  rintro e W' (⟨he, h1, h2⟩ | h1)
  · exact .inl ⟨he, h1, hk _ _ h2⟩
  · exact .inr h1
theorem below_put' {n : Nat} {W : World} {l : Nat} (o : Obj) (h : n ≤ l) : Below n W (W.putObj l o) :=
  ⟨rfl, rfl, rfl, by simp [World.putObj], fun i hi => World.putObj_heap_other (by omega)⟩

def ucells (l : List Nat) : List Value := l.map fun x : Nat => .int .u8 (x : Int)
theorem ucells_snoc (l : List Nat) (x : Nat) : ucells (l ++ [x]) = ucells l ++ [.int .u8 (x : Int)] := by simp [ucells]
theorem ucells_list (s : CSet) : ucells (itemsTo s 256) = bcells (listS s) := by
  unfold ucells bcells listS listTo itemsTo
  rw [List.map_map]
  apply List.map_congr_left
  intro x hx
  have := List.mem_range.1 (List.mem_filter.1 hx).1
  simp only [Function.comp_apply]
  rw [UInt8.toNat_ofNat_of_lt' (by simpa using this)]

set_option maxRecDepth 100000 in
set_option maxHeartbeats 2000000 in
theorem appendSeq_byte (gf : Nat) (lb : Array Value) (hgf : ∀ args w, (callFunc gf args).run Tryd.prog w = .ok (.enter gf args) w) (items : List Nat) (w : World)
    (hit : Iter Tryd.prog gf lb encB (fun A B => Below A.heap.size A B) (fun A B => Below w.heap.size A B) items w) (hlen : items.length ≤ 1000000000) :
    CallsIn Fence.wide 8 Tryd.prog 62 #[.slice none 0 0, .func (.func gf) #[] lb] w fun e w' =>
      ∃ v, e = .returned v ∧ w'.ownsRow w.heap.size 5 1 v items.length (ucells items) ∧ Below w.heap.size w w' := by
  obtain ⟨i0, hi, hz0, hz1, hz2⟩ := info_parts infoU8
  refine callsIn_of_wp_marks Tryd.func62 rfl trivial ?_ rfl
  simp only [Tryd.ntmps62, List.size_toArray, List.length_cons, List.length_nil, Nat.reduceAdd, Nat.reduceSub, Array.replicate_succ, Array.replicate_zero, List.push_toArray, List.append_toArray, List.nil_append, List.cons_append]
  gi_wp2
  have bO := Boxed.new w 39 (.slice none 0 0)
  have hB1 : Below w.heap.size w (w.alloc (.cells #[.slice none 0 0] 39)) := (Below.refl _ w).alloc (Nat.le_refl _) _
  have hs1 : (w.alloc (.cells #[.slice none 0 0] 39)).heap.size = w.heap.size + 1 := by simp
  obtain ⟨W4, hW4⟩ : ∃ W4, w.alloc (.cells #[.slice none 0 0] 39) = W4 := ⟨_, rfl⟩
  rw [hW4] at bO hB1 hs1 ⊢
  clear hW4
  have own := holdsRow_own (β := List Nat) (w.heap.size + 1) w.heap.size 39 5 1 (fun pre => pre.length) (fun pre => ucells pre) (fun _ _ => True)
  refine range_wide (gf := gf) rfl hgf hit hB1 (fun _ => rfl)
    (fun a b => a.trans b) (fun W l o o' hl _ _ => below_put' _ (by omega))
    (fun A B k o st hk ho hc => (st.block k (Array.getElem?_eq_some_iff.1 ho).1).trans ho)
    (fun pre W => (∃ v, Boxed W w.heap.size 39 v ∧ W.ownsRow (w.heap.size + 1) 5 1 v pre.length (ucells pre) ∧ True) ∧ Below w.heap.size w W ∧ w.heap.size + 1 ≤ W.heap.size)
    (fun _ _ _ => False)
    (fun s A l o o' hs hl ho hc => ⟨own s A _ _ hs.1 (grownBy_putObj' A l o') (fun r e => by cases e; exact ⟨o, ho, hc⟩), hs.2.1.trans (below_put' _ (by omega)), by have := hs.2.2; simpa [World.putObj] using this⟩)
    (fun _ _ _ _ _ _ hs _ _ _ => hs)
    (fun s A B hs st => ⟨by obtain ⟨v, h1, h2, h3⟩ := hs.1; exact ⟨v, (st.block _ h1.lt).trans h1, ownsRow_below h2 st, h3⟩, next hs.2.1 st, Nat.le_trans hs.2.2 st.size⟩) (fun _ _ _ _ hs _ => hs)
    (fun o1 o2 _ _ => ⟨⟨_, (bO.alloc _).alloc _, by simpa [ucells] using World.ownsRow_nil _ _ _ _, trivial⟩, (hB1.alloc (by omega) _).alloc (by simp; omega) _, by simp; omega⟩)
    ?a1 ?assign ?body ?done ?stop
  case assign =>
    intro l x W K hK
    simp only [encB]
    gi_wp2
    exact hK
  case body =>
    rintro l pre x W ⟨⟨v, hv, hrow, _⟩, hB, hs⟩ hpre
    have hc2 := hv.cell
    have hf2 := hv.frozen
    have hpl : pre.length + 1 ≤ 1000000000 := by
      have h1 := hpre.length_le
      simp at h1; omega
    gi_wp2_with (gi_at_builtin; refine wpListIn_append_own _ rfl _ _ 39 rfl (w.heap.size + 1) 5 i0 _ 1 1 Tryd.underlying39 hi hz0 hz1 hz2 rfl (by decide) _ _ _ rfl (hrow.alloc _) ⟨W.heap.size, 0, none⟩ 1 1 [.int .u8 (x : Int)] rfl rfl (cells_new _ _ _) (by simp [Value.oneCell']) (by unfold maxLen; omega) (by omega) (by simp; omega) ?_; intro v' w1 hown' hgrow _; obtain ⟨g', cap', rfl⟩ := ownsRow_succ hown'; obtain ⟨hv1, hv2, hr2, hk2, hb2⟩ := hv.appended (n₀ := w.heap.size) (by decide) (ownsRow_base hrow (by omega)) hB.size (by omega) (ownsRow_base hown' (by omega)) hgrow; have hc3 := hv1.cell; have hf3 := hv1.frozen)
    refine ⟨hk2.from _, hb2, ⟨_, hv2, ?_, trivial⟩, hB.trans hb2, ?_⟩
    · rw [List.length_append, ucells_snoc]; exact hown'.kept (grownBy_setCell' w1 w.heap.size _) (.inr (hv1.not_row (by decide) hown').symm)
    · have := hb2.size; omega
  case done =>
    rintro D W hD ⟨⟨v, hv, hrow, _⟩, hB, _⟩ hK
    have hc2 := hv.cell
    gi_wp2
    refine ⟨by simp, .inl ⟨_, _, rfl, run_takeDeferred hK, ?_⟩⟩
    exact ⟨_, results_tmp rfl _ _ _, v, rfl, ownsRow_putObj (ownsRow_base hrow (by omega)) _ hK rfl, hB.trans (below_put' _ (by omega))⟩
  case stop =>
    rintro D c pre W _ _ h _
    exact h.elim

theorem collect_byte (gf : Nat) (lb : Array Value) (hgf : ∀ args w, (callFunc gf args).run Tryd.prog w = .ok (.enter gf args) w) (items : List Nat) (w : World)
    (hit : Iter Tryd.prog gf lb encB (fun A B => Below A.heap.size A B) (fun A B => Below w.heap.size A B) items w) (hlen : items.length ≤ 1000000000) :
    Calls Tryd.prog 54 #[.func (.func gf) #[] lb] w fun e w' =>
      ∃ v, e = .returned v ∧ w'.ownsRow w.heap.size 5 1 v items.length (ucells items) ∧ Below w.heap.size w w' := by
  have hc := callsIn_wide.1 (appendSeq_byte gf lb hgf items w hit hlen)
  have HC := Lib.hid hc
  clear hc hit hlen
  go_enter Tryd.func54, Tryd.ntmps54
  go_wp2_with (go_at_call 62; refine HC.out.mono ?_; rintro e w' ⟨v, rfl, h1, h2⟩; have H1 := Lib.hid h1; have H2 := Lib.hid h2; clear h1 h2)
  go_ret
  exact ⟨v, rfl, H1.out, H2.out⟩


set_option maxRecDepth 100000 in
set_option maxHeartbeats 1000000 in
theorem list_p (s : CSet) (w : World) (hT : Tab w) :
    Calls Tryd.prog 36 #[setV s] w fun e w' => ∃ v, e = .returned v ∧ w'.ownsRow w.heap.size 5 1 v (listS s).length (bcells (listS s)) ∧ Below w.heap.size w w' := by
  have M := Lib.hid (fun w => members_p s w)
  have hb0 := (Below.refl w.heap.size w).alloc (Nat.le_refl _) (.cells (setC s) 24)
  have hT1 := (hT.below hb0).below ((Below.refl (w.alloc (.cells (setC s) 24)).heap.size (w.alloc (.cells (setC s) 24))).alloc (Nat.le_refl _) (.cells (setC s) 24))
  have hs1 := SetAt.new (w.alloc (.cells (setC s) 24)) s
  rw [World.size_alloc] at hs1
  have hl := items_le s 256
  have HI := Lib.hid (collect_byte 60 #[.pointer (some ⟨w.heap.size + 1, 0, none⟩)] (enters_of Tryd.func60 (by kernel_rfl) rfl) _ _
      (Iter.mono (members_iter s (w.heap.size + 1) ((w.alloc (.cells (setC s) 24)).alloc (.cells (setC s) 24)) hs1 hT1) (fun _ _ h => h) (fun A B h => ⟨h.size, h.block _ (by simp), h.block _ (by simp)⟩) (Below.refl _ _)) (by omega))
  have HB := Lib.hid (hb0.alloc (by simp) (.cells (setC s) 24))
  have HL := Lib.hid (ucells_list s)
  have hlen : (itemsTo s 256).length = (listS s).length := by simp [listS, listTo, itemsTo]
  have HLEN := Lib.hid hlen
  clear hb0 hT1 hs1 hT hl hlen
  unfold setV setC at *
  go_enter Tryd.func36, Tryd.ntmps36
  go_wp2_with fail
  refine (M.out _).mono ?_
  rintro e w1 ⟨rfl, rfl⟩
  rw [World.size_alloc]
  go_wp2_with fail
  refine HI.out.mono ?_
  rintro e w2 ⟨v, rfl, h1, h2⟩
  rw [HL.out, HLEN.out] at h1
  have H1 := Lib.hid h1
  have H2 := Lib.hid h2
  clear h1 h2
  go_wp2_with fail
  go_ret
  exact ⟨v, rfl, ownsRow_base H1.out (by simp; omega), next HB.out H2.out⟩
end Go.Proofs.YtooiegejchcbhaaDoor
