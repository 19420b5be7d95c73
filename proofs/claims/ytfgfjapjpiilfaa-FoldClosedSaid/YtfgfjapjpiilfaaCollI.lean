/- slices.Collect over an iterator of integers: what it returns. -/
import Derived.Test.YtfgfjapjpiilfaaFoldG
import Derived.Maps.AppendAt
namespace Go.Proofs.Ytfgfjapjpiilfaa
open Go.RowKit Go.Shelf
attribute [local go_sem] Oper.semAt_some

set_option maxRecDepth 100000 in
set_option maxHeartbeats 2000000 in
theorem appendSeq_int (gf : Nat) (lb : Array Value) (hgf : ∀ args w, (callFunc gf args).run Try.prog w = .ok (.enter gf args) w) (items : List Nat) (w : World)
    (hit : Iter Try.prog gf lb encPlace (fun A B => Below A.heap.size A B) (fun A B => Below w.heap.size A B) items w) (hlen : items.length ≤ 1000000000) :
    CallsIn Fence.wide 8 Try.prog 60 #[.slice none 0 0, .func (.func gf) #[] lb] w fun e w' =>
      ∃ v, e = .returned v ∧ w'.ownsRow w.heap.size 3 1 v items.length (icells items) ∧ Below w.heap.size w w' := by
  obtain ⟨i0, hi, hz0, hz1, hz2⟩ := info_parts infoInt
  refine callsIn_of_wp_marks Try.func60 rfl trivial ?_ rfl
  simp only [Try.ntmps60, List.size_toArray, List.length_cons, List.length_nil, Nat.reduceAdd, Nat.reduceSub, Array.replicate_succ, Array.replicate_zero, List.push_toArray, List.append_toArray, List.nil_append, List.cons_append]
  gi_wp2
  have bO := Boxed.new w 26 (.slice none 0 0)
  have hB1 : Below w.heap.size w (w.alloc (.cells #[.slice none 0 0] 26)) := (Below.refl _ w).alloc (Nat.le_refl _) _
  have hs1 : (w.alloc (.cells #[.slice none 0 0] 26)).heap.size = w.heap.size + 1 := by simp
  obtain ⟨W4, hW4⟩ : ∃ W4, w.alloc (.cells #[.slice none 0 0] 26) = W4 := ⟨_, rfl⟩
  rw [hW4] at bO hB1 hs1 ⊢
  clear hW4
  have own := holdsRow_own (β := List Nat) (w.heap.size + 1) w.heap.size 26 3 1 (fun pre => pre.length) (fun pre => icells pre) (fun _ _ => True)
  refine range_wide (gf := gf) rfl hgf hit hB1 (fun _ => rfl)
    (fun a b => a.trans b) (fun W l o o' hl _ _ => below_put' _ (by omega))
    (fun A B k o st hk ho hc => (st.block k (Array.getElem?_eq_some_iff.1 ho).1).trans ho)
    (fun pre W => (∃ v, Boxed W w.heap.size 26 v ∧ W.ownsRow (w.heap.size + 1) 3 1 v pre.length (icells pre) ∧ True) ∧ Below w.heap.size w W ∧ w.heap.size + 1 ≤ W.heap.size)
    (fun _ _ _ => False)
    (fun s A l o o' hs hl ho hc => ⟨own s A _ _ hs.1 (grownBy_putObj' A l o') (fun r e => by cases e; exact ⟨o, ho, hc⟩), hs.2.1.trans (below_put' _ (by omega)), by have := hs.2.2; simpa [World.putObj] using this⟩)
    (fun _ _ _ _ _ _ hs _ _ _ => hs)
    (fun s A B hs st => ⟨by obtain ⟨v, h1, h2, h3⟩ := hs.1; exact ⟨v, (st.block _ h1.lt).trans h1, ownsRow_below h2 st, h3⟩, next hs.2.1 st, Nat.le_trans hs.2.2 st.size⟩) (fun _ _ _ _ hs _ => hs)
    (fun o1 o2 _ _ => ⟨⟨_, (bO.alloc _).alloc _, by simpa [icells] using World.ownsRow_nil _ _ _ _, trivial⟩, (hB1.alloc (by omega) _).alloc (by simp; omega) _, by simp; omega⟩)
    ?a1 ?assign ?body ?done ?stop
  case assign =>
    intro l x W K hK
    simp only [encPlace]
    gi_wp2
    exact hK
  case body =>
    rintro l pre x W ⟨⟨v, hv, hrow, _⟩, hB, hs⟩ hpre
    have hc2 := hv.cell
    have hf2 := hv.frozen
    have hpl : pre.length + 1 ≤ 1000000000 := by
      have h1 := hpre.length_le
      simp at h1; omega
    gi_wp2_with (gi_at_builtin; refine wpListIn_append_own _ rfl _ _ 26 rfl (w.heap.size + 1) 3 i0 _ 1 8 Try.underlying26 hi hz0 hz1 hz2 rfl (by decide) _ _ _ rfl (hrow.alloc _) ⟨W.heap.size, 0, none⟩ 1 1 [.int .i64 (x : Int)] rfl rfl (cells_new _ _ _) (by simp [Value.oneCell']) (by unfold maxLen; omega) (by omega) (by simp; omega) ?_; intro v' w1 hown' hgrow _; obtain ⟨g', cap', rfl⟩ := ownsRow_succ hown'; obtain ⟨hv1, hv2, hr2, hk2, hb2⟩ := hv.appended (n₀ := w.heap.size) (by decide) (ownsRow_base hrow (by omega)) hB.size (by omega) (ownsRow_base hown' (by omega)) hgrow; have hc3 := hv1.cell; have hf3 := hv1.frozen)
    refine ⟨hk2.from _, hb2, ⟨_, hv2, ?_, trivial⟩, hB.trans hb2, ?_⟩
    · rw [List.length_append, icells_snoc]; exact hown'.kept (grownBy_setCell' w1 w.heap.size _) (.inr (hv1.not_row (by decide) hown').symm)
    · have := hb2.size; omega
  case done =>
    rintro D W hD ⟨⟨v, hv, hrow, _⟩, hB, _⟩ hK
    have hc2 := hv.cell
    gi_wp2
    refine ⟨by simp, .inl ⟨_, _, rfl, run_takeDeferred hK, ?_⟩⟩
    exact ⟨_, results_tmp rfl _ _ _, v, rfl, ownsRow_putObj (ownsRow_base hrow (by omega)) _ hK rfl, hB.trans (below_put' _ (by omega))⟩
  case stop =>
    rintro D c pre W _ _ h _
    exact h.elim

theorem collect_int (gf : Nat) (lb : Array Value) (hgf : ∀ args w, (callFunc gf args).run Try.prog w = .ok (.enter gf args) w) (items : List Nat) (w : World)
    (hit : Iter Try.prog gf lb encPlace (fun A B => Below A.heap.size A B) (fun A B => Below w.heap.size A B) items w) (hlen : items.length ≤ 1000000000) :
    Calls Try.prog 46 #[.func (.func gf) #[] lb] w fun e w' =>
      ∃ v, e = .returned v ∧ w'.ownsRow w.heap.size 3 1 v items.length (icells items) ∧ Below w.heap.size w w' := by
  have hc := callsIn_wide.1 (appendSeq_int gf lb hgf items w hit hlen)
  have HC := Lib.hid hc
  clear hc hit hlen
  go_enter Try.func46, Try.ntmps46
  go_wp2_with (go_at_call 60; refine HC.out.mono ?_; rintro e w' ⟨v, rfl, h1, h2⟩; have H1 := Lib.hid h1; have H2 := Lib.hid h2; clear h1 h2)
  go_ret
  exact ⟨v, rfl, H1.out, H2.out⟩

theorem allP (text s : List UInt8) (w : World) (ht : text.length ≤ maxLen) (hs : s.length ≤ maxLen) :
    Calls Try.prog 14 #[.string (str text), .string (str s)] w fun e w' => ∃ v, e = .returned (.tuple #[v, .int .i64 (allE text s)]) ∧ w'.ownsRow w.heap.size 3 1 v (allL text s).length (icells (allL text s)) ∧ Below w.heap.size w w' := by
  have hc := fun w => far_p text s w ht hs
  cases hf : far text s with
  | true =>
    rw [hf] at hc
    have e1 : allE text s = 3 := by unfold allE; rw [if_pos hf]
    have e2 : allL text s = [] := by unfold allL; rw [if_pos hf]
    rw [e1, e2]
    clear e1 e2 hf ht hs
    go_enter Try.func14, Try.ntmps14
    go_wp2_with (go_at_call 44; refine (hc _).mono ?_; rintro e w' ⟨rfl, rfl⟩)
    go_ret2
    exact ⟨_, rfl, World.ownsRow_nil _ _ _ _, Below.refl _ _⟩
  | false =>
    rw [hf] at hc
    have e1 : allE text s = 0 := by unfold allE; rw [if_neg (by rw [hf]; simp)]
    have e2 : allL text s = allTo text s (text.length + 1 - s.length) := by unfold allL; rw [if_neg (by rw [hf]; simp)]
    rw [e1, e2]
    have hb : s.length ≤ 512 ∧ text.length ≤ 4096 := by unfold far at hf; simp at hf; omega
    clear e1 e2 hf ht hs
    have bT := (Boxed.new w 9 (.string (str text))).alloc (.cells #[.string (str s)] 9)
    have bS := Boxed.new (w.alloc (.cells #[.string (str text)] 9)) 9 (.string (str s))
    rw [World.size_alloc] at bS
    have hl := allTo_le text s (text.length + 1 - s.length)
    have HI := Lib.hid (collect_int 59 #[.pointer (some ⟨w.heap.size + 1, 0, none⟩), .pointer (some ⟨w.heap.size, 0, none⟩)] (enters_of Try.func59 (by kernel_rfl) rfl) _ _
      ((places_iter text s hb.2 hb.1 (w.heap.size + 1) w.heap.size ((w.alloc (.cells #[.string (str text)] 9)).alloc (.cells #[.string (str s)] 9)) bS bT).mono (fun _ _ h => h) (fun A B h => ⟨h.size, h.block _ (by simp), h.block _ (by simp; omega)⟩) (Below.refl _ _)) (by omega))
    have HB := Lib.hid (((Below.refl _ w).alloc (Nat.le_refl _) (.cells #[.string (str text)] 9)).alloc (by simp) (.cells #[.string (str s)] 9))
    clear bT bS hl hb
    go_enter Try.func14, Try.ntmps14
    go_wp2_with (first | (go_at_call 44; refine (hc _).mono ?_; rintro e w' ⟨rfl, rfl⟩) | (go_at_call 45; refine (places_p _ _ _).mono ?_; rintro e w' ⟨rfl, rfl⟩) | (go_at_call 46; refine HI.out.mono ?_; rintro e w' ⟨v, rfl, h1, h2⟩; have H1 := Lib.hid h1; have H2 := Lib.hid h2; clear h1 h2))
    go_ret2
    exact ⟨v, rfl, ownsRow_base H1.out (by simp; omega), next HB.out H2.out⟩

end Go.Proofs.Ytfgfjapjpiilfaa
