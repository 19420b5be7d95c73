/- fold.Find: a range over a function whose body returns. -/
import Derived.Test.YtfgfjapjpiilfaaFoldI
namespace Go.Proofs.Ytfgfjapjpiilfaa
open Go.RowKit Go.Shelf
attribute [local go_sem] Oper.semAt_some

theorem Iter.mono {α : Type} {P : Program} {g : Nat} {lb : Array Value} {encs : α → Array Value} {Step Keep Step' Keep' : World → World → Prop} {items : List α} {w w' : World}
    (h : Iter P g lb encs Step Keep items w) (hs : ∀ A B, Step A B → Step' A B) (hk : ∀ A B, Keep' A B → Keep A B) (hw : Below w.heap.size w w') : Iter P g lb encs Step' Keep' items w' := by
  intro n l J Jx W hW hJ hJx hY h0
  refine h n l J Jx W (next hw hW) (fun s A B a b => hJ s A B a (hs A B b)) (fun s A B a b => hJx s A B a (hs A B b)) (fun pre x W1 h1 h2 => (hY pre x W1 h1 h2).mono ?_) h0
  rintro e W' (⟨he, h1, h2⟩ | h1)
  · exact .inl ⟨he, h1, hk _ _ h2⟩
  · exact .inr h1

theorem head_of_prefix {l : List Nat} {x : Nat} (h : [x] <+: l) : l.headD 0 = x ∧ ¬ l.length = 0 := by
  obtain ⟨r, rfl⟩ := h
  simp

theorem below_put' {n : Nat} {W : World} {l : Nat} (o : Obj) (h : n ≤ l) : Below n W (W.putObj l o) :=
  ⟨rfl, rfl, rfl, by simp [World.putObj], fun i hi => World.putObj_heap_other (by omega)⟩

set_option maxRecDepth 100000 in
set_option maxHeartbeats 2000000 in
theorem find_in (text s : List UInt8) (w : World) (hf : far text s = false) :
    CallsIn Fence.wide 8 Try.prog 12 #[.string (str text), .string (str s)] w fun e w' =>
      e = .returned (.tuple #[.int .i64 (findI text s), .int .i64 (findE text s)]) ∧ Below w.heap.size w w' := by
  have hb : s.length ≤ 512 ∧ text.length ≤ 4096 := by unfold far at hf; simp at hf; omega
  obtain ⟨hs, ht⟩ := hb
  have hm1 : text.length ≤ maxLen := by unfold maxLen; omega
  have hm2 : s.length ≤ maxLen := by unfold maxLen; omega
  have hc := fun w => far_p text s w hm1 hm2
  rw [hf] at hc
  have HA := Lib.hid (show allL text s = allTo text s (text.length + 1 - s.length) by unfold allL; rw [if_neg (by rw [hf]; simp)])
  have HE := Lib.hid (show findE text s = if (allL text s).length = 0 then 4 else 0 by unfold findE; rw [if_neg (by rw [hf]; simp)])
  clear hf hm1 hm2
  refine callsIn_of_wp_marks Try.func12 rfl trivial ?_ rfl
  simp only [Try.ntmps12, List.size_toArray, List.length_cons, List.length_nil, Nat.reduceAdd, Nat.reduceSub, Array.replicate_succ, Array.replicate_zero, List.push_toArray, List.append_toArray, List.nil_append, List.cons_append]
  gi_wp2_with (first | (refine ⟨trivial, ?_⟩; gi_at_call 44; refine (callsIn_wide.2 (hc _)).mono ?_; rintro e w' ⟨rfl, rfl⟩) | (refine ⟨trivial, ?_⟩; gi_at_call 45; refine (callsIn_wide.2 (places_p _ _ _)).mono ?_; rintro e w' ⟨rfl, rfl⟩))
  have b4 := ((Boxed.new w 3 (.int .i64 0)).alloc (.cells #[.int .i64 0] 23)).alloc (.cells #[.string (str text)] 9) |>.alloc (.cells #[.string (str s)] 9)
  have b5 := ((Boxed.new (w.alloc (.cells #[.int .i64 0] 3)) 23 (.int .i64 0)).alloc (.cells #[.string (str text)] 9)).alloc (.cells #[.string (str s)] 9)
  have bT := (Boxed.new ((w.alloc (.cells #[.int .i64 0] 3)).alloc (.cells #[.int .i64 0] 23)) 9 (.string (str text))).alloc (.cells #[.string (str s)] 9)
  have bS := Boxed.new (((w.alloc (.cells #[.int .i64 0] 3)).alloc (.cells #[.int .i64 0] 23)).alloc (.cells #[.string (str text)] 9)) 9 (.string (str s))
  simp only [World.size_alloc] at b5 bT bS
  obtain ⟨W4, hW4⟩ : ∃ W4, ((((w.alloc (Obj.cells #[Value.int IntKind.i64 0] 3)).alloc (Obj.cells #[Value.int IntKind.i64 0] 23)).alloc (Obj.cells #[Value.string (str text)] 9)).alloc (Obj.cells #[Value.string (str s)] 9)) = W4 := ⟨_, rfl⟩
  have hB4 : Below w.heap.size w W4 := by
    rw [← hW4]; exact ((((Below.refl _ w).alloc (Nat.le_refl _) _).alloc (by simp) _).alloc (by simp; omega) _).alloc (by simp; omega) _
  have hs4 : W4.heap.size = w.heap.size + 4 := by rw [← hW4]; simp
  rw [hW4] at b4 b5 bT bS ⊢
  clear hW4
  refine range_wide (gf := 59) rfl (enters_of Try.func59 (by kernel_rfl) rfl)
    ((places_iter text s ht hs (w.heap.size + 3) (w.heap.size + 2) W4 bS bT).mono (Keep' := fun A B => Below (w.heap.size + 4) A B) (fun _ _ h => h) (fun A B h => ⟨h.size, h.block _ (by omega), h.block _ (by omega)⟩) (Below.refl _ _)) (Below.refl _ _) (fun _ => rfl)
    (fun a b => a.trans b) (fun W l o o' hl _ _ => below_put' _ (by omega))
    (fun A B k o st hk ho hc => (st.block k (Array.getElem?_eq_some_iff.1 ho).1).trans ho)
    (fun pre W => (pre = [] ∧ Boxed W w.heap.size 3 (.int .i64 0) ∧ Boxed W (w.heap.size + 1) 23 (.int .i64 0)) ∧ Below w.heap.size w W)
    (fun c pre W => (c = .ret ∧ ∃ x : Nat, pre = [x] ∧ Boxed W w.heap.size 3 (.int .i64 (x : Int)) ∧ Boxed W (w.heap.size + 1) 23 (.int .i64 0)) ∧ Below w.heap.size w W)
    (fun s A l o o' hs hl ho hc => ⟨⟨hs.1.1, hs.1.2.1.kept (grownBy_putObj' A l o') (by simp; omega), hs.1.2.2.kept (grownBy_putObj' A l o') (by simp; omega)⟩, hs.2.trans (below_put' _ (by omega))⟩)
    (fun c s A l o o' hs hl ho hc => ⟨⟨hs.1.1, hs.1.2.imp fun x h => ⟨h.1, h.2.1.kept (grownBy_putObj' A l o') (by simp; omega), h.2.2.kept (grownBy_putObj' A l o') (by simp; omega)⟩⟩, hs.2.trans (below_put' _ (by omega))⟩)
    (fun s A B hs st => ⟨⟨hs.1.1, (st.block _ hs.1.2.1.lt).trans hs.1.2.1, (st.block _ hs.1.2.2.lt).trans hs.1.2.2⟩, next hs.2 st⟩)
    (fun c s A B hs st => ⟨⟨hs.1.1, hs.1.2.imp fun x h => ⟨h.1, (st.block _ h.2.1.lt).trans h.2.1, (st.block _ h.2.2.lt).trans h.2.2⟩⟩, next hs.2 st⟩)
    (fun o1 o2 _ _ => ⟨⟨rfl, (b4.alloc _).alloc _, (b5.alloc _).alloc _⟩, (hB4.alloc (by omega) _).alloc (by simp; omega) _⟩)
    ?a1 ?assign ?body ?done ?stop
  case assign =>
    intro l x W K hK
    simp only [encPlace]
    gi_wp2
    exact hK
  case body =>
    rintro l pre x W ⟨⟨rfl, h4, h5⟩, hB⟩ hpre
    have c4 := h4.cell
    have c5 := h5.cell
    have f4 := h4.frozen
    have f5 := h5.frozen
    gi_wp2
    have e1 := (h4.set (.int .i64 (x : Int))).kept (grownBy_setCell' (W.setCell ⟨w.heap.size, 0, none⟩ (.int .i64 (x : Int))) (w.heap.size + 1) (.int .i64 0)) (by simp)
    have e2 := (h5.kept (grownBy_setCell' W w.heap.size (.int .i64 (x : Int))) (by simp)).set (.int .i64 0)
    exact ⟨((KeepsOthers.setCell _ _ _).trans (KeepsOthers.setCell _ _ _)).from _, ⟨rfl, x, rfl, e1, e2⟩, (hB.setCell (p := ⟨w.heap.size, 0, none⟩) (Nat.le_refl _) _).setCell (p := ⟨w.heap.size + 1, 0, none⟩) (by simp) _⟩
  case done =>
    rintro D W hD ⟨⟨h0, h4, h5⟩, hB⟩ hK
    have c4 := h4.cell
    have c5 := h5.cell
    have f4 := h4.frozen
    have f5 := h5.frozen
    gi_wp2
    have e1 := (h4.set (.int .i64 0)).kept (grownBy_setCell' (W.setCell ⟨w.heap.size, 0, none⟩ (.int .i64 0)) (w.heap.size + 1) (.int .i64 4)) (by simp)
    have e2 := (h5.kept (grownBy_setCell' W w.heap.size (.int .i64 0)) (by simp)).set (.int .i64 4)
    have hB2 := (hB.setCell (p := ⟨w.heap.size, 0, none⟩) (Nat.le_refl _) (.int .i64 0)).setCell (p := ⟨w.heap.size + 1, 0, none⟩) (by simp) (.int .i64 4)
    have hK2 : ((W.setCell ⟨w.heap.size, 0, none⟩ (.int .i64 0)).setCell ⟨w.heap.size + 1, 0, none⟩ (.int .i64 4)).heap[D]? = some (.deferred (some [])) := by
      rw [Below.heap_setCell _ _ _ _ (by simp; omega), Below.heap_setCell _ _ _ _ (by simp; omega)]; exact hK
    generalize ((W.setCell ⟨w.heap.size, 0, none⟩ (.int .i64 0)).setCell ⟨w.heap.size + 1, 0, none⟩ (.int .i64 4)) = W5 at e1 e2 hB2 hK2 ⊢
    refine ⟨by simp, .inl ⟨_, _, rfl, run_takeDeferred hK2, ?_⟩⟩
    have q1 := (e1.kept (grownBy_putObj' W5 D (.deferred none)) (by simp; omega)).cell
    have q2 := (e2.kept (grownBy_putObj' W5 D (.deferred none)) (by simp; omega)).cell
    have hA2 : allL text s = [] := HA.out.trans h0
    exact ⟨.tuple #[.int .i64 0, .int .i64 4], by simp [results, Try.results12, go_sem, q1, q2], by rw [HE.out, findI, hA2]; rfl, hB2.trans (below_put' _ (by omega))⟩
  case stop =>
    rintro D c pre W hD hpre ⟨⟨rfl, x, rfl, h4, h5⟩, hB⟩ hK
    have c4 := h4.cell
    have c5 := h5.cell
    gi_wp2
    refine ⟨by simp, .inl ⟨_, _, rfl, run_takeDeferred hK, ?_⟩⟩
    have q1 := (h4.kept (grownBy_putObj' W D (.deferred none)) (by simp; omega)).cell
    have q2 := (h5.kept (grownBy_putObj' W D (.deferred none)) (by simp; omega)).cell
    rw [← HA.out] at hpre
    obtain ⟨g1, g2⟩ := head_of_prefix hpre
    exact ⟨.tuple #[.int .i64 (x : Int), .int .i64 0], by simp [results, Try.results12, go_sem, q1, q2], by rw [HE.out, if_neg g2, findI, g1], hB.trans (below_put' _ (by omega))⟩

theorem find_p (text s : List UInt8) (w : World) (ht : text.length ≤ maxLen) (hs : s.length ≤ maxLen) :
    Calls Try.prog 12 #[.string (str text), .string (str s)] w fun e w' => e = .returned (.tuple #[.int .i64 (findI text s), .int .i64 (findE text s)]) ∧ Below w.heap.size w w' := by
  cases hf : far text s with
  | false => exact callsIn_wide.1 (find_in text s w hf)
  | true =>
    have hc := fun w => far_p text s w ht hs
    rw [hf] at hc
    have e1 : findE text s = 3 := by unfold findE; rw [if_pos hf]
    have e2 : findI text s = 0 := by unfold findI allL; rw [if_pos hf]; rfl
    rw [e1, e2]
    clear e1 e2 hf ht hs
    go_enter Try.func12, Try.ntmps12
    go_wp2_with (go_at_call 44; refine (hc _).mono ?_; rintro e w' ⟨rfl, rfl⟩)
    exact bodyPost_ret (v := .tuple #[.int .i64 0, .int .i64 3]) (by simp [results, Try.results12, go_sem]) rfl ⟨rfl, ((Below.refl _ _).alloc (Nat.le_refl _) _).alloc (by simp) _⟩

end Go.Proofs.Ytfgfjapjpiilfaa
