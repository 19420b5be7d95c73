/- Layer 27: the iterator 'cut' of package blocks: what it yields, in order. -/
import Derived.Test.YtfmngphmmhjicaaDoorProg
import Derived.Test.YtfmngphmmhjicaaDoorRange
import Derived.Test.YtfmngphmmhjicaaDoorMem
namespace Go.Proofs.YtfmngphmmhjicaaDoor
open Go.RowKit Go.Shelf
attribute [local go_sem] Oper.semAt_some

set_option maxHeartbeats 400000 in
theorem cut_p (s : ByteArray) (b : Int) (w : World) :
    Calls Tryd.prog 16 #[.string s, .int .i64 b] w fun e w' =>
      e = .returned (.func (.func 23) #[] #[.pointer (some ⟨w.heap.size, 0, none⟩), .pointer (some ⟨w.heap.size + 1, 0, none⟩)]) ∧
      w' = (w.alloc (.cells #[.string s] 9)).alloc (.cells #[.int .i64 b] 3) := by
  go_enter Tryd.func16, Tryd.ntmps16
  go_wp2
  go_ret
  exact ⟨rfl, rfl⟩

/-- the bytes of a block: those that are there, and zeros -/
def padTo (b : Nat) (l : List UInt8) : List UInt8 := l.take b ++ List.replicate (b - l.length) 0
def item (cs : List UInt8) (b k : Nat) : List UInt8 × Nat := (padTo b (cs.drop (k * b)), min b (cs.length - k * b))
def items (cs : List UInt8) (b : Nat) : List (List UInt8 × Nat) := (List.range ((cs.length + b - 1) / b)).map (item cs b)
def encCut (x : List UInt8 × Nat) : Array Value := #[.string (str x.1), .int .i64 x.2]

theorem length_padTo (b : Nat) (l : List UInt8) : (padTo b l).length = b := by simp [padTo]; omega
theorem item_at {cs : List UInt8} {b k : Nat} (hb : 1 ≤ b) (h : k * b < cs.length) : k < (cs.length + b - 1) / b := by
  rw [Nat.lt_div_iff_mul_lt (by omega)]; omega
theorem items_done {cs : List UInt8} {b k : Nat} (hb : 1 ≤ b) (h : cs.length ≤ k * b) : (items cs b).take k = items cs b := by
  refine List.take_of_length_le ?_
  simp only [items, List.length_map, List.length_range]
  have : (cs.length + b - 1) / b < k + 1 := by
    rw [Nat.div_lt_iff_lt_mul (by omega), Nat.add_mul]; omega
  omega
theorem items_take {cs : List UInt8} {b k : Nat} (hb : 1 ≤ b) (h : k * b < cs.length) : (items cs b).take (k + 1) = (items cs b).take k ++ [item cs b k] := by
  have hk := item_at hb h
  rw [List.take_succ_eq_append_getElem (by simp [items]; exact hk)]
  simp [items]
theorem items_prefix {cs : List UInt8} {b k : Nat} (hb : 1 ≤ b) (h : k * b < cs.length) : (items cs b).take k ++ [item cs b k] <+: items cs b := by
  rw [← items_take hb h]; exact List.take_prefix _ _

theorem rest_item {cs : List UInt8} {b k : Nat} (hb : 1 ≤ b) (h : k * b < cs.length) : (str (cs.drop (k * b))).extract (item cs b k).2 (cs.length - k * b) = str (cs.drop ((k + 1) * b)) := by
  rw [str_drop _ _ _ (by simp), List.drop_drop]
  congr 1
  simp only [item]
  rcases Nat.le_total b (cs.length - k * b) with g | g
  · rw [Nat.min_eq_left g, Nat.add_mul, Nat.one_mul]
  · rw [Nat.min_eq_right g, List.drop_eq_nil_of_le (by omega), List.drop_eq_nil_of_le (by rw [Nat.add_mul]; omega)]

/-- the sixteen cells behind the copy -/
def rowOf (b : Nat) (l : List UInt8) : Array Value := (bcells (l.take b) ++ List.replicate (16 - min l.length b) (Value.int .u8 0)).toArray
theorem rowOf_take (b : Nat) (hb : b ≤ 16) (l : List UInt8) : (rowOf b l).toList.take (padTo b l).length = bcells (padTo b l) := by
  rw [length_padTo]
  simp only [rowOf, padTo, bcells, List.map_append, List.map_replicate, List.toList_toArray]
  rw [List.take_append]
  have e1 : (List.map (fun b => Value.int IntKind.u8 (b.toNat : Int)) (List.take b l)).length = min b l.length := by simp
  rw [List.take_of_length_le (by rw [e1]; omega), e1, List.take_replicate]
  congr 2
  omega

set_option maxHeartbeats 1000000 in
theorem cut_body (cs : List UInt8) (b : Nat) (hb1 : 1 ≤ b) (hb2 : b ≤ 16) (hlen : cs.length ≤ 1000) (n l Bc Bb : Nat) (hBB : Bc < Bb) (J Jx : List (List UInt8 × Nat) → World → Prop)
    (hJ : ∀ s A B, J s A → A.grownBy B (some Bc) → J s B)
    (hY : ∀ pre x W1, J pre W1 → pre ++ [x] <+: items cs b → YieldAt Fence.wide (n - 1) Tryd.prog l (encCut x) W1 fun e W' =>
      (e = .returned (.bool true) ∧ J (pre ++ [x]) W' ∧ (W1.heap.size ≤ W'.heap.size ∧ W'.heap[Bc]? = W1.heap[Bc]? ∧ W'.heap[Bb]? = W1.heap[Bb]?)) ∨ (e = .returned (.bool false) ∧ Jx (pre ++ [x]) W'))
    (W : World) (hc : Boxed W Bc 9 (.string (str cs))) (hb : Boxed W Bb 3 (.int .i64 b)) (h0 : J [] W) :
    CallsIn Fence.wide n Tryd.prog 23 #[.func (.yield l) #[] #[], .pointer (some ⟨Bc, 0, none⟩), .pointer (some ⟨Bb, 0, none⟩)] W fun e W' =>
      (∃ v, e = .returned v) ∧ (J (items cs b) W' ∨ ∃ pre, pre <+: items cs b ∧ Jx pre W') := by
  refine callsIn_of_wp Tryd.func23 rfl trivial ?_ rfl
  simp only [Tryd.ntmps23, List.size_toArray, List.length_cons, List.length_nil, Nat.reduceAdd, Nat.reduceSub, Array.replicate_succ, Array.replicate_zero, List.push_toArray, List.append_toArray, List.nil_append, List.cons_append]
  gi_wp2
  gi_loopw [] (fun wr => ∃ k : Nat, Boxed wr Bc 9 (.string (str (cs.drop (k * b)))) ∧ Boxed wr Bb 3 (.int .i64 b) ∧ J ((items cs b).take k) wr ∧ k * b ≤ cs.length + b)
    (fun wr => match wr.cell? ⟨Bc, 0, none⟩ with | some (.string s) => s.size | _ => 0)
  case atStart => exact ⟨0, by simpa using hc, hb, by simpa using h0, by omega⟩
  case round =>
    obtain ⟨k, hck, hbk, hJk, hkb⟩ := hrel
    have c1 := hck.cell
    have c2 := hbk.cell
    have l1 := hck.lt
    have l2 := hbk.lt
    by_cases hd : k * b < cs.length
    · have hsz : (str (cs.drop (k * b))).size = cs.length - k * b := by rw [size_str, List.length_drop]
      have i0 : (0 : Int) ≤ (b : Int) := by omega
      have i1 : (b : Int) ≤ 16 := by omega
      have hcp : (Builtin.copy_ #[49, 9] 3 #[.slice (some ⟨wr.heap.size, 0, none⟩) b 16, .string (str (cs.drop (k * b)))]).run Tryd.prog ((wr.alloc (.cells #[.int .u8 0, .int .u8 0, .int .u8 0, .int .u8 0, .int .u8 0, .int .u8 0, .int .u8 0, .int .u8 0, .int .u8 0, .int .u8 0, .int .u8 0, .int .u8 0, .int .u8 0, .int .u8 0, .int .u8 0, .int .u8 0] 59)).drew) =
          .ok (.int .i64 ((item cs b k).2 : Int)) ((wr.alloc (.cells (rowOf b (cs.drop (k * b))) 59)).drew) := by
        have := run_copy_string (P := Tryd.prog) ((wr.alloc (.cells #[.int .u8 0, .int .u8 0, .int .u8 0, .int .u8 0, .int .u8 0, .int .u8 0, .int .u8 0, .int .u8 0, .int .u8 0, .int .u8 0, .int .u8 0, .int .u8 0, .int .u8 0, .int .u8 0, .int .u8 0, .int .u8 0] 59)).drew) 49 9 3 5 wr.heap.size 0 b 16 (cs.drop (k * b)) _ 59 Tryd.underlying49 (by kernel_rfl) (heap_alloc_new wr _) (by simp; omega)
        rw [this, setRow_alloc_drew]
        have e1 : min (List.drop (k * b) cs).length b = (item cs b k).2 := by simp [item]; omega
        have e2 : (cs.drop (k * b)).take (min (List.drop (k * b) cs).length b) = (cs.drop (k * b)).take b := by
          rcases Nat.le_total (List.drop (k * b) cs).length b with h | h
          · rw [Nat.min_eq_left h, List.take_of_length_le (Nat.le_refl _), List.take_of_length_le h]
          · rw [Nat.min_eq_right h]
        rw [e2, e1, show (item cs b k).2 = min (List.drop (k * b) cs).length b by simp [item]; omega]
        simp only [rowOf, goInt]
        congr 4
        rw [Nat.zero_add, List.take_zero, List.nil_append]
        congr 2
        show List.drop _ (List.replicate 16 (Value.int .u8 0)) = _
        rw [List.drop_replicate]
      have hcv : (Go.convert 49 9 (.slice (some ⟨wr.heap.size, 0, none⟩) b 16)).run Tryd.prog ((wr.alloc (.cells (rowOf b (cs.drop (k * b))) 59)).drew) = .ok (.string (str (item cs b k).1)) ((wr.alloc (.cells (rowOf b (cs.drop (k * b))) 59)).drew) :=
        run_bytes_str ((wr.alloc (.cells (rowOf b (cs.drop (k * b))) 59)).drew) _ _ 5 Tryd.underlying49 Tryd.underlying5 Tryd.underlying9 _ _ _ _ _ _ (heap_alloc_new wr _) (rowOf_take b hb2 _) b (length_padTo _ _).symm
      have g1 : wr.grownBy ((wr.alloc (.cells (rowOf b (cs.drop (k * b))) 59)).drew) (some Bc) := ⟨rfl, rfl, rfl, by simp, fun j hj _ => Below.heap_alloc wr _ j hj⟩
      have hJ2 := hJ _ _ _ hJk g1
      have hc2 : Boxed ((wr.alloc (.cells (rowOf b (cs.drop (k * b))) 59)).drew) Bc 9 (.string (str (cs.drop (k * b)))) := hck.alloc _
      have hb2' : Boxed ((wr.alloc (.cells (rowOf b (cs.drop (k * b))) 59)).drew) Bb 3 (.int .i64 b) := hbk.alloc _
      obtain ⟨fn, tmps, assign, body, hy, hR⟩ := hY _ (item cs b k) _ hJ2 (items_prefix hb1 hd)
      simp only [encCut] at hy
      have hn1 : (item cs b k).2 ≤ cs.length - k * b := by simp [item]; omega
      gi_wp2
      gi_region
      gi_wp2
      refine ⟨fun h => (by cases h), hR.mono ?_⟩
      rintro e W3 (⟨rfl, hJ3, hs3, hc3, hb3⟩ | ⟨rfl, hJx3⟩)
      · have hc4 : Boxed W3 Bc 9 (.string (str (cs.drop (k * b)))) := hc3.trans hc2
        have hb4 : Boxed W3 Bb 3 (.int .i64 b) := hb3.trans hb2'
        have c3 := hc4.cell
        have f3 := hc4.frozen
        have hx := rest_item hb1 hd
        have HX := Lib.hid hx
        clear hx
        gi_wp2
        rw [HX.out]
        have hc5 : Boxed (W3.setCell ⟨Bc, 0, none⟩ (.string (str (cs.drop ((k + 1) * b))))) Bc 9 (.string (str (cs.drop ((k + 1) * b)))) := hc4.set _
        refine ⟨⟨k + 1, hc5, hb4.kept (grownBy_setCell' _ _ _) (by simp; omega), ?_, ?_⟩, ?_⟩
        · rw [items_take hb1 hd]; exact hJ _ _ _ hJ3 (grownBy_setCell' _ _ _)
        · rw [Nat.add_mul]; omega
        · rw [hc5.cell, c1]
          simp only [size_str, List.length_drop, Nat.add_mul]
          omega
      · gi_wp2
        refine bodyPost_ret (results_none rfl _ _ _) rfl ?_
        exact ⟨⟨_, rfl⟩, .inr ⟨_, items_prefix hb1 hd, hJx3⟩⟩
    · have hsz : (str (cs.drop (k * b))).size = 0 := by rw [size_str, List.length_drop]; omega
      gi_wp2
      go_end0
      exact ⟨⟨_, rfl⟩, .inl (by rw [items_done hb1 (by omega)] at hJk; exact hJk)⟩

/-- What a round must keep for 'cut'. -/
def KeepCut (Bc Bb : Nat) (A B : World) : Prop := A.heap.size ≤ B.heap.size ∧ B.heap[Bc]? = A.heap[Bc]? ∧ B.heap[Bb]? = A.heap[Bb]?
theorem KeepCut.trans {Bc Bb : Nat} {A B C : World} (h : KeepCut Bc Bb A B) (k : KeepCut Bc Bb B C) : KeepCut Bc Bb A C :=
  ⟨Nat.le_trans h.1 k.1, k.2.1.trans h.2.1, k.2.2.trans h.2.2⟩
theorem KeepCut.put {Bc Bb l : Nat} {W : World} {o' : Obj} (h1 : Bc ≠ l) (h2 : Bb ≠ l) : KeepCut Bc Bb W (W.putObj l o') :=
  ⟨by simp, World.putObj_heap_other h1, World.putObj_heap_other h2⟩

theorem cut_iter (cs : List UInt8) (b : Nat) (hb1 : 1 ≤ b) (hb2 : b ≤ 16) (hlen : cs.length ≤ 1000) (Bc Bb : Nat) (hBB : Bc < Bb) (w : World)
    (hc : Boxed w Bc 9 (.string (str cs))) (hb : Boxed w Bb 3 (.int .i64 b)) :
    Iter Tryd.prog 23 #[.pointer (some ⟨Bc, 0, none⟩), .pointer (some ⟨Bb, 0, none⟩)] encCut (fun A B => A.grownBy B (some Bc)) (KeepCut Bc Bb) (items cs b) w :=
  fun n l J Jx W hW hJ _ hY h0 =>
    cut_body cs b hb1 hb2 hlen n l Bc Bb hBB J Jx hJ hY W ((hW.block Bc hc.lt).trans hc) ((hW.block Bb hb.lt).trans hb) h0

end Go.Proofs.YtfmngphmmhjicaaDoor
