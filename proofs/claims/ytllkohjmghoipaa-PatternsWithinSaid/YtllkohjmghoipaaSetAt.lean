/- A block that holds a set. -/
import Derived.Test.YtllkohjmghoipaaRefA
import Derived.Deep.RegionHeld3
namespace Go.Proofs.Ytllkohjmghoipaa
open Go.RowKit

/-- a block that holds a set -/
def SetAt (w : World) (B : Nat) (s : CSet) : Prop := w.heap[B]? = some (.cells (setC s) 45)
theorem SetAt.lt {w : World} {B : Nat} {s : CSet} (h : SetAt w B s) : B < w.heap.size := (Array.getElem?_eq_some_iff.1 h).1
theorem SetAt.cells {w : World} {B : Nat} {s : CSet} (h : SetAt w B s) :
    w.cell? ⟨B, 0, none⟩ = some (.int .u64 (word s 0 : Int)) ∧ w.cell? ⟨B, 1, none⟩ = some (.int .u64 (word s 1 : Int)) ∧ w.cell? ⟨B, 2, none⟩ = some (.int .u64 (word s 2 : Int)) ∧ w.cell? ⟨B, 3, none⟩ = some (.int .u64 (word s 3 : Int)) := by
  simp [World.cell?, show w.heap[B]? = _ from h, setC]
theorem SetAt.free {w : World} {B : Nat} {s : CSet} (h : SetAt w B s) :
    w.frozen? ⟨B, 0, none⟩ = false ∧ w.frozen? ⟨B, 1, none⟩ = false ∧ w.frozen? ⟨B, 2, none⟩ = false ∧ w.frozen? ⟨B, 3, none⟩ = false := by
  simp [World.frozen?, show w.heap[B]? = _ from h]
theorem SetAt.below {w w' : World} {B N : Nat} {s : CSet} (h : SetAt w B s) (hb : Below N w w') (hN : B < N) : SetAt w' B s := (hb.block B hN).trans h
theorem SetAt.new (w : World) (s : CSet) : SetAt (w.alloc (.cells (setC s) 45)) w.heap.size s := heap_alloc_new w _
theorem SetAt.alloc {w : World} {B : Nat} {s : CSet} (h : SetAt w B s) (o : Obj) : SetAt (w.alloc o) B s := (Below.heap_alloc w o B h.lt).trans h

/-- a set stored over another one -/
def putSet (w : World) (B : Nat) (s : CSet) : World :=
  (((w.setCell ⟨B, 0, none⟩ (.int .u64 (word s 0 : Int))).setCell ⟨B, 1, none⟩ (.int .u64 (word s 1 : Int))).setCell ⟨B, 2, none⟩ (.int .u64 (word s 2 : Int))).setCell ⟨B, 3, none⟩ (.int .u64 (word s 3 : Int))
theorem SetAt.put {w : World} {B : Nat} {s : CSet} (h : SetAt w B s) (s' : CSet) : SetAt (putSet w B s') B s' := by
  unfold SetAt putSet
  rw [heap_setCell_at _ (heap_setCell_at _ (heap_setCell_at _ (heap_setCell_at _ h)))]
  rfl
theorem SetAt.other {w : World} {B B' : Nat} {s : CSet} (h : SetAt w B s) (hB : B ≠ B') (s' : CSet) : SetAt (putSet w B' s') B s := by
  unfold SetAt putSet
  rw [Below.heap_setCell _ _ _ _ hB, Below.heap_setCell _ _ _ _ hB, Below.heap_setCell _ _ _ _ hB, Below.heap_setCell _ _ _ _ hB]
  exact h
theorem below_put {N B : Nat} {a w : World} (h : Below N a w) (hN : N ≤ B) (s : CSet) : Below N a (putSet w B s) :=
  (((h.setCell (p := ⟨B, 0, none⟩) hN _).setCell (p := ⟨B, 1, none⟩) hN _).setCell (p := ⟨B, 2, none⟩) hN _).setCell (p := ⟨B, 3, none⟩) hN _

theorem setC_zero : setC 0#256 = #[.int .u64 0, .int .u64 0, .int .u64 0, .int .u64 0] := rfl
theorem SetAt.zero (w : World) : SetAt (w.alloc (.cells #[.int .u64 0, .int .u64 0, .int .u64 0, .int .u64 0] 45)) w.heap.size 0#256 := SetAt.new w 0#256

theorem SetAt.after {W w w' : World} {B N : Nat} {s : CSet} (h : SetAt W B s) (hb : Below N w w') (hN : B < N) (e : W.heap = w.heap := by rfl) : SetAt w' B s :=
  SetAt.below (w := w) (by unfold SetAt; rw [← e]; exact h) hb hN

end Go.Proofs.Ytllkohjmghoipaa
