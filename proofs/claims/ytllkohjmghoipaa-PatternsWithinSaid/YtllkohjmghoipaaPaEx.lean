/- The elements of the examples. -/
import Derived.Test.YtllkohjmghoipaaPaPat
import Derived.Test.YtllkohjmghoipaaPaMat
import Derived.Test.YtllkohjmghoipaaRefOf
namespace Go.Proofs.Ytllkohjmghoipaa
open Go.RowKit Go.Sort

/-- block B holds an element -/
def ElAt (w : World) (B : Nat) (x : El) : Prop := w.heap[B]? = some (.cells (pcell x).toArray 47)
theorem ElAt.lt {w : World} {B : Nat} {x : El} (h : ElAt w B x) : B < w.heap.size := (Array.getElem?_eq_some_iff.1 h).1
theorem ElAt.cells {w : World} {B : Nat} {x : El} (h : ElAt w B x) :
    w.cell? ⟨B, 0, none⟩ = some (.bool x.gap) ∧ w.cell? ⟨B, 1, none⟩ = some (.int .u64 (word x.cls 0 : Int)) ∧ w.cell? ⟨B, 2, none⟩ = some (.int .u64 (word x.cls 1 : Int)) ∧ w.cell? ⟨B, 3, none⟩ = some (.int .u64 (word x.cls 2 : Int)) ∧ w.cell? ⟨B, 4, none⟩ = some (.int .u64 (word x.cls 3 : Int)) ∧ w.cell? ⟨B, 5, none⟩ = some (.int .i64 x.low) ∧ w.cell? ⟨B, 6, none⟩ = some (.int .i64 x.high) :=
  ⟨cell_in h rfl, cell_in h rfl, cell_in h rfl, cell_in h rfl, cell_in h rfl, cell_in h rfl, cell_in h rfl⟩
theorem ElAt.free {w : World} {B : Nat} {x : El} (h : ElAt w B x) (i : Nat) : w.frozen? ⟨B, i, none⟩ = false := free_in h
theorem ElAt.below {w w' : World} {B N : Nat} {x : El} (h : ElAt w B x) (hb : Below N w w') (hN : B < N) : ElAt w' B x := (hb.block B hN).trans h
theorem ElAt.alloc {w : World} {B : Nat} {x : El} (h : ElAt w B x) (o : Obj) : ElAt (w.alloc o) B x := (Below.heap_alloc w o B h.lt).trans h
def zeroEl : El := ⟨false, 0#256, 0, 0⟩
abbrev zcell : Array Value := #[.bool false, .int .u64 0, .int .u64 0, .int .u64 0, .int .u64 0, .int .i64 0, .int .i64 0]
theorem zcell_eq : (pcell zeroEl).toArray = zcell := by
  have h0 : word 0#256 0 = 0 := by decide
  have h1 : word 0#256 1 = 0 := by decide
  have h2 : word 0#256 2 = 0 := by decide
  have h3 : word 0#256 3 = 0 := by decide
  simp [pcell, zeroEl, h0, h1, h2, h3]
theorem ElAt.zero (w : World) : ElAt (w.alloc (.cells zcell 47)) w.heap.size zeroEl := by
  unfold ElAt; rw [zcell_eq]; exact heap_alloc_new w _
def putEl (w : World) (B : Nat) (x : El) : World :=
  ((((((w.setCell ⟨B, 0, none⟩ (.bool x.gap)).setCell ⟨B, 1, none⟩ (.int .u64 (word x.cls 0 : Int))).setCell ⟨B, 2, none⟩ (.int .u64 (word x.cls 1 : Int))).setCell ⟨B, 3, none⟩ (.int .u64 (word x.cls 2 : Int))).setCell ⟨B, 4, none⟩ (.int .u64 (word x.cls 3 : Int))).setCell ⟨B, 5, none⟩ (.int .i64 x.low)).setCell ⟨B, 6, none⟩ (.int .i64 x.high)
theorem ElAt.put {w : World} {B : Nat} {x : El} (h : ElAt w B x) (y : El) : ElAt (putEl w B y) B y := by
  unfold ElAt putEl
  rw [heap_setCell_at _ (heap_setCell_at _ (heap_setCell_at _ (heap_setCell_at _ (heap_setCell_at _ (heap_setCell_at _ (heap_setCell_at _ h))))))]
  rfl
theorem below_putEl {N B : Nat} {a w : World} (h : Below N a w) (hN : N ≤ B) (x : El) : Below N a (putEl w B x) :=
  ((((((h.setCell (p := ⟨B, 0, none⟩) hN _).setCell (p := ⟨B, 1, none⟩) hN _).setCell (p := ⟨B, 2, none⟩) hN _).setCell (p := ⟨B, 3, none⟩) hN _).setCell (p := ⟨B, 4, none⟩) hN _).setCell (p := ⟨B, 5, none⟩) hN _).setCell (p := ⟨B, 6, none⟩) hN _
def elV (x : El) : Value := .agg #[.bool x.gap, .int .u64 (word x.cls 0 : Int), .int .u64 (word x.cls 1 : Int), .int .u64 (word x.cls 2 : Int), .int .u64 (word x.cls 3 : Int), .int .i64 x.low, .int .i64 x.high]
def byteV (b : UInt8) : El := ⟨false, ofL [b], 0, 0⟩
set_option maxRecDepth 100000 in
set_option maxHeartbeats 4000000 in
theorem byte_p (b : UInt8) (w : World) : Calls Try.prog 31 #[.int .u8 (b.toNat : Int)] w fun e w' => e = .returned (elV (byteV b)) ∧ Below w.heap.size w w' := by
  have hr : Row ((w.alloc (.cells zcell 47)).alloc (.cells #[.int .u8 (b.toNat : Int)] 5)) 1 (.slice (some ⟨w.heap.size + 1, 0, none⟩) 1 1) 1 (bcells [b]) := by
    have := Row.lit (w.alloc (.cells zcell 47)) 5 1 1 (bcells [b]) (by simp [bcells]) (by unfold maxLen; omega)
    rw [World.size_alloc] at this
    exact this
  have K := Lib.hid (of_r _ [b] _ hr)
  have hz := (ElAt.zero w).alloc (.cells #[.int .u8 (b.toNat : Int)] 5)
  have HZ := Lib.hid hz
  have hb0 : Below w.heap.size w ((w.alloc (.cells zcell 47)).alloc (.cells #[.int .u8 (b.toNat : Int)] 5)) := ((Below.refl _ _).alloc (Nat.le_refl _) _).alloc (by simp) _
  have HB0 := Lib.hid hb0
  clear hr hz hb0
  go_enter Try.func31, Try.ntmps31
  go_wp2_with fail
  refine K.out.mono ?_
  rintro e w1 ⟨rfl, hb1⟩
  have h1 := HZ.out.below hb1 (by simp; omega)
  obtain ⟨c0, c1, c2, c3, c4, c5, c6⟩ := h1.cells
  have f0 := h1.free 0
  have f1 := h1.free 1
  have f2 := h1.free 2
  have f3 := h1.free 3
  have f4 := h1.free 4
  have f5 := h1.free 5
  have f6 := h1.free 6
  have HB1 := Lib.hid (next HB0.out hb1)
  have H1 := Lib.hid h1
  clear hb1 h1
  unfold setV setC
  go_wp2_with fail
  obtain ⟨q0, q1, q2, q3, q4, q5, q6⟩ := (H1.out.put (byteV b)).cells
  show bodyPost _ _ _ _ _ (putEl w1 w.heap.size (byteV b))
  exact bodyPost_ret (v := elV (byteV b)) (by unfold elV; simp [results, Try.results31, go_sem, q0, q1, q2, q3, q4, q5, q6]) rfl ⟨rfl, below_putEl HB1.out (Nat.le_refl _) _⟩
set_option maxRecDepth 100000 in
set_option maxHeartbeats 4000000 in
theorem gap_p (low high : Int) (w : World) : Calls Try.prog 46 #[.int .i64 low, .int .i64 high] w fun e w' => e = .returned (elV (gapV low high)) ∧ Below w.heap.size w w' := by
  have h1 := ElAt.zero w
  obtain ⟨c0, c1, c2, c3, c4, c5, c6⟩ := h1.cells
  go_enter Try.func46, Try.ntmps46
  go_wp2_with fail
  have hq : ElAt (w.alloc (.cells (gcell low high) 47)) w.heap.size (gapV low high) := by
    unfold ElAt; rw [gcell_eq]; exact heap_alloc_new w _
  obtain ⟨q0, q1, q2, q3, q4, q5, q6⟩ := hq.cells
  exact bodyPost_ret (v := elV (gapV low high)) (by unfold elV; simp [results, Try.results46, go_sem, q0, q1, q2, q3, q4, q5, q6]) rfl ⟨rfl, (Below.refl _ _).alloc (Nat.le_refl _) _⟩
/-- the pattern of the document's example -/
def exV : List El := [byteV 97, gapV 1 2, byteV 98]
set_option maxRecDepth 100000 in
set_option maxHeartbeats 4000000 in
theorem example_p (w : World) : Calls Try.prog 30 #[] w fun e w' => ∃ a cap, e = .returned (.slice a 3 cap) ∧ Pats w' (.slice a 3 cap) exV ∧ Below w.heap.size w w' := by
  go_enter Try.func30, Try.ntmps30
  go_wp2_with fail
  refine (byte_p 97 _).mono ?_
  rintro e w1 ⟨rfl, hb1⟩
  have HB1 := Lib.hid hb1
  clear hb1
  unfold elV
  go_wp2_with fail
  refine (gap_p 1 2 _).mono ?_
  rintro e w2 ⟨rfl, hb2⟩
  have HB2 := Lib.hid (next HB1.out hb2)
  clear hb2
  unfold elV
  go_wp2_with fail
  refine (byte_p 98 _).mono ?_
  rintro e w3 ⟨rfl, hb3⟩
  have HB3 := Lib.hid (next HB2.out hb3)
  clear hb3
  have HR := Lib.hid (show Pats (w3.alloc (.cells (pcells exV).toArray 47)) (.slice (some ⟨w3.heap.size, 0, none⟩) 3 3) exV from Row.lit w3 47 7 3 (pcells exV) rfl (by unfold maxLen; omega))
  unfold elV
  go_wp2_with fail
  go_ret
  exact ⟨_, _, rfl, HR.out, next HB3.out ((Below.refl _ _).alloc (Nat.le_refl _) _)⟩
end Go.Proofs.Ytllkohjmghoipaa
