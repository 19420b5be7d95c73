/- What the laws of classes share. -/
import Derived.Test.YtooiegejchcbhaaDoorArgSet
import Derived.Test.YtooiegejchcbhaaDoorKApart
import Derived.Test.YtooiegejchcbhaaDoorKLaid
import Derived.Laws.BytesArg
import Derived.Lib.QuietBelow
import Derived.BigQuiet
namespace Go.Proofs.YtooiegejchcbhaaDoor
open Go.RowKit

theorem eq_self (w : World) (s : CSet) : (Op.equalIn 10000 24 (.agg #[.int .u64 (word s 0 : Int), .int .u64 (word s 1 : Int), .int .u64 (word s 2 : Int), .int .u64 (word s 3 : Int)]) (.agg #[.int .u64 (word s 0 : Int), .int .u64 (word s 1 : Int), .int .u64 (word s 2 : Int), .int .u64 (word s 3 : Int)])).run Tryd.prog w = .ok true w :=
  (eq_set w s s).trans (by rw [decide_eq_true rfl])
theorem eq_zero (w : World) : (Op.equalIn 10000 24 (.agg #[.int .u64 0, .int .u64 0, .int .u64 0, .int .u64 0]) (.agg #[.int .u64 0, .int .u64 0, .int .u64 0, .int .u64 0])).run Tryd.prog w = .ok true w := eq_self w 0#256
theorem eq_empty (w : World) (s : CSet) : (Op.equalIn 10000 24 (.agg #[.int .u64 (word s 0 : Int), .int .u64 (word s 1 : Int), .int .u64 (word s 2 : Int), .int .u64 (word s 3 : Int)]) (.agg #[.int .u64 0, .int .u64 0, .int .u64 0, .int .u64 0])).run Tryd.prog w = .ok (decide (s = 0#256)) w := eq_set w s 0#256

/-- two sets in the blocks made first -/
structure Hd2 (w : World) (a b : CSet) (W : World) : Prop where
  sa : SetAt W w.heap.size a
  sb : SetAt W (w.heap.size + 1) b
  bel : Below w.heap.size w W
theorem Hd2.keep {w W W' : World} {a b : CSet} {n : Nat} (h : Hd2 w a b W) (hb : Below n W W') (hn : n = W.heap.size) : Hd2 w a b W' := by
  subst hn
  exact ⟨h.sa.below hb h.sa.lt, h.sb.below hb h.sb.lt, next h.bel hb⟩
theorem Hd2.start (w : World) (a b : CSet) : Hd2 w a b ((w.alloc (.cells (setC a) 24)).alloc (.cells (setC b) 24)) := by
  have h2 := SetAt.new (w.alloc (.cells (setC a) 24)) b
  rw [World.size_alloc] at h2
  exact ⟨(SetAt.new w a).alloc _, h2, ((Below.refl _ _).alloc (Nat.le_refl _) _).alloc (by simp) _⟩
theorem Hd2.cells {w W : World} {a b : CSet} (h : Hd2 w a b W) :
    (W.cell? ⟨w.heap.size, 0, none⟩ = some (.int .u64 (word a 0 : Int)) ∧ W.cell? ⟨w.heap.size, 1, none⟩ = some (.int .u64 (word a 1 : Int)) ∧ W.cell? ⟨w.heap.size, 2, none⟩ = some (.int .u64 (word a 2 : Int)) ∧ W.cell? ⟨w.heap.size, 3, none⟩ = some (.int .u64 (word a 3 : Int))) ∧
    (W.cell? ⟨w.heap.size + 1, 0, none⟩ = some (.int .u64 (word b 0 : Int)) ∧ W.cell? ⟨w.heap.size + 1, 1, none⟩ = some (.int .u64 (word b 1 : Int)) ∧ W.cell? ⟨w.heap.size + 1, 2, none⟩ = some (.int .u64 (word b 2 : Int)) ∧ W.cell? ⟨w.heap.size + 1, 3, none⟩ = some (.int .u64 (word b 3 : Int))) := ⟨h.sa.cells, h.sb.cells⟩

/-- string of a slice of bytes -/
theorem row_str {w : World} {v : Value} {l : List UInt8} (h : Row w 1 v l.length (bcells l)) : (convert 39 9 v).run Tryd.prog w = .ok (.string (str l)) w := by
  obtain ⟨h1, h2, a, cap, rfl, h4, h3⟩ := h
  by_cases hz : l.length = 0
  · obtain rfl : l = [] := List.length_eq_zero_iff.1 hz
    show (convert 39 9 (.slice a 0 cap)).run Tryd.prog w = .ok (.string (str [])) w
    rw [run_convert_bytes_string w 39 9 5 _ 0 cap Tryd.underlying39 Tryd.underlying5 Tryd.underlying9]
    cases a <;> simp [Conv.bytesToString, loadCells]
    all_goals rfl
  · rcases h3 with h3 | ⟨g, o, rfl, hc⟩
    · exact absurd h3 hz
    · rw [← strOfNums_bytes]
      refine run_convert_bytes_arg w 39 5 Tryd.underlying39 Tryd.underlying5 g o l.length cap _ (by simp) (fun i hi => ?_) _ Tryd.underlying9
      rw [hc i (by omega)]
      simp [bcells, List.getElem?_eq_getElem hi, List.getD]

theorem list_cnt (s : CSet) : cntB s 256 = (listS s).length := by
  unfold cntB listS listTo
  rw [List.length_map, List.countP_eq_length_filter]

abbrev SetC (W : World) (B : Nat) (s : CSet) : Prop :=
  W.cell? ⟨B, 0, none⟩ = some (.int .u64 (word s 0 : Int)) ∧ W.cell? ⟨B, 1, none⟩ = some (.int .u64 (word s 1 : Int)) ∧ W.cell? ⟨B, 2, none⟩ = some (.int .u64 (word s 2 : Int)) ∧ W.cell? ⟨B, 3, none⟩ = some (.int .u64 (word s 3 : Int))
theorem SetC.keep {W W' : World} {B : Nat} {s : CSet} (hl : B < W.heap.size) (hb : Below W.heap.size W W') (h : SetC W B s) : SetC W' B s := by
  obtain ⟨c0, c1, c2, c3⟩ := h
  exact ⟨(hb.cell (p := ⟨B, 0, none⟩) hl).trans c0, (hb.cell (p := ⟨B, 1, none⟩) hl).trans c1, (hb.cell (p := ⟨B, 2, none⟩) hl).trans c2, (hb.cell (p := ⟨B, 3, none⟩) hl).trans c3⟩
/-- two sets that the region reads; W0 is the world in which it begins -/
abbrev HR (W0 : World) (B C : Nat) (s t : CSet) (W : World) : Prop := (SetC W B s ∧ SetC W C t) ∧ (B < W0.heap.size ∧ C < W0.heap.size) ∧ Below W0.heap.size W0 W
theorem HR.keep {W0 W W' : World} {B C : Nat} {s t : CSet} (hb : Below W.heap.size W W') (h : HR W0 B C s t W) : HR W0 B C s t W' :=
  ⟨⟨SetC.keep (Nat.lt_of_lt_of_le h.2.1.1 h.2.2.size) hb h.1.1, SetC.keep (Nat.lt_of_lt_of_le h.2.1.2 h.2.2.size) hb h.1.2⟩, h.2.1, next h.2.2 hb⟩
theorem HR.any {W0 W W' : World} {B C : Nat} {s t : CSet} (h : HR W0 B C s t W) (h1 : W'.os = W.os) (h2 : W'.tape = W.tape) (h3 : W'.output = W.output) (hs : W0.heap.size ≤ W'.heap.size) (hb : ∀ k, k < W0.heap.size → W'.heap[k]? = W.heap[k]?) : HR W0 B C s t W' := by
  obtain ⟨⟨⟨a0, a1, a2, a3⟩, ⟨b0, b1, b2, b3⟩⟩, hl, hB⟩ := h
  have e0 := hb B hl.1
  have e1 := hb C hl.2
  refine ⟨⟨⟨?_, ?_, ?_, ?_⟩, ⟨?_, ?_, ?_, ?_⟩⟩, hl, ⟨h1.trans hB.os, h2.trans hB.tape, h3.trans hB.output, hs, fun k hk => (hb k hk).trans (hB.block k hk)⟩⟩ <;> (unfold World.cell? at *; simp only [e0, e1]; assumption)
theorem HR.set4 {W0 W : World} {B C K : Nat} {s t : CSet} {x0 x1 x2 x3 : Value} (h : HR W0 B C s t W) (hK : W0.heap.size ≤ K) :
    HR W0 B C s t ((((W.setCell ⟨K, 0, none⟩ x0).setCell ⟨K, 1, none⟩ x1).setCell ⟨K, 2, none⟩ x2).setCell ⟨K, 3, none⟩ x3) :=
  h.any rfl rfl rfl (by have := h.2.2.size; simp [World.size_setCell]; omega) fun k hk => by
    have hne : k ≠ K := by omega
    rw [Below.heap_setCell _ _ _ _ hne, Below.heap_setCell _ _ _ _ hne, Below.heap_setCell _ _ _ _ hne, Below.heap_setCell _ _ _ _ hne]
theorem HR.swap {W0 W : World} {B C : Nat} {s t : CSet} {o o' : Obj} (h : HR W0 B C s t (W.alloc o)) (hK : W0.heap.size ≤ W.heap.size) : HR W0 B C s t (W.alloc o') :=
  h.any rfl rfl rfl (by simp; omega) fun k hk => by rw [Below.heap_alloc _ _ _ (by omega), Below.heap_alloc _ _ _ (by omega)]
theorem HR.swap2 {W0 W : World} {B C : Nat} {s t : CSet} {o o' o2 o2' : Obj} (h : HR W0 B C s t ((W.alloc o).alloc o2)) (hK : W0.heap.size ≤ W.heap.size) : HR W0 B C s t ((W.alloc o').alloc o2') :=
  h.any rfl rfl rfl (by simp; omega) fun k hk => by rw [Below.heap_alloc _ _ _ (by simp; omega), Below.heap_alloc _ _ _ (by omega), Below.heap_alloc _ _ _ (by simp; omega), Below.heap_alloc _ _ _ (by omega)]
theorem HR.setA {W0 W : World} {B C K : Nat} {s t : CSet} {o o' : Obj} {x0 x1 x2 x3 : Value} (h : HR W0 B C s t (W.alloc o)) (hK : W0.heap.size ≤ K) (hW : W0.heap.size ≤ W.heap.size) :
    HR W0 B C s t (((((W.setCell ⟨K, 0, none⟩ x0).setCell ⟨K, 1, none⟩ x1).setCell ⟨K, 2, none⟩ x2).setCell ⟨K, 3, none⟩ x3).alloc o') :=
  h.any rfl rfl rfl (by simp [World.size_setCell]; omega) fun k hk => by
    have hne : k ≠ K := by omega
    rw [Below.heap_alloc _ _ _ (by simp [World.size_setCell]; omega), Below.heap_setCell _ _ _ _ hne, Below.heap_setCell _ _ _ _ hne, Below.heap_setCell _ _ _ _ hne, Below.heap_setCell _ _ _ _ hne, Below.heap_alloc _ _ _ (by omega)]

theorem later' {W W' : World} {n B : Nat} {o : Obj} (hb : Below n W W') (h : W.heap[B]? = some o) (hn : n = W.heap.size) : W'.heap[B]? = some o := by subst hn; exact (hb.block B (Array.getElem?_eq_some_iff.1 h).1).trans h
theorem newA (w : World) (o : Obj) : (w.alloc o).heap[w.heap.size]? = some o := heap_alloc_new w o
theorem newB (w : World) (o o2 : Obj) : ((w.alloc o).alloc o2).heap[w.heap.size]? = some o := (Below.heap_alloc _ _ _ (by simp)).trans (heap_alloc_new w o)
theorem newC (w : World) (o o2 : Obj) : ((w.alloc o).alloc o2).heap[w.heap.size + 1]? = some o2 := by have := heap_alloc_new (w.alloc o) o2; rwa [World.size_alloc] at this
theorem oldA {W : World} {B : Nat} {o o' : Obj} (h : W.heap[B]? = some o) : (W.alloc o').heap[B]? = some o := (Below.heap_alloc _ _ _ (Array.getElem?_eq_some_iff.1 h).1).trans h
abbrev zObj : Obj := .cells #[.int .u64 0, .int .u64 0, .int .u64 0, .int .u64 0] 24 (0, 0)
abbrev sObj (s : CSet) : Obj := .cells #[.int .u64 (word s 0 : Int), .int .u64 (word s 1 : Int), .int .u64 (word s 2 : Int), .int .u64 (word s 3 : Int)] 24 (0, 0)
theorem zeros0 {W : World} {B : Nat} (h : W.heap[B]? = some (.cells #[.int .u64 0, .int .u64 0, .int .u64 0, .int .u64 0] 24 (0, 0))) :
    (W.cell? ⟨B, 0, none⟩ = some (.int .u64 0) ∧ W.cell? ⟨B, 1, none⟩ = some (.int .u64 0) ∧ W.cell? ⟨B, 2, none⟩ = some (.int .u64 0) ∧ W.cell? ⟨B, 3, none⟩ = some (.int .u64 0)) ∧
    (W.frozen? ⟨B, 0, none⟩ = false ∧ W.frozen? ⟨B, 1, none⟩ = false ∧ W.frozen? ⟨B, 2, none⟩ = false ∧ W.frozen? ⟨B, 3, none⟩ = false) ∧ B < W.heap.size := by
  refine ⟨by simp [World.cell?, h], by simp [World.frozen?, h], (Array.getElem?_eq_some_iff.1 h).1⟩
theorem zeros {W : World} {B : Nat} (h : W.heap[B]? = some (.cells #[.int .u64 0, .int .u64 0, .int .u64 0, .int .u64 0] 24 (0, 0))) :
    (W.cell? ⟨B, 0, none⟩ = some (.int .u64 0) ∧ W.cell? ⟨B, 1, none⟩ = some (.int .u64 0) ∧ W.cell? ⟨B, 2, none⟩ = some (.int .u64 0) ∧ W.cell? ⟨B, 3, none⟩ = some (.int .u64 0)) ∧
    (W.frozen? ⟨B, 0, none⟩ = false ∧ W.frozen? ⟨B, 1, none⟩ = false ∧ W.frozen? ⟨B, 2, none⟩ = false ∧ W.frozen? ⟨B, 3, none⟩ = false) ∧ B < W.heap.size ∧
    (∀ o, (W.alloc o).frozen? ⟨B, 0, none⟩ = false) ∧ (∀ o, (W.alloc o).frozen? ⟨B, 1, none⟩ = false) ∧ (∀ o, (W.alloc o).frozen? ⟨B, 2, none⟩ = false) ∧ (∀ o, (W.alloc o).frozen? ⟨B, 3, none⟩ = false) :=
  ⟨(zeros0 h).1, (zeros0 h).2.1, (zeros0 h).2.2, fun o => (zeros0 (oldA (o' := o) h)).2.1.1, fun o => (zeros0 (oldA (o' := o) h)).2.1.2.1, fun o => (zeros0 (oldA (o' := o) h)).2.1.2.2.1, fun o => (zeros0 (oldA (o' := o) h)).2.1.2.2.2⟩
abbrev put4 (W : World) (K : Nat) (s : CSet) : World := (((W.setCell ⟨K, 0, none⟩ (.int .u64 (word s 0 : Int))).setCell ⟨K, 1, none⟩ (.int .u64 (word s 1 : Int))).setCell ⟨K, 2, none⟩ (.int .u64 (word s 2 : Int))).setCell ⟨K, 3, none⟩ (.int .u64 (word s 3 : Int))
theorem put_at {W : World} {K : Nat} {s : CSet} (h : W.heap[K]? = some zObj) : (put4 W K s).heap[K]? = some (sObj s) := by
  unfold put4
  rw [heap_setCell_at _ (heap_setCell_at _ (heap_setCell_at _ (heap_setCell_at _ h)))]
  simp
theorem put_far {W : World} {K B : Nat} {s : CSet} {o : Obj} (hne : B ≠ K) (h : W.heap[B]? = some o) : (put4 W K s).heap[B]? = some o := by
  unfold put4
  rw [Below.heap_setCell _ _ _ _ hne, Below.heap_setCell _ _ _ _ hne, Below.heap_setCell _ _ _ _ hne, Below.heap_setCell _ _ _ _ hne]; exact h
theorem two_first {W : World} {K1 K2 : Nat} {s1 s2 : CSet} (h : W.heap[K1]? = some zObj) (hne : K1 ≠ K2) : (put4 (put4 W K1 s1) K2 s2).heap[K1]? = some (sObj s1) := put_far hne (put_at h)
theorem two_second {W : World} {K1 K2 : Nat} {s1 s2 : CSet} (h : W.heap[K2]? = some zObj) (hne : K1 ≠ K2) : (put4 (put4 W K1 s1) K2 s2).heap[K2]? = some (sObj s2) := put_at (put_far (Ne.symm hne) h)
theorem put_new {W : World} {K : Nat} {s : CSet} (o : Obj) : ((put4 W K s).alloc o).heap[W.heap.size]? = some o := by
  have := heap_alloc_new (put4 W K s) o
  simpa only [put4, World.size_setCell] using this

theorem setC_of {W : World} {B : Nat} {s : CSet} (h : W.heap[B]? = some (sObj s)) : SetC W B s := by
  refine ⟨?_, ?_, ?_, ?_⟩ <;> simp [World.cell?, h]


theorem tab_held {w W0 W : World} {B C : Nat} {s t : CSet} (hT : Tab w) (hb : Below w.heap.size w W0) (h : HR W0 B C s t W) : Tab W := hT.below (next hb h.2.2)
end Go.Proofs.YtooiegejchcbhaaDoor
