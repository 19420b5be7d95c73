/- Layer 17: what Pack computes. -/
import Derived.Test.YtghdgenlkbocmaaLEmp
import Derived.Deep.RegionHeld3
namespace Go.Proofs.Ytghdgenlkbocmaa
open Go.RowKit

def packLine (i : Int) : List (List CSet) → Int → List Ln → Option (Int × List Ln)
  | [], n, acc => some (n, acc)
  | l :: t, n, acc => if 256 < n + (l.length : Int) then none else packLine i t (n + (l.length : Int)) (acc ++ [(i, n, (l.length : Int))])
def packG : List (List (List CSet)) → Int → Int → List Ln → Int × List Ln × Int × Int
  | [], _, n, acc => (wordsV n, acc, 0, 0)
  | L :: t, i, n, acc => if L.length = 0 ∨ hasNone L = true then (0, [], i, 6) else if 64 < L.length then (0, [], i, 3) else
      match packLine i L n acc with
      | none => (0, [], i, 3)
      | some (n', acc') => packG t (i + 1) n' acc'
def packV (R : List (List (List CSet))) : Int × List Ln × Int × Int :=
  if R.length = 0 then (0, [], 0, 6) else if 16 < R.length then (0, [], 0, 3) else packG R 0 0 []
theorem packLine_at (i : Int) {L : List (List CSet)} {k : Nat} (h : k < L.length) (n : Int) (acc : List Ln) :
    packLine i (L.drop k) n acc = if 256 < n + (L[k].length : Int) then none else packLine i (L.drop (k + 1)) (n + (L[k].length : Int)) (acc ++ [(i, n, (L[k].length : Int))]) := by
  rw [List.drop_eq_getElem_cons h]; rfl
theorem packG_at {R : List (List (List CSet))} {k : Nat} (h : k < R.length) (i n : Int) (acc : List Ln) :
    packG (R.drop k) i n acc = if R[k].length = 0 ∨ hasNone R[k] = true then (0, [], i, 6) else if 64 < R[k].length then (0, [], i, 3) else
      match packLine i R[k] n acc with
      | none => (0, [], i, 3)
      | some (n', acc') => packG (R.drop (k + 1)) (i + 1) n' acc' := by
  rw [List.drop_eq_getElem_cons h]; rfl
theorem hasNone_at {L : List (List CSet)} (h : hasNone L = false) {k : Nat} (hk : k < L.length) : 1 ≤ L[k].length := by
  unfold hasNone at h
  rw [List.any_eq_false] at h
  have := h L[k] (List.getElem_mem hk)
  cases h3 : L[k] with
  | nil => rw [h3] at this; simp at this
  | cons _ _ => simp

def PackP (r : Int × List Ln × Int × Int) (w : World) (e : Ending) (w' : World) : Prop :=
  ∃ v, e = .returned (.tuple #[.agg #[.int .i64 r.1, v], .int .i64 r.2.2.1, .int .i64 r.2.2.2]) ∧ Lanes w' v r.2.1 ∧ Below w.heap.size w w'

/-- a block that holds a plan -/
def PAt (w : World) (B : Nat) (x y : Value) : Prop := w.heap[B]? = some (.cells #[x, y] 27 (0, 0))
theorem PAt.lt {w : World} {B : Nat} {x y : Value} (h : PAt w B x y) : B < w.heap.size := (Array.getElem?_eq_some_iff.1 h).1
theorem PAt.cells {w : World} {B : Nat} {x y : Value} (h : PAt w B x y) : w.cell? ⟨B, 0, none⟩ = some x ∧ w.cell? ⟨B, 1, none⟩ = some y := by
  simp [World.cell?, show w.heap[B]? = _ from h]
theorem PAt.free {w : World} {B : Nat} {x y : Value} (h : PAt w B x y) : w.frozen? ⟨B, 0, none⟩ = false ∧ w.frozen? ⟨B, 1, none⟩ = false := by
  simp [World.frozen?, show w.heap[B]? = _ from h]
theorem PAt.below {w w' : World} {B N : Nat} {x y : Value} (h : PAt w B x y) (hb : Below N w w') (hN : B < N) : PAt w' B x y := (hb.block B hN).trans h
theorem PAt.new (w : World) (x y : Value) : PAt (w.alloc (.cells #[x, y] 27)) w.heap.size x y := heap_alloc_new w _
theorem PAt.alloc {w : World} {B : Nat} {x y : Value} (h : PAt w B x y) (o : Obj) : PAt (w.alloc o) B x y := (Below.heap_alloc w o B h.lt).trans h
def put2 (w : World) (B : Nat) (x y : Value) : World := (w.setCell ⟨B, 0, none⟩ x).setCell ⟨B, 1, none⟩ y
theorem PAt.put {w : World} {B : Nat} {x y : Value} (h : PAt w B x y) (x' y' : Value) : PAt (put2 w B x' y') B x' y' := by
  unfold PAt put2
  rw [heap_setCell_at _ (heap_setCell_at _ h)]
  rfl
theorem PAt.put0 {w : World} {B : Nat} {x y : Value} (h : PAt w B x y) (x' : Value) : PAt (w.setCell ⟨B, 0, none⟩ x') B x' y := by
  unfold PAt
  rw [heap_setCell_at _ h]
  rfl
theorem PAt.put1 {w : World} {B : Nat} {x y : Value} (h : PAt w B x y) (y' : Value) : PAt (w.setCell ⟨B, 1, none⟩ y') B x y' := by
  unfold PAt
  rw [heap_setCell_at _ h]
  rfl
theorem PAt.other {w : World} {B : Nat} {x y : Value} (h : PAt w B x y) {p : Addr} (hp : B ≠ p.block) (u : Value) : PAt (w.setCell p u) B x y := (Below.heap_setCell _ _ _ _ hp).trans h
theorem below_put2 {N B : Nat} {a w : World} (h : Below N a w) (hN : N ≤ B) (x y : Value) : Below N a (put2 w B x y) := (h.setCell (p := ⟨B, 0, none⟩) hN _).setCell (p := ⟨B, 1, none⟩) hN _
theorem Lanes.of_owns {w : World} {base : Nat} {e : TypeId} {v : Value} {l : List Ln} (h : w.ownsRow base e 3 v l.length (lcells l)) : Lanes w v l := Row.of_owns h
theorem ownsRow_set {w : World} {base : Nat} {e : TypeId} {size : Nat} {v : Value} {n : Nat} {xs : List Value} (h : w.ownsRow base e size v n xs) {p : Addr} (hp : p.block < base) (u : Value) : (w.setCell p u).ownsRow base e size v n xs := by
  obtain ⟨h1, h2⟩ := h
  refine ⟨h1, ?_⟩
  rcases h2 with h2 | ⟨g, cap, cur, hv, hg, hh, r⟩
  · exact .inl h2
  · exact .inr ⟨g, cap, cur, hv, hg, (Below.heap_setCell _ _ _ _ (by omega)).trans hh, r⟩
theorem row_forms {w : World} {base size n : Nat} {e : TypeId} {v : Value} {xs : List Value} (h : w.ownsRow base e size v n xs) : (∃ a cap, v = .slice a n cap) := by
  rcases h.2 with ⟨rfl, rfl⟩ | ⟨g, cap, _, hv, _⟩
  · exact ⟨none, 0, rfl⟩
  · exact ⟨_, cap, hv⟩
theorem infoLn : (Try.prog.info? 55).map (fun i => (i.zero, i.size, i.bytes)) = some (some (.agg #[.int .i64 0, .int .i64 0, .int .i64 0]), 3, 24) := by kernel_rfl
end Go.Proofs.Ytghdgenlkbocmaa
