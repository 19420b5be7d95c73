/- Layer 27: Split of the reference: the same parts. -/
import Derived.Test.YtfmngphmmhjicaaDoorDSplit
namespace Go.Proofs.YtfmngphmmhjicaaDoor
open Go.RowKit

/-- the first j bytes of the block from a place on, with zeros behind the end -/
def bytesTo (cs : List UInt8) (from' j : Nat) : List UInt8 := (List.range j).map fun i => cs.getD (from' + i) 0
theorem bytesTo_succ (cs : List UInt8) (from' j : Nat) : bytesTo cs from' (j + 1) = bytesTo cs from' j ++ [cs.getD (from' + j) 0] := by simp [bytesTo, List.range_succ]
theorem bytesTo_all (cs : List UInt8) (from' b : Nat) : bytesTo cs from' b = padTo b (cs.drop from') := by
  apply List.ext_getElem
  · rw [length_padTo]; simp [bytesTo]
  · intro i h1 h2
    simp only [bytesTo, List.length_map, List.length_range] at h1
    simp only [bytesTo, padTo, List.getElem_map, List.getElem_range, List.getElem_append, List.length_take, List.length_drop, List.getElem_take, List.getElem_drop, List.getElem_replicate]
    split
    · rw [List.getD_eq_getElem?_getD, List.getElem?_eq_getElem (by omega)]; rfl
    · rw [List.getD_eq_getElem?_getD, List.getElem?_eq_none (by omega)]; rfl

theorem getD_str {cs : List UInt8} {i : Nat} (h : i < cs.length) {g : i < (str cs).size} : (str cs)[i] = cs.getD i 0 := by
  rw [List.getD_eq_getElem?_getD, List.getElem?_eq_getElem h]
  rfl
theorem getD_none {cs : List UInt8} {i : Nat} (h : cs.length ≤ i) : cs.getD i 0 = 0 := by
  rw [List.getD_eq_getElem?_getD, List.getElem?_eq_none h]; rfl

/-- the parts of the first k blocks -/
def upTo (cs : List UInt8) (b : Nat) (before : Int) (k : Nat) : List Part := (List.range k).map fun i => ((item cs b i).1, ((item cs b i).2 : Int), before + (i * b : Nat))
theorem upTo_succ (cs : List UInt8) (b : Nat) (before : Int) (k : Nat) : upTo cs b before (k + 1) = upTo cs b before k ++ [((item cs b k).1, ((item cs b k).2 : Int), before + (k * b : Nat))] := by simp [upTo, List.range_succ]
theorem reals_items (cs : List UInt8) (b : Nat) : ∀ k, reals ((List.range k).map (item cs b)) = min (k * b) cs.length := by
  intro k
  induction k with
  | zero => simp [reals]
  | succ k ih =>
    rw [List.range_succ, List.map_append, List.map_singleton, reals_snoc, ih, Nat.add_mul]
    simp only [item]
    omega
theorem mk_upTo (cs : List UInt8) (b : Nat) (before : Int) (k : Nat) (h : ∀ j, j < k → j * b ≤ cs.length) : mkParts before ((List.range k).map (item cs b)) = upTo cs b before k := by
  induction k with
  | zero => rfl
  | succ k ih =>
    rw [List.range_succ, List.map_append, List.map_singleton, mkParts_snoc, ih (fun j hj => h j (by omega)), upTo_succ, reals_items]
    rw [Nat.min_eq_left (h k (by omega))]
theorem parts_upTo {cs : List UInt8} {b : Nat} {before : Int} (hb : 1 ≤ b) : mkParts before (items cs b) = upTo cs b before ((cs.length + b - 1) / b) := by
  refine mk_upTo cs b before _ fun j hj => ?_
  rw [Nat.lt_div_iff_mul_lt (by omega)] at hj
  omega

end Go.Proofs.YtfmngphmmhjicaaDoor
