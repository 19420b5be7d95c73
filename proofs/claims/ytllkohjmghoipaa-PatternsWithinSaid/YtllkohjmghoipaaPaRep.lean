/- Patterns in memory. -/
import Derived.Test.YtllkohjmghoipaaPEq
import Derived.Test.YtllkohjmghoipaaPaV
import Derived.Test.YtllkohjmghoipaaRow
import Derived.Lib.QuietBelow
import Derived.BigQuiet
namespace Go.Proofs.Ytllkohjmghoipaa
open Go.RowKit Go.Sort

theorem Row.cellAt2 {w : World} {size n : Nat} {v : Value} {xs : List Value} (h : Row w size v n xs) {i : Nat} (hi : i < n) (hs : 0 < size) :
    ∃ g o cap, v = .slice (some ⟨g, o, none⟩) n cap ∧ g < w.heap.size ∧ ∀ j, j < size → w.cell? ⟨g, o + i * size + j, none⟩ = xs[i * size + j]? := by
  obtain ⟨h1, _, a, cap, rfl, _, h2⟩ := h
  rcases h2 with h0 | ⟨g, o, rfl, hc⟩
  · omega
  · have hm : ∀ j, j < size → i * size + j < n * size := fun j hj => by
      have : (i + 1) * size ≤ n * size := Nat.mul_le_mul_right _ hi
      rw [Nat.add_mul] at this; omega
    have e0 := hc (i * size + 0) (hm 0 hs)
    have hx : (xs[i * size + 0]?) = some (xs[i * size + 0]'(by rw [h1]; exact hm 0 hs)) := List.getElem?_eq_getElem _
    refine ⟨g, o, cap, rfl, World.block_lt_of_cell? w _ (e0.trans hx), fun j hj => ?_⟩
    rw [Nat.add_assoc]
    exact hc _ (hm j hj)
theorem Row.form2 {w : World} {size n : Nat} {v : Value} {xs : List Value} (h : Row w size v n xs) : ∃ a cap, v = .slice a n cap := by
  obtain ⟨_, _, a, cap, e, _⟩ := h
  exact ⟨a, cap, e⟩
theorem cell_in {w : World} {b : Nat} {t : TypeId} {cs : Array Value} {i : Nat} {v : Value} (h : w.heap[b]? = some (.cells cs t)) (hv : cs[i]? = some v) : w.cell? ⟨b, i, none⟩ = some v := by
  unfold World.cell?; rw [h]; exact hv

def pcell (x : El) : List Value := [.bool x.gap, .int .u64 (word x.cls 0 : Int), .int .u64 (word x.cls 1 : Int), .int .u64 (word x.cls 2 : Int), .int .u64 (word x.cls 3 : Int), .int .i64 x.low, .int .i64 x.high]
def pcells (l : List El) : List Value := l.flatMap pcell
theorem pcells_snoc (l : List El) (x : El) : pcells (l ++ [x]) = pcells l ++ pcell x := by simp [pcells]
theorem pcells_one (l : List El) : ∀ u ∈ pcells l, u.oneCell' = true := by
  intro u hu
  unfold pcells at hu
  rw [List.mem_flatMap] at hu
  obtain ⟨e, _, hu⟩ := hu
  simp [pcell] at hu
  rcases hu with rfl | rfl | rfl | rfl | rfl | rfl | rfl <;> rfl
abbrev Pats (w : World) (v : Value) (l : List El) : Prop := Row w 7 v l.length (pcells l)
theorem pcells_at : ∀ (l : List El) (i : Nat) (h : i < l.length), (pcells l)[i * 7]? = some (.bool l[i].gap) ∧ (pcells l)[i * 7 + 1]? = some (.int .u64 (word l[i].cls 0 : Int)) ∧ (pcells l)[i * 7 + 2]? = some (.int .u64 (word l[i].cls 1 : Int)) ∧
      (pcells l)[i * 7 + 3]? = some (.int .u64 (word l[i].cls 2 : Int)) ∧ (pcells l)[i * 7 + 4]? = some (.int .u64 (word l[i].cls 3 : Int)) ∧ (pcells l)[i * 7 + 5]? = some (.int .i64 l[i].low) ∧ (pcells l)[i * 7 + 6]? = some (.int .i64 l[i].high)
  | c :: l, 0, _ => ⟨rfl, rfl, rfl, rfl, rfl, rfl, rfl⟩
  | c :: l, i + 1, h => by
    obtain ⟨h1, h2, h3, h4, h5, h6, h7⟩ := pcells_at l i (by simpa using h)
    rw [show (i + 1) * 7 = i * 7 + 7 by omega]
    exact ⟨h1, h2, h3, h4, h5, h6, h7⟩
theorem Pats.at {w : World} {a : Option Addr} {n cap : Nat} {l : List El} (h : Pats w (.slice a n cap) l) {i : Nat} (hi : i < l.length) :
    ∃ g o, a = some ⟨g, o, none⟩ ∧ g < w.heap.size ∧ w.cell? ⟨g, o + i * 7, none⟩ = some (.bool l[i].gap) ∧ w.cell? ⟨g, o + i * 7 + 1, none⟩ = some (.int .u64 (word l[i].cls 0 : Int)) ∧ w.cell? ⟨g, o + i * 7 + 2, none⟩ = some (.int .u64 (word l[i].cls 1 : Int)) ∧
      w.cell? ⟨g, o + i * 7 + 3, none⟩ = some (.int .u64 (word l[i].cls 2 : Int)) ∧ w.cell? ⟨g, o + i * 7 + 4, none⟩ = some (.int .u64 (word l[i].cls 3 : Int)) ∧ w.cell? ⟨g, o + i * 7 + 5, none⟩ = some (.int .i64 l[i].low) ∧ w.cell? ⟨g, o + i * 7 + 6, none⟩ = some (.int .i64 l[i].high) := by
  obtain ⟨g, o, cap', e, hg, hc⟩ := Row.cellAt2 h hi (by omega)
  cases e
  obtain ⟨e0, e1, e2, e3, e4, e5, e6⟩ := pcells_at l i hi
  exact ⟨g, o, rfl, hg, (hc 0 (by omega)).trans e0, (hc 1 (by omega)).trans e1, (hc 2 (by omega)).trans e2, (hc 3 (by omega)).trans e3, (hc 4 (by omega)).trans e4, (hc 5 (by omega)).trans e5, (hc 6 (by omega)).trans e6⟩
theorem Pats.ats {w : World} {g o n cap : Nat} {l : List El} (h : Pats w (.slice (some ⟨g, o, none⟩) n cap) l) {i : Nat} (hi : i < l.length) :
    g < w.heap.size ∧ w.cell? ⟨g, o + i * 7, none⟩ = some (.bool l[i].gap) ∧ w.cell? ⟨g, o + i * 7 + 1, none⟩ = some (.int .u64 (word l[i].cls 0 : Int)) ∧ w.cell? ⟨g, o + i * 7 + 2, none⟩ = some (.int .u64 (word l[i].cls 1 : Int)) ∧
      w.cell? ⟨g, o + i * 7 + 3, none⟩ = some (.int .u64 (word l[i].cls 2 : Int)) ∧ w.cell? ⟨g, o + i * 7 + 4, none⟩ = some (.int .u64 (word l[i].cls 3 : Int)) ∧ w.cell? ⟨g, o + i * 7 + 5, none⟩ = some (.int .i64 l[i].low) ∧ w.cell? ⟨g, o + i * 7 + 6, none⟩ = some (.int .i64 l[i].high) := by
  obtain ⟨g', o', e, r⟩ := Pats.at h hi
  cases e
  exact r
theorem run_ne_zero (w : World) (s : CSet) :
    (binOp .neq 45 (.agg #[.int .u64 (word s 0 : Int), .int .u64 (word s 1 : Int), .int .u64 (word s 2 : Int), .int .u64 (word s 3 : Int)]) (.agg #[.int .u64 0, .int .u64 0, .int .u64 0, .int .u64 0])).run Try.prog w = .ok (.bool (!decide (s = 0#256))) w := run_ne_set w s 0#256
end Go.Proofs.Ytllkohjmghoipaa
