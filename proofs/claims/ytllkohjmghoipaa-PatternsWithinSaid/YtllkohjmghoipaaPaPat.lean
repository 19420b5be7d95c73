/- Patterns freshly made: append, the values of Join. -/
import Derived.Test.YtllkohjmghoipaaPaRep
namespace Go.Proofs.Ytllkohjmghoipaa
open Go.RowKit Go.Sort

/-- a pattern freshly made, and an error's number -/
def PatP (w : World) (l : List El) (x : Int) (e : Ending) (w' : World) : Prop := ∃ v, e = .returned (.tuple #[v, .int .i64 x]) ∧ w'.ownsRow w.heap.size 47 7 v l.length (pcells l) ∧ Below w.heap.size w w'
theorem infoEl : (Try.prog.info? 47).map (fun i => (i.zero, i.size, i.bytes)) = some (some (.agg #[.bool false, .int .u64 0, .int .u64 0, .int .u64 0, .int .u64 0, .int .i64 0, .int .i64 0]), 7, 56) := by kernel_rfl
theorem pcells_len (l : List El) : (pcells l).length = l.length * 7 := by
  induction l with
  | nil => rfl
  | cons x l ih => simp [pcells, pcell] at ih ⊢; omega
theorem pcells_append (l m : List El) : pcells (l ++ m) = pcells l ++ pcells m := by simp [pcells]
/-- append to a pattern that the call owns -/
theorem app_el {w : World} {base : Nat} {v v2 : Value} {l m : List El} (hown : w.ownsRow base 47 7 v l.length (pcells l)) (hr : Pats w v2 m) (hl : l.length + m.length ≤ 2000) (hbase : base ≤ w.heap.size) :
    ∃ a cap w', (Builtin.append_ #[22, 22] 22 #[v, v2]).run Try.prog w = .ok (.slice a (l ++ m).length cap) w' ∧ w'.ownsRow base 47 7 (.slice a (l ++ m).length cap) (l ++ m).length (pcells (l ++ m)) ∧ Below base w w' := by
  obtain ⟨j0, hj, hy0, hy1, hy2⟩ := info_parts infoEl
  obtain ⟨v', w', h1, h2, h3⟩ := append_row (P := Try.prog) base 22 22 47 Try.underlying22 hj hy0 hy1 hy2 rfl (by decide) hown hr (pcells_one _) (by unfold maxLen; omega) (by omega) hbase
  rw [← List.length_append, ← pcells_append] at h2
  obtain ⟨a, cap, rfl⟩ := Row.form2 (Row.of_owns h2)
  exact ⟨a, cap, w', h1, h2, (Below.refl base w).grown h3 hbase (fun q e => (hown.lt q e).1)⟩
def gapV (low high : Int) : El := ⟨true, 0#256, low, high⟩
def joinL (p q : List El) (low high : Int) : List El := p ++ (if 0 < high then [gapV low high] else []) ++ q
def joinE (p q : List El) (low high : Int) : Int :=
  if (checkV p).2 = 0 then if (checkV q).2 = 0 then if low < 0 ∨ high < low ∨ 16 < high then 7 else if 512 < (joinL p q low high).length then 3 else 0 else (checkV q).2 else (checkV p).2
def joinV (p q : List El) (low high : Int) : List El := if joinE p q low high = 0 then joinL p q low high else []
theorem joinV_bad {p q : List El} {low high E : Int} (h : joinE p q low high = E) (h0 : E ≠ 0) : joinV p q low high = [] := by unfold joinV; rw [if_neg (h ▸ h0)]
theorem joinV_ok {p q : List El} {low high : Int} (h : joinE p q low high = 0) : joinV p q low high = joinL p q low high := by unfold joinV; rw [if_pos h]
theorem lit_el (W : World) (x : El) : Pats (W.alloc (.cells (pcell x).toArray 47)) (.slice (some ⟨W.heap.size, 0, none⟩) 1 1) [x] := by
  have := Row.lit W 47 7 1 (pcells [x]) (by simp [pcells, pcell]) (by unfold maxLen; omega)
  exact this
abbrev gcell (low high : Int) : Array Value := #[.bool true, .int .u64 0, .int .u64 0, .int .u64 0, .int .u64 0, .int .i64 low, .int .i64 high]
theorem gcell_eq (low high : Int) : (pcell (gapV low high)).toArray = gcell low high := by
  have h0 : word 0#256 0 = 0 := by decide
  have h1 : word 0#256 1 = 0 := by decide
  have h2 : word 0#256 2 = 0 := by decide
  have h3 : word 0#256 3 = 0 := by decide
  simp [pcell, gapV, h0, h1, h2, h3]
theorem lit_gap (W : World) (low high : Int) : Pats (W.alloc (.cells (gcell low high) 47)) (.slice (some ⟨W.heap.size, 0, none⟩) 1 1) [gapV low high] := by
  have := lit_el W (gapV low high)
  rwa [gcell_eq] at this
end Go.Proofs.Ytllkohjmghoipaa
