/- Rows of words: bits; Of of layer 2. -/
import Derived.Test.YtghdgenlkbocmaaLPk
import Derived.Test.YtghdgenlkbocmaaRefA
import Derived.IntWalk
import Derived.BigRegion
import Derived.Deep.RegionHeld3
namespace Go.Proofs.Ytghdgenlkbocmaa
open Go.RowKit

/-- the cells of the first k words of a set of bits -/
def rcells (s : CSet) (k : Nat) : List Value := (List.range k).map fun i => .int .u64 (word s i : Int)
theorem length_rcells (s : CSet) (k : Nat) : (rcells s k).length = k := by simp [rcells]
theorem rcells_at (s : CSet) {k i : Nat} (h : i < k) : (rcells s k)[i]? = some (.int .u64 (word s i : Int)) := by simp [rcells, h]
theorem rcells_one (s : CSet) (k : Nat) : ∀ v ∈ rcells s k, v.oneCell' = true := by
  intro v hv
  obtain ⟨_, _, rfl⟩ := List.mem_map.1 hv
  rfl
theorem rcells_zero (k : Nat) : rcells 0#256 k = List.replicate k (.int .u64 0) := by
  unfold rcells
  apply List.ext_getElem
  · simp
  · intro i h1 h2; simp [word]
theorem rcells_set (s t : CSet) {k q : Nat} (h : ∀ i, i < k → word t i = if i = q then word t q else word s i) : (rcells s k).set q (.int .u64 (word t q : Int)) = rcells t k := by
  apply List.ext_getElem
  · simp [rcells]
  · intro i h1 h2
    have hi : i < k := by simpa [rcells] using h2
    rw [List.getElem_set]
    simp only [rcells, List.getElem_map, List.getElem_range]
    have := h i hi
    split
    · rename_i e; rw [← e]
    · rename_i e; rw [if_neg (fun h => e h.symm)] at this; rw [this]

def URow (w : World) (v : Value) (k : Nat) (s : CSet) : Prop := Row w 1 v k (rcells s k)
theorem URow.below {w w' : World} {v : Value} {k : Nat} {s : CSet} (h : URow w v k s) (hb : Below w.heap.size w w') : URow w' v k s := Row.below h hb
theorem URow.form {w : World} {v : Value} {k : Nat} {s : CSet} (h : URow w v k s) : ∃ a cap, v = .slice a k cap := Row.form h
theorem URow.at {w : World} {a : Option Addr} {n cap k : Nat} {s : CSet} (h : URow w (.slice a n cap) k s) {i : Nat} (hi : i < k) :
    ∃ g o, a = some ⟨g, o, none⟩ ∧ g < w.heap.size ∧ w.cell? ⟨g, o + i, none⟩ = some (.int .u64 (word s i : Int)) := by
  obtain ⟨g, o, cap', e, hg, hc⟩ := Row.cellAt h hi (by omega)
  cases e
  have := hc 0 (by omega)
  rw [Nat.mul_one, Nat.add_zero, Nat.add_zero, rcells_at s hi] at this
  exact ⟨g, o, rfl, hg, this⟩
theorem URow.nil (w : World) (s : CSet) : URow w (.slice none 0 0) 0 s := ⟨rfl, by simp, none, 0, rfl, fun _ => rfl, .inl rfl⟩

/-- the cells of numbers -/
def icells (l : List Int) : List Value := l.map (Value.int .i64)
def Ints (w : World) (v : Value) (l : List Int) : Prop := Row w 1 v l.length (icells l)
theorem Ints.below {w w' : World} {v : Value} {l : List Int} (h : Ints w v l) (hb : Below w.heap.size w w') : Ints w' v l := Row.below h hb
theorem Ints.form {w : World} {v : Value} {l : List Int} (h : Ints w v l) : ∃ a cap, v = .slice a l.length cap := Row.form h
theorem Ints.at {w : World} {a : Option Addr} {n cap : Nat} {l : List Int} (h : Ints w (.slice a n cap) l) {i : Nat} (hi : i < l.length) :
    ∃ g o, a = some ⟨g, o, none⟩ ∧ g < w.heap.size ∧ w.cell? ⟨g, o + i, none⟩ = some (.int .i64 l[i]) := by
  obtain ⟨g, o, cap', e, hg, hc⟩ := Row.cellAt h hi (by omega)
  cases e
  have := hc 0 (by omega)
  rw [Nat.mul_one, Nat.add_zero, Nat.add_zero] at this
  exact ⟨g, o, rfl, hg, this.trans (by simp [icells, hi])⟩

/-- the bits of numbers -/
def ofI (l : List Int) : CSet := l.foldl (fun s i => s ||| bit i.toNat) 0#256
theorem ofI_take {l : List Int} {k : Nat} (hk : k < l.length) : ofI (l.take (k + 1)) = ofI (l.take k) ||| bit (l[k].toNat) := by
  unfold ofI; rw [List.take_succ_eq_append_getElem hk, List.foldl_append]; rfl
def Within (k : Nat) (l : List Int) : Prop := ∀ (i : Nat) (h : i < l.length), 0 ≤ l[i] ∧ l[i] < 64 * (k : Int)

def OfP (k : Nat) (l : List Int) (w : World) (e : Ending) (w' : World) : Prop :=
  ∃ v, e = .returned (.tuple #[v, .int .i64 0]) ∧ URow w' v k (ofI l) ∧ Below w.heap.size w w'

/-- a block that holds a row -/
def UAt (w : World) (B : Nat) (k : Nat) (s : CSet) : Prop := w.heap[B]? = some (.cells (rcells s k).toArray 48 (0, 0))
theorem UAt.lt {w : World} {B k : Nat} {s : CSet} (h : UAt w B k s) : B < w.heap.size := (Array.getElem?_eq_some_iff.1 h).1
theorem UAt.cell {w : World} {B k : Nat} {s : CSet} (h : UAt w B k s) {q : Nat} (hq : q < k) : w.cell? ⟨B, q, none⟩ = some (.int .u64 (word s q : Int)) ∧ w.frozen? ⟨B, q, none⟩ = false := by
  have := rcells_at s hq
  simp [World.cell?, World.frozen?, show w.heap[B]? = _ from h, this]
theorem UAt.row {w : World} {B k : Nat} {s : CSet} (h : UAt w B k s) (hk : k ≤ 9) : URow w (.slice (some ⟨B, 0, none⟩) k k) k s := by
  refine ⟨by rw [length_rcells, Nat.mul_one], by unfold maxLen; omega, _, k, rfl, by (intro e; cases e), .inr ⟨B, 0, rfl, fun j hj => ?_⟩⟩
  rw [Nat.zero_add, (h.cell (by omega)).1, rcells_at s (by omega)]
theorem UAt.put {w : World} {B k : Nat} {s t : CSet} (h : UAt w B k s) {q : Nat} (ht : ∀ i, i < k → word t i = if i = q then word t q else word s i) : UAt (w.setCell ⟨B, q, none⟩ (.int .u64 (word t q : Int))) B k t := by
  unfold UAt
  rw [heap_setCell_at _ h, ← rcells_set s t ht]
  simp

theorem i64_and63 (n : Int) : bits .and .i64 n 63 = n % 64 := by
  have h63 : (BitVec.ofInt 64 63).toNat = 2 ^ 6 - 1 := by decide
  have key : (BitVec.ofInt 64 n &&& BitVec.ofInt 64 63).toNat = (n % ((2 ^ 64 : Nat) : Int)).toNat % 2 ^ 6 := by
    rw [BitVec.toNat_and, BitVec.toNat_ofInt, h63, Nat.and_two_pow_sub_one_eq_mod]
  show IntKind.i64.wrap ((BitVec.ofInt 64 n &&& BitVec.ofInt 64 63).toNat : Nat) = n % 64
  rw [key, IntKind.wrap_i64]
  omega
theorem make1 (w : World) : (Instr.makeSlice 32 (.int .i64 1) (.int .i64 1)).run Try.prog w = .ok (.slice (some ⟨w.heap.size, 0, none⟩) 1 1) (w.alloc (.cells #[.int .u64 0] 48)) := by kernel_rfl
theorem make2 (w : World) : (Instr.makeSlice 32 (.int .i64 2) (.int .i64 2)).run Try.prog w = .ok (.slice (some ⟨w.heap.size, 0, none⟩) 2 2) (w.alloc (.cells #[.int .u64 0, .int .u64 0] 48)) := by kernel_rfl
theorem make3 (w : World) : (Instr.makeSlice 32 (.int .i64 3) (.int .i64 3)).run Try.prog w = .ok (.slice (some ⟨w.heap.size, 0, none⟩) 3 3) (w.alloc (.cells #[.int .u64 0, .int .u64 0, .int .u64 0] 48)) := by kernel_rfl
theorem make4 (w : World) : (Instr.makeSlice 32 (.int .i64 4) (.int .i64 4)).run Try.prog w = .ok (.slice (some ⟨w.heap.size, 0, none⟩) 4 4) (w.alloc (.cells #[.int .u64 0, .int .u64 0, .int .u64 0, .int .u64 0] 48)) := by kernel_rfl
theorem run_make (k : Nat) (k1 : 1 ≤ k) (k4 : k ≤ 4) (w : World) : (Instr.makeSlice 32 (.int .i64 (k : Nat)) (.int .i64 (k : Nat))).run Try.prog w = .ok (.slice (some ⟨w.heap.size, 0, none⟩) k k) (w.alloc (.cells (rcells 0#256 k).toArray 48)) := by
  rcases (show k = 1 ∨ k = 2 ∨ k = 3 ∨ k = 4 by omega) with rfl | rfl | rfl | rfl
  · exact make1 w
  · exact make2 w
  · exact make3 w
  · exact make4 w

set_option maxRecDepth 100000 in
set_option maxHeartbeats 2000000 in
theorem of_p (k : Nat) (v : Value) (l : List Int) (w : World) (hv : Ints w v l) (k1 : 1 ≤ k) (k4 : k ≤ 4) (hl : Within k l) : Calls Try.prog 44 #[.int .i64 (k : Nat), v] w (OfP k l w) := by
  obtain ⟨a, cap, rfl⟩ := hv.form
  have hm := Row.max hv
  have HV := Lib.hid hv
  have HL := Lib.hid hl
  have j1 : (1 : Int) ≤ (k : Int) := by omega
  have j4 : (k : Int) ≤ 4 := by omega
  have hmk := fun w => run_make k k1 k4 w
  have t1 : decide ((k : Int) < 1) = false := by simp; omega
  have t8 : decide ((8 : Int) < (k : Int)) = false := by simp; omega
  clear hv hl
  go_enter Try.func44, Try.ntmps44
  go_wp2_with fail
  clear t1 t8 hmk
  have HB0 := Lib.hid ((Below.refl _ w).alloc (Nat.le_refl _) (.cells (rcells 0#256 k).toArray 48))
  have HU0 := Lib.hid (show UAt (w.alloc (.cells (rcells 0#256 k).toArray 48)) w.heap.size k 0#256 from heap_alloc_new w _)
  go_loopw [19] (fun iv wr => ∃ i : Nat, i ≤ l.length ∧ iv = .int .i64 (i : Nat) ∧ UAt wr w.heap.size k (ofI (l.take i)) ∧ Below w.heap.size w wr) (fun iv _ => l.length - (intOf iv).toNat)
  case atStart => exact ⟨0, by omega, rfl, HU0.out, HB0.out⟩
  case round =>
    obtain ⟨i, hi, rfl, hU, hB⟩ := hrel
    have HU := Lib.hid hU
    have HB := Lib.hid hB
    have i0 : (0 : Int) ≤ (i : Int) := by omega
    by_cases hlt : i < l.length
    · have i1 : (i : Int) < (l.length : Int) := by omega
      obtain ⟨g, o, rfl, hg, hc⟩ := HV.out.at hlt
      have hc' := (hB.cell (p := ⟨g, o + i, none⟩) hg).trans hc
      obtain ⟨x0, x1⟩ := HL.out i hlt
      have HT := Lib.hid (ofI_take hlt)
      generalize l[i] = x at *
      obtain ⟨X, rfl⟩ := Int.eq_ofNat_of_zero_le x0
      obtain ⟨q, hq⟩ : ∃ q, q = X / 64 := ⟨_, rfl⟩
      obtain ⟨r, hr⟩ : ∃ r, r = X % 64 := ⟨_, rfl⟩
      have hqk : q < k := by omega
      have hr64 : r < 64 := by omega
      obtain ⟨cu, fu⟩ := hU.cell hqk
      generalize ofI (l.take i) = s at *
      have ws := word_lt s q
      have HQ := Lib.hid hq
      have HR := Lib.hid hr
      clear hU hB hc hq hr
      go_wp2_with fail
      have e3 : (X : Int) / 64 = (q : Int) := by have := HQ.out; omega
      have e4 : bits .and .i64 (X : Int) 63 = (r : Int) := by rw [i64_and63]; have := HR.out; omega
      have e5 : IntKind.i64.wrap (64 * (k : Int)) = 64 * (k : Int) := IntWalk.i64_in _ (by omega)
      go_region
      rw [or_wrap ws hr64]
      have hwd : ∀ j, j < k → word (s ||| bit X) j = if j = q then word (s ||| bit X) q else word s j := fun j hj => by
        rw [word_add s X j (by omega), word_add s X q (by omega), ← HQ.out]
        split
        · rename_i e; rw [if_pos rfl, e]
        · rfl
      have hwq : word (s ||| bit X) q = word s q ||| 2 ^ r := by rw [word_add s X q (by omega), ← HQ.out, ← HR.out, if_pos rfl]
      rw [← hwq]
      have HU2 := Lib.hid (HU.out.put hwd)
      clear e3 e4 e5 hwd hwq
      go_wp2_with fail
      exact ⟨⟨i + 1, by omega, by go_num, by rw [HT.out, Int.toNat_natCast]; exact HU2.out, (HB.out.setCell (by simp) _).drew⟩, by simp [intOf]; omega⟩
    · obtain rfl : i = l.length := by omega
      have i1 : ¬ (l.length : Int) < (l.length : Int) := by omega
      rw [List.take_length] at HU
      clear hU hB hlt
      go_wp2_with fail
      go_ret2
      exact show OfP k l w _ _ from ⟨_, rfl, HU.out.row (by omega), HB.out⟩
end Go.Proofs.Ytghdgenlkbocmaa
