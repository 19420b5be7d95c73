/- Texts that the claims share, part 1. -/
import Derived.WalkKit
import Derived.Laws.CopyOwn
import Derived.Laws.BytesArg
import Derived.Lib.Hide
import Derived.Laws.OwnMore
import Derived.Tactics
import Derived.Test.YtpjllppbpnkemaaProg
import Derived.Handy
import Derived.Test.YtpjllppbpnkemaaRows
import Derived.ProofKit
import Derived.OpenShut
import Derived.ShutString
import Derived.ChangeOld
import Derived.Below
import Derived.Lib.QuietBelow
import Derived.BigQuiet
import Derived.RangeFuncNested
import Derived.RangeFuncBound
import Derived.RangeFuncCalls
import Derived.RangeFuncLeaves
import Derived.Shelf.Abstract
import Derived.Shelf.RegionOpen
import Derived.OwnWalkIn
import Derived.TacticsInMore
import Derived.LoopNIn
import Derived.LoopIn
import Derived.Deep.RegionHeld3

/- Runs of operations on bytes and strings that the walks take as equations: copy out of a string, bytes to a string, cuts of strings. -/
namespace Go.Proofs.Ytpjllppbpnkemaa
open Go.RowKit

/-- a string of bytes -/
def str (l : List UInt8) : ByteArray := ⟨l.toArray⟩
theorem size_str (l : List UInt8) : (str l).size = l.length := by simp [str, ByteArray.size]
theorem str_data (s : ByteArray) : str s.data.toList = s := by simp [str]
theorem toList_str (l : List UInt8) : (str l).data.toList = l := rfl
theorem str_append (a b : List UInt8) : str a ++ str b = str (a ++ b) := by
  apply ByteArray.ext
  simp [str]
/-- the cells of bytes -/
def bcells (l : List UInt8) : List Value := l.map fun b => .int .u8 (b.toNat : Int)
theorem length_bcells (l : List UInt8) : (bcells l).length = l.length := by simp [bcells]
theorem bcells_one (l : List UInt8) : ∀ v ∈ bcells l, v.oneCell' = true := by
  intro v hv
  obtain ⟨_, _, rfl⟩ := List.mem_map.1 hv
  rfl

theorem extract_str (l : List UInt8) (i j : Nat) : (str l).extract i j = str ((l.take j).drop i) := by
  apply ByteArray.ext
  simp [str, ByteArray.data_extract, List.extract_toArray, List.take_drop]
  by_cases h : i ≤ j
  · rw [show i + (j - i) = j by omega]
  · rw [show i + (j - i) = i by omega]
    rw [List.drop_eq_nil_of_le (by simp; omega), List.drop_eq_nil_of_le (by simp; omega)]

theorem str_drop (l : List UInt8) (i n : Nat) (h : l.length ≤ n) : (str l).extract i n = str (l.drop i) := by
  rw [extract_str, List.take_of_length_le h]

section
variable {P : Program}

theorem run_copy_string (w : World) (dT sT ty elem : TypeId) (g o dLen dCap : Nat) (s : List UInt8) (cur : Array Value) (t : TypeId)
    (hu : P.underlying dT = some (.slice elem)) (hs : (P.info? elem).map (·.size) = some 1)
    (hg : w.heap[g]? = some (.cells cur t (0, 0))) (hfit : o + min s.length dLen ≤ cur.size) :
    (Builtin.copy_ #[dT, sT] ty #[.slice (some ⟨g, o, none⟩) dLen dCap, .string (str s)]).run P w =
      .ok (goInt (min s.length dLen : Nat)) (w.setRow g (cur.toList.take o ++ bcells (s.take (min s.length dLen)) ++ cur.toList.drop (o + min s.length dLen)).toArray) := by
  have hl : (bcells (s.take (min s.length dLen))).length = min s.length dLen := by simp [bcells]
  have hst := run_storeCells_at P g o t (bcells (s.take (min s.length dLen))) 0 cur w hg (by rw [hl]; simpa using hfit) (bcells_one _)
  rw [hl] at hst
  have he : List.take (min s.length dLen) (List.map (fun b => Value.int IntKind.u8 (b.toNat : Int)) (str s).data.toList) = bcells (s.take (min s.length dLen)) := by
    rw [toList_str, bcells, List.map_take]
  have hm : (str s).size.min dLen = min s.length dLen := by rw [size_str]
  cases hq : P.info? elem with
  | none => simp [hq] at hs
  | some i =>
    have hi : i.size = 1 := by simpa [hq] using hs
    simp only [Nat.add_zero] at hst
    simp [Builtin.copy_, run_underlying hu, Builtin.lenOf, Builtin.firstCells, sizeOf, typeInfo, hq, hm, he, hst]

theorem strOfNums_bytes (l : List UInt8) : strOfNums (l.map fun b => (b.toNat : Int)) = str l := by
  simp [strOfNums, str, Function.comp_def]

theorem run_bytes_str (w : World) (src dst e : TypeId) (hs : P.underlying src = some (.slice e)) (he : P.underlying e = some (.int .u8)) (hd : P.underlying dst = some .string)
    (g cap : Nat) (l : List UInt8) (cur : Array Value) (t : TypeId) (fr : Nat × Nat) (hg : w.heap[g]? = some (.cells cur t fr)) (hcur : cur.toList.take l.length = bcells l) (n : Nat) (hn : n = l.length) :
    (convert src dst (.slice (some ⟨g, 0, none⟩) n cap)).run P w = .ok (.string (str l)) w := by
  subst hn
  rw [← strOfNums_bytes]
  refine run_convert_bytes_arg w src e hs he g 0 l.length cap _ (by simp) (fun i hi => ?_) dst hd
  have h1 : cur.toList[i]? = (bcells l)[i]? := by rw [← hcur, List.getElem?_take_of_lt hi]
  simp only [World.cell?, hg, Nat.zero_add]
  simp only [Option.isSome_none, Bool.false_eq_true, if_false]
  rw [← Array.getElem?_toList, h1]
  simp [bcells, List.getElem?_eq_getElem hi, List.getD]
end

theorem run_byte_str {P : Program} (src dst e : TypeId) (hs : P.underlying src = some (.slice e)) (he : P.underlying e = some (.int .u8)) (hd : P.underlying dst = some .string)
    (w : World) (g : Nat) (x : UInt8) (hg : g = w.heap.size) :
    (convert src dst (.slice (some ⟨g, 0, none⟩) 1 1)).run P (w.alloc (.cells #[.int .u8 (x.toNat : Int)] e)) = .ok (.string (str [x])) (w.alloc (.cells #[.int .u8 (x.toNat : Int)] e)) := by
  subst hg
  exact run_bytes_str (w.alloc (.cells #[.int .u8 (x.toNat : Int)] e)) src dst e hs he hd _ _ [x] _ _ _ (heap_alloc_new w _) rfl 1 rfl
theorem run_zero_str {P : Program} (src dst e : TypeId) (hs : P.underlying src = some (.slice e)) (he : P.underlying e = some (.int .u8)) (hd : P.underlying dst = some .string)
    (w : World) (g : Nat) (hg : g = w.heap.size) :
    (convert src dst (.slice (some ⟨g, 0, none⟩) 1 1)).run P (w.alloc (.cells #[.int .u8 0] e)) = .ok (.string (str [0])) (w.alloc (.cells #[.int .u8 0] e)) :=
  run_byte_str src dst e hs he hd w g 0 hg

theorem setRow_alloc_drew (w : World) (c c' : Array Value) (t : TypeId) : (w.alloc (.cells c t)).drew.setRow w.heap.size c' = (w.alloc (.cells c' t)).drew := by
  simp only [World.setRow, World.alloc, World.drew]
  congr 1
  apply Array.ext
  · simp
  · intro i h1 h2
    simp only [Array.size_modify, Array.size_push] at h1
    rw [Array.getElem_modify]
    by_cases hi : w.heap.size = i
    · subst hi; simp
    · rw [if_neg hi, Array.getElem_push_lt (by omega), Array.getElem_push_lt (by omega)]

theorem heap_setCell_at {w : World} {b o : Nat} {c : Array Value} {t : TypeId} {fr : Nat × Nat} (v : Value) (h : w.heap[b]? = some (.cells c t fr)) :
    (w.setCell ⟨b, o, none⟩ v).heap[b]? = some (.cells (c.setIfInBounds o v) t fr) := by
  obtain ⟨hlt, hk⟩ := Array.getElem?_eq_some_iff.1 h
  show (w.heap.modify b _)[b]? = _
  rw [Array.getElem?_eq_getElem (by rw [Array.size_modify]; exact hlt), Array.getElem_modify_self, hk]
  rfl

theorem cells_new (W : World) (cs : List Value) (t : TypeId) : ∀ j u, cs[j]? = some u → (W.alloc (.cells cs.toArray t)).cell? ((⟨W.heap.size, 0, none⟩ : Addr).add j) = some u := by
  intro j u h
  have e : (⟨W.heap.size, 0, none⟩ : Addr).add j = ⟨W.heap.size, j, none⟩ := by unfold Addr.add; split <;> simp_all
  rw [e]
  simp only [World.cell?, heap_alloc_new, Option.isSome_none, Bool.false_eq_true, if_false]
  simpa using h

theorem ownsRow_below {w w' : World} {base : Nat} {e : TypeId} {size : Nat} {v : Value} {n : Nat} {xs : List Value} (h : w.ownsRow base e size v n xs) (hb : Below w.heap.size w w') : w'.ownsRow base e size v n xs := by
  obtain ⟨h1, h2⟩ := h
  refine ⟨h1, ?_⟩
  rcases h2 with h2 | ⟨g, cap, cur, hv, hg, hh, r⟩
  · exact .inl h2
  · exact .inr ⟨g, cap, cur, hv, hg, (hb.block g (Array.getElem?_eq_some_iff.1 hh).1).trans hh, r⟩

theorem ownsRow_base {w : World} {base base' : Nat} {e : TypeId} {size : Nat} {v : Value} {n : Nat} {xs : List Value} (h : w.ownsRow base e size v n xs) (hb : base' ≤ base) : w.ownsRow base' e size v n xs := by
  obtain ⟨h1, h2⟩ := h
  refine ⟨h1, ?_⟩
  rcases h2 with h2 | ⟨g, cap, cur, hv, hg, r⟩
  · exact .inl h2
  · exact .inr ⟨g, cap, cur, hv, Nat.le_trans hb hg, r⟩

end Go.Proofs.Ytpjllppbpnkemaa

/- A slice that reads as cells. -/
namespace Go.Proofs.Ytpjllppbpnkemaa
open Go.RowKit

/-- The slice value v has n elements of 'size' cells each, which read xs. -/
def Row (w : World) (size : Nat) (v : Value) (n : Nat) (xs : List Value) : Prop :=
  xs.length = n * size ∧ n ≤ maxLen ∧ ∃ a cap, v = .slice a n cap ∧ (a = none → cap = 0) ∧ (n = 0 ∨ ∃ g o, a = some ⟨g, o, none⟩ ∧ ∀ j, j < n * size → w.cell? ⟨g, o + j, none⟩ = xs[j]?)

theorem Row.of_owns {w : World} {base : Nat} {e : TypeId} {size : Nat} {v : Value} {n : Nat} {xs : List Value} (h : w.ownsRow base e size v n xs) : Row w size v n xs := by
  obtain ⟨h1, h2⟩ := h
  rcases h2 with ⟨rfl, rfl⟩ | ⟨g, cap, cur, rfl, _, hg, hn, hc, hs, rfl⟩
  · exact ⟨h1, Nat.zero_le _, none, 0, rfl, fun _ => rfl, .inl rfl⟩
  · refine ⟨h1, Nat.le_trans hn hc, _, cap, rfl, (by intro e; cases e), .inr ⟨g, 0, rfl, fun j hj => ?_⟩⟩
    simp only [World.cell?, hg, Option.isSome_none, Bool.false_eq_true, if_false, Nat.zero_add]
    rw [List.getElem?_take_of_lt hj, Array.getElem?_toList]

theorem Row.below {w w' : World} {size : Nat} {v : Value} {n : Nat} {xs : List Value} (h : Row w size v n xs) (hb : Below w.heap.size w w') : Row w' size v n xs := by
  obtain ⟨h1, h2, a, cap, rfl, h4, h3⟩ := h
  refine ⟨h1, h2, a, cap, rfl, h4, ?_⟩
  rcases h3 with h3 | ⟨g, o, rfl, hc⟩
  · exact .inl h3
  · refine .inr ⟨g, o, rfl, fun j hj => ?_⟩
    have e := hc j hj
    have hlt : g < w.heap.size := by
      rw [List.getElem?_eq_getElem (by omega)] at e
      exact World.block_lt_of_cell? w _ e
    exact (hb.cell (p := ⟨g, o + j, none⟩) hlt).trans e

theorem Row.lit (W : World) (t : TypeId) (size n : Nat) (cs : List Value) (hl : cs.length = n * size) (hm : n ≤ maxLen) :
    Row (W.alloc (.cells cs.toArray t)) size (.slice (some ⟨W.heap.size, 0, none⟩) n n) n cs :=
  ⟨hl, hm, _, n, rfl, (by intro e; cases e), .inr ⟨_, _, rfl, fun j hj => by
    simp only [World.cell?, heap_alloc_new, Option.isSome_none, Bool.false_eq_true, if_false, Nat.zero_add, List.getElem?_toArray]⟩⟩

theorem next {w w1 w2 : World} (h1 : Below w.heap.size w w1) (h2 : Below w1.heap.size w1 w2) : Below w.heap.size w w2 := h1.trans (h2.mono h1.size)

/-- append of a slice that reads as cells to one that the call owns: the run, whatever the world answers -/
theorem append_row {P : Program} {w : World} (base : Nat) (t ty e : TypeId) {i : TypeInfo} {z : Value} {size bytes : Nat} (ht : P.underlying t = some (.slice e)) (hi : P.info? e = some i) (hz : i.zero = some z)
    (hsize : i.size = size) (hby : i.bytes = bytes) (hzs : z.cells.size = size) (hsz : 0 < size)
    {v : Value} {n : Nat} {xs : List Value} (hown : w.ownsRow base e size v n xs) {v2 : Value} {m : Nat} {news : List Value} (hr : Row w size v2 m news) (h1 : ∀ u ∈ news, u.oneCell' = true)
    (h63 : n + m ≤ maxLen) (hbytes : (n + m) * bytes ≤ 140737488355328) (hbase : base ≤ w.heap.size) :
    ∃ v' w', (Builtin.append_ #[t, t] ty #[v, v2]).run P w = .ok v' w' ∧ w'.ownsRow base e size v' (n + m) (xs ++ news) ∧ w.grownBy w' v.ownBlock := by
  obtain ⟨hl, _, a, cap, rfl, hn, hc⟩ := hr
  cases a with
  | none =>
    obtain rfl := hn rfl
    have hm : m = 0 := by
      rcases hc with hc | ⟨g, o, e, _⟩
      · exact hc
      · cases e
    subst hm
    obtain rfl : news = [] := List.eq_nil_of_length_eq_zero (by simpa using hl)
    exact ⟨v, w, run_append_owned_none (P := P) w base t ty e i size ht hi v n xs hown, by simpa using hown, World.grownBy.refl _ _⟩
  | some ad =>
    obtain ⟨v', w', h2, h3, h4, _⟩ := run_append_own (P := P) (w := w) base t ty e i z size bytes ht hi hz hsize hby hzs hsz v n xs hown ad m cap news hl (fun j u hj => by
      rcases hc with rfl | ⟨g, o, e, hc⟩
      · obtain rfl : news = [] := List.eq_nil_of_length_eq_zero (by simpa using hl)
        simp at hj
      · cases e
        have hjl : j < m * size := by rw [← hl]; exact (List.getElem?_eq_some_iff.1 hj).1
        rw [Addr.add_lit, hc j hjl, hj]) h1 h63 hbytes hbase
    exact ⟨v', w', h2, h3, h4⟩

/-- an append, guarded or not, whose run is known -/
theorem wpList_append_run {P : Program} {w w' : World} {ops : Array Oper} {rest : List Oper} {o : Oper} {a : Act} {Q : Exit → Act → World → Prop} {s x : Operand} {t : TypeId} {v x1 x2 : Value}
    (hg : Region.wanted o (yielded ops a.tmps) = true) (ho : o.op = .call { callee := .builtin .append, args := #[s, x], argTypes := #[t, t] })
    (hs : a.eval s = x1) (hx : a.eval x = x2)
    (hrun : (Builtin.append_ #[t, t] o.type #[x1, x2]).run P w = .ok v w') (h : wpList P ops Q rest (a.put o.dst v) w') : wpList P ops Q (o :: rest) a w := by
  refine wpList_step fun K hK => ?_
  rw [if_pos hg]
  unfold Oper.wp
  simp [execOp, ho, resolve, invoke, builtin, hs, hx, hrun, Result.andThen]
  exact hK _ _ h

theorem Row.len {w : World} {size : Nat} {v : Value} {n : Nat} {xs : List Value} (h : Row w size v n xs) : xs.length = n * size := h.1

end Go.Proofs.Ytpjllppbpnkemaa

/- Sets of bytes: 256 bits; the four words in which Go keeps them. -/
namespace Go.Proofs.Ytpjllppbpnkemaa
open Go.RowKit

abbrev CSet := BitVec 256
def word (s : CSet) (i : Nat) : Nat := s.toNat / 2 ^ (64 * i) % 2 ^ 64
def setC (s : CSet) : Array Value := #[.int .u64 (word s 0 : Int), .int .u64 (word s 1 : Int), .int .u64 (word s 2 : Int), .int .u64 (word s 3 : Int)]
def setV (s : CSet) : Value := .agg (setC s)
def bit (b : Nat) : CSet := BitVec.twoPow 256 b

theorem word_lt (s : CSet) (i : Nat) : word s i < 18446744073709551616 := Nat.mod_lt _ (by decide)
theorem word_testBit (s : CSet) (i j : Nat) (h : j < 64) : (word s i).testBit j = s.getLsbD (64 * i + j) := by
  unfold word
  rw [Nat.testBit_mod_two_pow, Nat.testBit_div_two_pow, BitVec.getLsbD]
  simp [h, Nat.add_comm]
theorem word_testBit_ge (s : CSet) (i j : Nat) (h : 64 ≤ j) : (word s i).testBit j = false := by
  unfold word
  rw [Nat.testBit_mod_two_pow]
  simp; omega
theorem word_ext {s t : CSet} (h : ∀ i, i < 4 → word s i = word t i) : s = t := by
  apply BitVec.eq_of_getLsbD_eq
  intro k hk
  have e := h (k / 64) (by omega)
  have h1 := word_testBit s (k / 64) (k % 64) (Nat.mod_lt _ (by decide))
  have h2 := word_testBit t (k / 64) (k % 64) (Nat.mod_lt _ (by decide))
  rw [e, h2] at h1
  rw [Nat.div_add_mod] at h1
  exact h1.symm
theorem eq_word {n : Nat} {s : CSet} {i : Nat} (hn : n < 2 ^ 64) (h : ∀ j, j < 64 → n.testBit j = s.getLsbD (64 * i + j)) : n = word s i := by
  apply Nat.eq_of_testBit_eq
  intro j
  by_cases hj : j < 64
  · rw [word_testBit s i j hj, h j hj]
  · rw [word_testBit_ge s i j (by omega), Nat.testBit_lt_two_pow (Nat.lt_of_lt_of_le hn (Nat.pow_le_pow_right (by decide) (by omega)))]

theorem setC_inj {s t : CSet} (h : setC s = setC t) : s = t := by
  unfold setC at h
  simp at h
  apply word_ext
  intro i hi
  match i, hi with
  | 0, _ => exact Int.ofNat_inj.1 h.1
  | 1, _ => exact Int.ofNat_inj.1 h.2.1
  | 2, _ => exact Int.ofNat_inj.1 h.2.2.1
  | 3, _ => exact Int.ofNat_inj.1 h.2.2.2

theorem word_or (s t : CSet) (i : Nat) : word (s ||| t) i = word s i ||| word t i := by
  symm; apply eq_word
  · exact Nat.or_lt_two_pow (word_lt s i) (word_lt t i)
  · intro j hj; rw [Nat.testBit_or, word_testBit s i j hj, word_testBit t i j hj, BitVec.getLsbD_or]
theorem word_and (s t : CSet) (i : Nat) : word (s &&& t) i = word s i &&& word t i := by
  symm; apply eq_word
  · exact Nat.and_lt_two_pow _ (word_lt t i)
  · intro j hj; rw [Nat.testBit_and, word_testBit s i j hj, word_testBit t i j hj, BitVec.getLsbD_and]
theorem word_bit (b i : Nat) (h : b < 256) : word (bit b) i = if i = b / 64 then 2 ^ (b % 64) else 0 := by
  symm; apply eq_word
  · split
    · exact Nat.pow_lt_pow_right (by decide) (Nat.mod_lt _ (by decide))
    · decide
  · intro j hj
    unfold bit
    rw [BitVec.getLsbD_twoPow]
    split
    · rw [Nat.testBit_two_pow]
      rw [Bool.eq_iff_iff]; simp; omega
    · rw [Nat.zero_testBit, Bool.eq_iff_iff]; simp; omega

theorem nat_clear (x r j : Nat) (h : x.testBit r = true) : (x - 2 ^ r).testBit j = (x.testBit j && decide (j ≠ r)) := by
  have h1 : x / 2 ^ r % 2 = 1 := by rw [Nat.testBit_eq_decide_div_mod_eq] at h; exact of_decide_eq_true h
  have h2 := Nat.div_add_mod x (2 ^ (r + 1))
  have h3 : x % 2 ^ (r + 1) = x % 2 ^ r + 2 ^ r := by rw [Nat.mod_pow_succ, h1, Nat.mul_one]
  have hl : x % 2 ^ r < 2 ^ r := Nat.mod_lt _ (Nat.two_pow_pos r)
  have h4 : x - 2 ^ r = 2 ^ (r + 1) * (x / 2 ^ (r + 1)) + x % 2 ^ r := by omega
  rw [h4, Nat.testBit_two_pow_mul_add _ (Nat.lt_trans hl (Nat.pow_lt_pow_right (by decide) (by omega)))]
  by_cases hj : j < r + 1
  · rw [if_pos hj, Nat.testBit_mod_two_pow]
    by_cases e : j = r
    · subst e; simp
    · have : j < r := by omega
      simp [e, this]
  · rw [if_neg hj, Nat.testBit_div_two_pow]
    have : j ≠ r := by omega
    rw [show j - (r + 1) + (r + 1) = j by omega]
    simp [this]

/-- is a byte in a set -/
def hasB (s : CSet) (b : Nat) : Bool := s.getLsbD b
theorem hasB_word (s : CSet) (b : Nat) : hasB s b = decide (word s (b / 64) / 2 ^ (b % 64) % 2 = 1) := by
  have h := word_testBit s (b / 64) (b % 64) (Nat.mod_lt _ (by decide))
  rw [Nat.div_add_mod, Nat.testBit_eq_decide_div_mod_eq] at h
  exact h.symm

theorem setC_size (s : CSet) : (setC s).size = 4 := rfl
theorem hasB_or (s t : CSet) (b : Nat) : hasB (s ||| t) b = (hasB s b || hasB t b) := by simp [hasB]
theorem hasB_bit (b c : Nat) (h : b < 256) : hasB (bit b) c = decide (b = c) := by
  unfold hasB bit
  rw [BitVec.getLsbD_twoPow]; simp [h]
theorem hasB_ge (s : CSet) (b : Nat) (h : 256 ≤ b) : hasB s b = false := BitVec.getLsbD_of_ge s b h
theorem set_ext {s t : CSet} (h : ∀ b, b < 256 → hasB s b = hasB t b) : s = t := BitVec.eq_of_getLsbD_eq h

/-- the bytes of a set below a number -/
def low (t : CSet) (i : Nat) : CSet := t &&& BitVec.ofNat 256 (2 ^ i - 1)
theorem hasB_low (t : CSet) (i b : Nat) : hasB (low t i) b = (hasB t b && decide (b < i)) := by
  unfold hasB low
  rw [BitVec.getLsbD_and, BitVec.getLsbD_ofNat, Nat.testBit_two_pow_sub_one]
  by_cases h : b < 256
  · simp [h]
  · rw [BitVec.getLsbD_of_ge t b (by omega)]; simp
theorem low_zero (t : CSet) : low t 0 = 0#256 := by
  apply set_ext; intro b _; rw [hasB_low]; simp [hasB]
theorem low_all (t : CSet) : low t 256 = t := by
  apply set_ext; intro b h; rw [hasB_low]; simp [h]
theorem low_yes {t : CSet} {i : Nat} (hi : i < 256) (h : hasB t i = true) : low t (i + 1) = low t i ||| bit i := by
  apply set_ext; intro b _
  rw [hasB_or, hasB_low, hasB_low, hasB_bit i b hi, Bool.eq_iff_iff]
  simp
  by_cases e : i = b
  · subst e; simp [h]
  · simp [e]
    intro _
    omega
theorem low_no {t : CSet} {i : Nat} (h : hasB t i = false) : low t (i + 1) = low t i := by
  apply set_ext; intro b _
  rw [hasB_low, hasB_low, Bool.eq_iff_iff]
  simp
  intro hb
  have : b ≠ i := by rintro rfl; rw [h] at hb; cases hb
  omega

/-- the set of the bytes of which something holds -/
def ofF (f : Nat → Bool) : CSet := (List.range 256).foldl (fun s i => if f i then s ||| bit i else s) 0#256
theorem hasB_fold (f : Nat → Bool) (n b : Nat) (hn : n ≤ 256) : hasB ((List.range n).foldl (fun s i => if f i then s ||| bit i else s) 0#256) b = (decide (b < n) && f b) := by
  induction n with
  | zero => simp [hasB]
  | succ n ih =>
    rw [List.range_succ, List.foldl_append, List.foldl_cons, List.foldl_nil]
    have ih' := ih (by omega)
    split
    · rename_i h
      rw [hasB_or, ih', hasB_bit n b (by omega)]
      by_cases e : n = b
      · subst e; simp [h]
      · have : decide (b < n + 1) = decide (b < n) := by rw [Bool.eq_iff_iff]; simp; omega
        simp [e, this]
    · rename_i h
      rw [ih']
      by_cases e : n = b
      · subst e; simp at h; simp [h]
      · have : decide (b < n + 1) = decide (b < n) := by rw [Bool.eq_iff_iff]; simp; omega
        rw [this]
theorem hasB_ofF (f : Nat → Bool) (b : Nat) (hb : b < 256) : hasB (ofF f) b = f b := by
  unfold ofF; rw [hasB_fold f 256 b (Nat.le_refl _)]; simp [hb]

def rangeE (l h : Int) : Int := if l < 0 ∨ 255 < h ∨ h < l then 7 else 0
def spanS (l h : Int) : CSet := ofF fun b => decide (l ≤ (b : Int) ∧ (b : Int) < h)
def rangeS (l h : Int) : CSet := if rangeE l h = 0 then spanS l (h + 1) else 0#256
theorem span_succ {l : Int} {k : Nat} (hk : k < 256) (hl : l ≤ (k : Int)) : spanS l ((k : Int) + 1) = spanS l k ||| bit k := by
  apply set_ext; intro b hb
  rw [hasB_or, spanS, spanS, hasB_ofF _ _ hb, hasB_ofF _ _ hb, hasB_bit k b hk, Bool.eq_iff_iff]
  simp; omega
theorem span_none (l : Int) : spanS l l = 0#256 := by
  apply set_ext; intro b hb
  rw [spanS, hasB_ofF _ _ hb]
  simp [hasB] <;> omega

/-- the set of bytes of a list -/
def ofL (bs : List UInt8) : CSet := bs.foldl (fun s b => s ||| bit b.toNat) 0#256
theorem ofL_snoc (bs : List UInt8) (b : UInt8) : ofL (bs ++ [b]) = ofL bs ||| bit b.toNat := by simp [ofL]
theorem hasB_ofL (bs : List UInt8) (c : Nat) : hasB (ofL bs) c = bs.any fun b => b.toNat == c := by
  unfold ofL
  rw [← List.foldr_reverse, ← List.any_reverse]
  induction bs.reverse with
  | nil => simp [hasB]
  | cons b l ih =>
    rw [List.foldr_cons, hasB_or, ih, List.any_cons, hasB_bit _ _ (UInt8.toNat_lt b), Bool.or_comm]
    rfl

/-- the bytes of a set, in order, below a number -/
def listTo (s : CSet) (n : Nat) : List UInt8 := ((List.range n).filter (hasB s)).map UInt8.ofNat
theorem listTo_yes {s : CSet} {n : Nat} (h : hasB s n = true) : listTo s (n + 1) = listTo s n ++ [UInt8.ofNat n] := by simp [listTo, List.range_succ, List.filter_append, h]
theorem listTo_no {s : CSet} {n : Nat} (h : hasB s n = false) : listTo s (n + 1) = listTo s n := by simp [listTo, List.range_succ, List.filter_append, h]
theorem listTo_le (s : CSet) (n : Nat) : (listTo s n).length ≤ n := by
  have := List.length_filter_le (hasB s) (List.range n)
  simp only [listTo, List.length_map]
  simp at this; omega
def listS (s : CSet) : List UInt8 := listTo s 256

end Go.Proofs.Ytpjllppbpnkemaa

/- Layer 3's reference: Has, Add, Drop: what they compute. -/
namespace Go.Proofs.Ytpjllppbpnkemaa
open Go.RowKit

/-- the byte's word and place, as the walk reckons them -/
theorem byte_at (b : Nat) (hb : b < 256) : ∃ q r : Nat, q < 4 ∧ r < 64 ∧ b / 64 = q ∧ b % 64 = r ∧ ((b : Int) / 64) = (q : Int) ∧ ((b : Int) % 64) = (r : Int) :=
  ⟨b / 64, b % 64, by omega, by omega, rfl, rfl, by omega, by omega⟩

theorem word_add (s : CSet) (b i : Nat) (hb : b < 256) : word (s ||| bit b) i = if i = b / 64 then word s i ||| 2 ^ (b % 64) else word s i := by
  rw [word_or, word_bit b i hb]
  split
  · rfl
  · exact Nat.or_zero _

theorem pow_lt64 {r : Nat} (h : r < 64) : 2 ^ r < 18446744073709551616 := Nat.pow_lt_pow_right (by decide) h
theorem wrap_pow {r : Nat} (h : r < 64) : IntKind.u64.wrap (2 ^ r) = ((2 ^ r : Nat) : Int) := by
  have hp := pow_lt64 h
  rw [IntKind.wrap_u64]
  have e : ((2 : Int) ^ r) = ((2 ^ r : Nat) : Int) := by norm_cast
  rw [e]
  exact Int.emod_eq_of_lt (Int.natCast_nonneg _) (Int.ofNat_lt.2 hp)
theorem or_wrap {x r : Nat} (hx : x < 18446744073709551616) (hr : r < 64) : bits .or .u64 (x : Int) (IntKind.u64.wrap (2 ^ r)) = ((x ||| 2 ^ r : Nat) : Int) := by
  rw [wrap_pow hr]; exact u64_or_nat x (2 ^ r) hx (pow_lt64 hr)

set_option maxHeartbeats 400000 in
theorem add_r (s : CSet) (b : Nat) (hb : b < 256) (w : World) :
    Calls Try.prog 77 #[setV s, .int .u8 (b : Int)] w fun e w' => e = .returned (setV (s ||| bit b)) ∧ Below w.heap.size w w' := by
  obtain ⟨q, r, hq, hr, e1, e2, e3, e4⟩ := byte_at b hb
  have i0 : (0 : Int) ≤ (b : Int) := by omega
  have i1 : (b : Int) ≤ 255 := by omega
  have h0 := word_add s b 0 hb
  have h1 := word_add s b 1 hb
  have h2 := word_add s b 2 hb
  have h3 := word_add s b 3 hb
  rw [e1, e2] at h0 h1 h2 h3
  have HH : setV (s ||| bit b) = .agg #[.int .u64 ((if 0 = q then word s 0 ||| 2 ^ r else word s 0 : Nat) : Int), .int .u64 ((if 1 = q then word s 1 ||| 2 ^ r else word s 1 : Nat) : Int), .int .u64 ((if 2 = q then word s 2 ||| 2 ^ r else word s 2 : Nat) : Int), .int .u64 ((if 3 = q then word s 3 ||| 2 ^ r else word s 3 : Nat) : Int)] := by
    unfold setV setC; rw [h0, h1, h2, h3]
  rw [HH]
  clear HH h0 h1 h2 h3 e1 e2
  have w0 := word_lt s 0
  have w1 := word_lt s 1
  have w2 := word_lt s 2
  have w3 := word_lt s 3
  unfold setV setC
  match q, hq with
  | 0, _ =>
    go_enter Try.func77, Try.ntmps77
    go_wp2
    rw [or_wrap w0 hr]
    exact bodyPost_ret (v := .agg #[.int .u64 _, .int .u64 _, .int .u64 _, .int .u64 _]) (by simp [results, Try.results77, go_sem]) rfl ⟨rfl, ((Below.refl _ _).alloc (Nat.le_refl _) _).alloc (by simp) _⟩
  | 1, _ =>
    go_enter Try.func77, Try.ntmps77
    go_wp2
    rw [or_wrap w1 hr]
    exact bodyPost_ret (v := .agg #[.int .u64 _, .int .u64 _, .int .u64 _, .int .u64 _]) (by simp [results, Try.results77, go_sem]) rfl ⟨rfl, ((Below.refl _ _).alloc (Nat.le_refl _) _).alloc (by simp) _⟩
  | 2, _ =>
    go_enter Try.func77, Try.ntmps77
    go_wp2
    rw [or_wrap w2 hr]
    exact bodyPost_ret (v := .agg #[.int .u64 _, .int .u64 _, .int .u64 _, .int .u64 _]) (by simp [results, Try.results77, go_sem]) rfl ⟨rfl, ((Below.refl _ _).alloc (Nat.le_refl _) _).alloc (by simp) _⟩
  | 3, _ =>
    go_enter Try.func77, Try.ntmps77
    go_wp2
    rw [or_wrap w3 hr]
    exact bodyPost_ret (v := .agg #[.int .u64 _, .int .u64 _, .int .u64 _, .int .u64 _]) (by simp [results, Try.results77, go_sem]) rfl ⟨rfl, ((Below.refl _ _).alloc (Nat.le_refl _) _).alloc (by simp) _⟩

end Go.Proofs.Ytpjllppbpnkemaa

/- Layer 3, the program: Has. -/
namespace Go.Proofs.Ytpjllppbpnkemaa
open Go.RowKit

theorem u8_and63 {n : Nat} (h : n < 256) : bits .and .u8 (n : Int) 63 = ((n % 64 : Nat) : Int) := by
  have := u8_and_nat n 63 h (by decide)
  have e : n &&& 63 = n % 64 := Nat.and_two_pow_sub_one_eq_mod n 6
  rw [e] at this
  exact this
theorem has_num1 {x : Nat} (h : x < 18446744073709551616) (r : Nat) : (bits .and .u64 ((x : Int) / 2 ^ r) 1 != 0) = decide (x / 2 ^ r % 2 = 1) := by
  have e : ((x : Int) / 2 ^ r) = ((x / 2 ^ r : Nat) : Int) := by rw [Int.natCast_ediv]; norm_cast
  rw [e]
  have := u64_and_nat (x / 2 ^ r) 1 (Nat.lt_of_le_of_lt (Nat.div_le_self _ _) h) (by decide)
  rw [Nat.and_one_is_mod] at this
  rw [show (1 : Int) = ((1 : Nat) : Int) from rfl, this, Bool.eq_iff_iff]
  simp
  omega

set_option maxHeartbeats 400000 in
theorem has_p (s : CSet) (b : Nat) (hb : b < 256) (w : World) :
    Calls Try.prog 38 #[setV s, .int .u8 (b : Int)] w fun e w' => e = .returned (.bool (hasB s b)) ∧ Below w.heap.size w w' := by
  obtain ⟨q, r, hq, hr, e1, e2, e3, e4⟩ := byte_at b hb
  have i0 : (0 : Int) ≤ (b : Int) := by omega
  have i1 : (b : Int) ≤ 255 := by omega
  have hh := hasB_word s b
  rw [e1, e2] at hh
  have HH := Lib.hid hh
  have e5 : bits .and .u8 (b : Int) 63 = (r : Int) := by rw [u8_and63 hb, e2]
  clear hh e1 e2
  have w0 := word_lt s 0
  have w1 := word_lt s 1
  have w2 := word_lt s 2
  have w3 := word_lt s 3
  unfold setV setC
  match q, hq with
  | 0, _ =>
    go_enter Try.func38, Try.ntmps38
    go_wp2
    go_ret
    refine ⟨?_, (Below.refl _ _).alloc (Nat.le_refl _) _⟩
    rw [HH.out]
    exact congrArg (fun x => Ending.returned (.bool x)) (has_num1 w0 _)
  | 1, _ =>
    go_enter Try.func38, Try.ntmps38
    go_wp2
    go_ret
    refine ⟨?_, (Below.refl _ _).alloc (Nat.le_refl _) _⟩
    rw [HH.out]
    exact congrArg (fun x => Ending.returned (.bool x)) (has_num1 w1 _)
  | 2, _ =>
    go_enter Try.func38, Try.ntmps38
    go_wp2
    go_ret
    refine ⟨?_, (Below.refl _ _).alloc (Nat.le_refl _) _⟩
    rw [HH.out]
    exact congrArg (fun x => Ending.returned (.bool x)) (has_num1 w2 _)
  | 3, _ =>
    go_enter Try.func38, Try.ntmps38
    go_wp2
    go_ret
    refine ⟨?_, (Below.refl _ _).alloc (Nat.le_refl _) _⟩
    rw [HH.out]
    exact congrArg (fun x => Ending.returned (.bool x)) (has_num1 w3 _)
end Go.Proofs.Ytpjllppbpnkemaa

/- The arguments of a law, opened off their types alone. -/
namespace Go.Proofs.Ytpjllppbpnkemaa
open Go.RowKit

theorem arg_int {P : Program} {w : World} {r : Reach} {b : Nat} {t : TypeId} {k : IntKind} {v : Value} (h : P.underlying t = some (.int k)) (hv : Value.okWide P w r b t v) : ∃ n, v = .int k n ∧ k.has n := by
  simp only [Value.okWide, h, Cell.okWide] at hv
  cases v <;> simp_all [Cell.ok]
theorem arg_string {P : Program} {w : World} {r : Reach} {b : Nat} {t : TypeId} {v : Value} (h : P.underlying t = some .string) (hv : Value.okWide P w r b t v) : ∃ s, v = .string s ∧ s.size ≤ maxLen := by
  simp only [Value.okWide, h, Cell.okWide] at hv
  cases v with
  | string s =>
    simp only [Cell.ok, h, IntKind.max, IntKind.signed, IntKind.bits] at hv
    refine ⟨s, rfl, ?_⟩
    unfold maxLen
    simp at hv
    omega
  | _ => simp_all [Cell.ok]
theorem arg_bool {P : Program} {w : World} {r : Reach} {b : Nat} {t : TypeId} {v : Value} (h : P.underlying t = some .bool) (hv : Value.okWide P w r b t v) : ∃ n, v = .bool n := by
  simp only [Value.okWide, h, Cell.okWide] at hv
  cases v <;> simp_all [Cell.ok]

theorem has_i64 {n : Int} (h : IntKind.i64.has n) : -9223372036854775808 ≤ n ∧ n ≤ 9223372036854775807 := by
  simpa [IntKind.has, IntKind.min, IntKind.max, IntKind.signed, IntKind.bits] using h
theorem has_u64 {n : Int} (h : IntKind.u64.has n) : 0 ≤ n ∧ n ≤ 18446744073709551615 := by
  simpa [IntKind.has, IntKind.min, IntKind.max, IntKind.signed, IntKind.bits] using h
theorem has_u8 {n : Int} (h : IntKind.u8.has n) : 0 ≤ n ∧ n ≤ 255 := by
  simpa [IntKind.has, IntKind.min, IntKind.max, IntKind.signed, IntKind.bits] using h
theorem has_u16 {n : Int} (h : IntKind.u16.has n) : 0 ≤ n ∧ n ≤ 65535 := by
  simpa [IntKind.has, IntKind.min, IntKind.max, IntKind.signed, IntKind.bits] using h

def flatB (P : Program) (t : TypeId) : Bool := match P.underlying t with
  | some (.struct _) | some (.array _ _) => true
  | _ => false

theorem arg_agg {P : Program} {w : World} {r : Reach} {b : Nat} {t : TypeId} {v : Value} {ts : List TypeId} (hu : flatB P t = true) (hts : P.cellTypes P.depth t = some ts) (hn : P.cellsOf t = ts.length)
    (hv : Value.okWide P w r b t v) : ∃ cs, v = .agg cs ∧ cs.size = ts.length ∧ ∀ (i : Nat) (u : TypeId) (x : Value), ts[i]? = some u → cs[i]? = some x → Cell.okWide P w r b u x := by
  unfold Value.okWide at hv
  unfold flatB at hu
  have key : (∃ cs, v = .agg cs ∧ cs.size = P.cellsOf t ∧ Row.okWide P w r b t cs) → ∃ cs, v = .agg cs ∧ cs.size = ts.length ∧ ∀ (i : Nat) (u : TypeId) (x : Value), ts[i]? = some u → cs[i]? = some x → Cell.okWide P w r b u x := by
    rintro ⟨cs, rfl, hs, ts', hts', _, hc⟩
    rw [hts] at hts'
    obtain rfl := Option.some.inj hts'
    refine ⟨cs, rfl, by omega, fun i u x hi hx => ?_⟩
    have hl : i < ts.length := (List.getElem?_eq_some_iff.1 hi).1
    obtain ⟨u', hu', hok⟩ := hc i x hx
    rw [Nat.mod_eq_of_lt hl, hi] at hu'
    obtain rfl := Option.some.inj hu'
    exact hok
  split at hv <;> first | exact key hv | simp_all

theorem cell_int {P : Program} {w : World} {r : Reach} {b : Nat} {t : TypeId} {k : IntKind} {v : Value} (h : P.underlying t = some (.int k)) (hv : Cell.okWide P w r b t v) : ∃ n, v = .int k n ∧ k.has n := by
  simp only [h, Cell.okWide] at hv
  cases v <;> simp_all [Cell.ok]

theorem cells4 {cs : Array Value} (h : cs.size = 4) : ∃ a b c d, cs = #[a, b, c, d] :=
  ⟨cs[0], cs[1], cs[2], cs[3], by apply Array.ext <;> simp [h]; intro i h1 h2; match i, h2 with | 0, _ => rfl | 1, _ => rfl | 2, _ => rfl | 3, _ => rfl⟩

end Go.Proofs.Ytpjllppbpnkemaa

/- Equality of sets, as the model runs it. -/
namespace Go.Proofs.Ytpjllppbpnkemaa
open Go.RowKit

theorem set_ne {s t : CSet} (i : Nat) (h : word s i ≠ word t i) : decide (s = t) = false := by
  rw [decide_eq_false_iff_not]; rintro rfl; exact h rfl
theorem eq_words (a b c d a' b' c' d' : Int) (w : World) : (Op.equalIn 10000 61 (.agg #[.int .u64 a, .int .u64 b, .int .u64 c, .int .u64 d]) (.agg #[.int .u64 a', .int .u64 b', .int .u64 c', .int .u64 d'])).run Try.prog w = .ok (a == a' && (b == b' && (c == c' && d == d'))) w := by
  have u3 := Try.underlying59
  have a3 := Try.isAgg59
  have z3 := Try.sizeOf59
  rw [show (10000 : Nat) = 9999 + 1 from rfl, Op.equalIn]
  simp only [Sem.run_bind, run_underlying Try.underlying61, Result.andThen_ok]
  simp only [Std.Legacy.Range.forIn_eq_forIn_range', Std.Legacy.Range.size, Nat.sub_zero, Nat.add_sub_cancel, Nat.div_one, List.range'_succ, List.range'_zero, List.forIn_cons, List.forIn_nil]
  go_simp
  by_cases h1 : a = a' <;> by_cases h2 : b = b' <;> by_cases h3 : c = c' <;> by_cases h4 : d = d' <;> simp [h1, h2, h3, h4]
/-- sets are equal exactly if their words are -/
theorem eq_set (w : World) (s t : CSet) : (Op.equalIn 10000 61 (.agg #[.int .u64 (word s 0 : Int), .int .u64 (word s 1 : Int), .int .u64 (word s 2 : Int), .int .u64 (word s 3 : Int)]) (.agg #[.int .u64 (word t 0 : Int), .int .u64 (word t 1 : Int), .int .u64 (word t 2 : Int), .int .u64 (word t 3 : Int)])).run Try.prog w = .ok (decide (s = t)) w := by
  rw [eq_words]
  congr 1
  rw [Bool.eq_iff_iff]
  simp only [Bool.and_eq_true, beq_iff_eq, decide_eq_true_eq]
  constructor
  · rintro ⟨h0, h1, h2, h3⟩
    apply word_ext
    intro i hi
    match i, hi with
    | 0, _ => exact_mod_cast h0
    | 1, _ => exact_mod_cast h1
    | 2, _ => exact_mod_cast h2
    | 3, _ => exact_mod_cast h3
  · rintro rfl
    exact ⟨rfl, rfl, rfl, rfl⟩
theorem run_eq_set (w : World) (s t : CSet) :
    (binOp .eql 61 (.agg #[.int .u64 (word s 0 : Int), .int .u64 (word s 1 : Int), .int .u64 (word s 2 : Int), .int .u64 (word s 3 : Int)]) (.agg #[.int .u64 (word t 0 : Int), .int .u64 (word t 1 : Int), .int .u64 (word t 2 : Int), .int .u64 (word t 3 : Int)])).run Try.prog w = .ok (.bool (decide (s = t))) w := by
  simp [go_sem, eq_set]
theorem run_ne_set (w : World) (s t : CSet) :
    (binOp .neq 61 (.agg #[.int .u64 (word s 0 : Int), .int .u64 (word s 1 : Int), .int .u64 (word s 2 : Int), .int .u64 (word s 3 : Int)]) (.agg #[.int .u64 (word t 0 : Int), .int .u64 (word t 1 : Int), .int .u64 (word t 2 : Int), .int .u64 (word t 3 : Int)])).run Try.prog w = .ok (.bool (!decide (s = t))) w := by
  simp [go_sem, eq_set]
theorem eq_none (w : World) (s : CSet) :
    (Op.equalIn 10000 61 (.agg #[.int .u64 (word s 0 : Int), .int .u64 (word s 1 : Int), .int .u64 (word s 2 : Int), .int .u64 (word s 3 : Int)]) (.agg #[.int .u64 0, .int .u64 0, .int .u64 0, .int .u64 0])).run Try.prog w = .ok (decide (s = 0#256)) w :=
  eq_set w s 0#256
end Go.Proofs.Ytpjllppbpnkemaa

/- Patterns, plainly: what is wrong with them, their lengths, what they match, where it ends. -/
namespace Go.Proofs.Ytpjllppbpnkemaa
open Go.RowKit

/-- an element: a gap, its class, its bounds -/
structure El where
  gap : Bool
  cls : CSet
  low : Int
  high : Int
  deriving DecidableEq

def elemE (p : List El) (i : Nat) : Int :=
  match p[i]? with
  | none => 0
  | some x =>
    if x.gap = false then (if x.low ≠ 0 ∨ x.high ≠ 0 then 6 else 0)
    else if x.cls ≠ 0#256 then 6
    else if x.low < 0 ∨ x.high < x.low ∨ 16 < x.high then 7
    else if i = 0 ∨ i + 1 = p.length ∨ (p[i - 1]?.map El.gap) = some true then 6 else 0
/-- the first of the numbers from i on, n of them, at which an error stands -/
def firstE (p : List El) : Nat → Nat → Int × Int
  | _, 0 => (0, 0)
  | i, n + 1 => if elemE p i ≠ 0 then ((i : Int), elemE p i) else firstE p (i + 1) n
def checkV (p : List El) : Int × Int := if p.length = 0 then (0, 6) else if 512 < p.length then (0, 3) else firstE p 0 p.length
theorem firstE_step {p : List El} {i n : Nat} (h : elemE p i = 0) : firstE p i (n + 1) = firstE p (i + 1) n := by
  show (if elemE p i ≠ 0 then _ else _) = _
  rw [if_neg (by rw [h]; simp)]
theorem firstE_hit {p : List El} {i n : Nat} (h : elemE p i ≠ 0) : firstE p i (n + 1) = ((i : Int), elemE p i) := by
  show (if elemE p i ≠ 0 then _ else _) = _
  rw [if_pos h]
theorem firstE_zero {p : List El} : ∀ n i, (firstE p i n).2 = 0 → ∀ j, i ≤ j → j < i + n → elemE p j = 0
  | 0, i, _, j, h1, h2 => by omega
  | n + 1, i, h, j, h1, h2 => by
    by_cases h0 : elemE p i = 0
    · rw [firstE_step h0] at h
      by_cases hj : j = i
      · subst hj; exact h0
      · exact firstE_zero n (i + 1) h j (by omega) (by omega)
    · rw [firstE_hit h0] at h
      exact absurd h h0
theorem firstE_fst {p : List El} : ∀ n i, (firstE p i n).2 = 0 → firstE p i n = (0, 0)
  | 0, i, _ => rfl
  | n + 1, i, h => by
    by_cases h0 : elemE p i = 0
    · rw [firstE_step h0] at h ⊢
      exact firstE_fst n (i + 1) h
    · rw [firstE_hit h0] at h
      exact absurd h h0
/-- a pattern with which nothing is wrong -/
structure OkP (p : List El) : Prop where
  pos : 0 < p.length
  le : p.length ≤ 512
  el : ∀ i, i < p.length → elemE p i = 0
theorem okP_of {p : List El} (h : (checkV p).2 = 0) : OkP p := by
  unfold checkV at h
  by_cases h1 : p.length = 0
  · rw [if_pos h1] at h; exact absurd h (by decide)
  · rw [if_neg h1] at h
    by_cases h2 : 512 < p.length
    · rw [if_pos h2] at h; exact absurd h (by decide)
    · rw [if_neg h2] at h
      exact ⟨by omega, by omega, fun i hi => firstE_zero _ 0 h i (by omega) (by omega)⟩
theorem checkV_ok {p : List El} (h : (checkV p).2 = 0) : checkV p = (0, 0) := by
  have hk := okP_of h
  unfold checkV at h ⊢
  rw [if_neg (by have := hk.pos; omega), if_neg (by have := hk.le; omega)] at h ⊢
  exact firstE_fst _ _ h
theorem firstE_none {p : List El} : ∀ n i, (∀ j, i ≤ j → j < i + n → elemE p j = 0) → firstE p i n = (0, 0)
  | 0, _, _ => rfl
  | n + 1, i, h => by
    rw [firstE_step (h i (by omega) (by omega))]
    exact firstE_none n (i + 1) fun j h1 h2 => h j (by omega) (by omega)
theorem OkP.check {p : List El} (h : OkP p) : checkV p = (0, 0) := by
  unfold checkV
  rw [if_neg (by have := h.pos; omega), if_neg (by have := h.le; omega)]
  exact firstE_none _ _ fun j _ hj => h.el j (by omega)
theorem elemE_at {p : List El} {i : Nat} (h : i < p.length) : elemE p i = (if p[i].gap = false then (if p[i].low ≠ 0 ∨ p[i].high ≠ 0 then 6 else 0)
    else if p[i].cls ≠ 0#256 then 6
    else if p[i].low < 0 ∨ p[i].high < p[i].low ∨ 16 < p[i].high then 7
    else if i = 0 ∨ i + 1 = p.length ∨ (p[i - 1]?.map El.gap) = some true then 6 else 0) := by
  unfold elemE
  rw [List.getElem?_eq_getElem h]
theorem OkP.plain {p : List El} (h : OkP p) {i : Nat} (hi : i < p.length) (hg : p[i].gap = false) : p[i].low = 0 ∧ p[i].high = 0 := by
  have e := h.el i hi
  rw [elemE_at hi, if_pos hg] at e
  by_cases h1 : p[i].low ≠ 0 ∨ p[i].high ≠ 0
  · rw [if_pos h1] at e; exact absurd e (by decide)
  · omega
theorem OkP.gap {p : List El} (h : OkP p) {i : Nat} (hi : i < p.length) (hg : p[i].gap = true) :
    p[i].cls = 0#256 ∧ 0 ≤ p[i].low ∧ p[i].low ≤ p[i].high ∧ p[i].high ≤ 16 ∧ i ≠ 0 ∧ i + 1 < p.length ∧ ∀ h' : i - 1 < p.length, p[i - 1].gap = false := by
  have e := h.el i hi
  rw [elemE_at hi, if_neg (by rw [hg]; decide)] at e
  by_cases h1 : p[i].cls ≠ 0#256
  · rw [if_pos h1] at e; exact absurd e (by decide)
  · rw [if_neg h1] at e
    by_cases h2 : p[i].low < 0 ∨ p[i].high < p[i].low ∨ 16 < p[i].high
    · rw [if_pos h2] at e; exact absurd e (by decide)
    · rw [if_neg h2] at e
      by_cases h3 : i = 0 ∨ i + 1 = p.length ∨ (p[i - 1]?.map El.gap) = some true
      · rw [if_pos h3] at e; exact absurd e (by decide)
      · simp only [not_or] at h3
        refine ⟨by simpa using h1, by omega, by omega, by omega, h3.1, by omega, fun h' => ?_⟩
        have h4 := h3.2.2
        rw [List.getElem?_eq_getElem h'] at h4
        simpa using h4

def lowOf (x : El) : Int := if x.gap then x.low else 1
def highOf (x : El) : Int := if x.gap then x.high else 1
def leastV (p : List El) : Int := (p.map lowOf).sum
def mostV (p : List El) : Int := (p.map highOf).sum

/-- the places that an element reaches, from those at which it may begin -/
def stepP (b : List UInt8) (x : El) (at' : Nat → Bool) (m : Nat) : Bool :=
  if x.gap then (List.range (x.high.toNat + 1)).any fun c => decide (x.low ≤ (c : Int)) && decide (c ≤ m) && at' (m - c)
  else decide (1 ≤ m) && at' (m - 1) && (match b[m - 1]? with | some y => hasB x.cls y.toNat | none => false)
def reachP (b : List UInt8) (p : List El) (at' : Nat → Bool) : Nat → Bool := p.foldl (fun a x => stepP b x a) at'
def matchV (p : List El) (b : List UInt8) : Bool := reachP b p (fun m => decide (m = 0)) b.length
def endsV (p : List El) (b : List UInt8) : List Nat := (List.range (b.length + 1)).filter (reachP b p fun _ => true)
theorem reachP_snoc (b : List UInt8) (p : List El) (x : El) (at' : Nat → Bool) : reachP b (p ++ [x]) at' = stepP b x (reachP b p at') := by simp [reachP]
theorem reachP_append (b : List UInt8) (p q : List El) (at' : Nat → Bool) : reachP b (p ++ q) at' = reachP b q (reachP b p at') := by simp [reachP]

theorem stepP_gap {b : List UInt8} {x : El} {at' : Nat → Bool} {m : Nat} (hg : x.gap = true) : stepP b x at' m = true ↔ ∃ c : Nat, x.low ≤ (c : Int) ∧ (c : Int) ≤ max x.high 0 ∧ c ≤ m ∧ at' (m - c) = true := by
  unfold stepP
  rw [if_pos hg, List.any_eq_true]
  constructor
  · rintro ⟨c, hc, h⟩
    rw [List.mem_range] at hc
    simp only [Bool.and_eq_true, decide_eq_true_eq] at h
    exact ⟨c, h.1.1, by omega, h.1.2, h.2⟩
  · rintro ⟨c, h1, h2, h3, h4⟩
    refine ⟨c, by rw [List.mem_range]; omega, ?_⟩
    simp [h1, h3, h4]
theorem stepP_byte {b : List UInt8} {x : El} {at' : Nat → Bool} {m : Nat} (hg : x.gap = false) : stepP b x at' m = true ↔ 1 ≤ m ∧ at' (m - 1) = true ∧ ∃ y, b[m - 1]? = some y ∧ hasB x.cls y.toNat = true := by
  unfold stepP
  rw [if_neg (by rw [hg]; decide)]
  simp only [Bool.and_eq_true, decide_eq_true_eq]
  cases b[m - 1]? with
  | none => simp
  | some y => simp [and_assoc]

/-- the elements match the bytes from one place to another -/
def Fits (b : List UInt8) : List El → Nat → Nat → Prop
  | [], i, j => i = j
  | x :: p, i, j => ∃ k, (if x.gap then ∃ c : Nat, x.low ≤ (c : Int) ∧ (c : Int) ≤ max x.high 0 ∧ k = i + c else k = i + 1 ∧ ∃ y, b[i]? = some y ∧ hasB x.cls y.toNat = true) ∧ Fits b p k j
def Fit1 (b : List UInt8) (x : El) (i k : Nat) : Prop := if x.gap then ∃ c : Nat, x.low ≤ (c : Int) ∧ (c : Int) ≤ max x.high 0 ∧ k = i + c else k = i + 1 ∧ ∃ y, b[i]? = some y ∧ hasB x.cls y.toNat = true
theorem fits_cons {b : List UInt8} {x : El} {p : List El} {i j : Nat} : Fits b (x :: p) i j ↔ ∃ k, Fit1 b x i k ∧ Fits b p k j := Iff.rfl
theorem fits_append {b : List UInt8} : ∀ {p q : List El} {i j : Nat}, Fits b (p ++ q) i j ↔ ∃ k, Fits b p i k ∧ Fits b q k j
  | [], q, i, j => by simp [Fits]
  | x :: p, q, i, j => by
    rw [List.cons_append, fits_cons]
    constructor
    · rintro ⟨k, h1, h2⟩
      obtain ⟨l, h3, h4⟩ := fits_append.1 h2
      exact ⟨l, ⟨k, h1, h3⟩, h4⟩
    · rintro ⟨l, ⟨k, h1, h3⟩, h4⟩
      exact ⟨k, h1, fits_append.2 ⟨l, h3, h4⟩⟩
theorem fit1_le {b : List UInt8} {x : El} {i k : Nat} (h : Fit1 b x i k) : i ≤ k := by
  unfold Fit1 at h
  split at h
  · obtain ⟨c, _, _, rfl⟩ := h; omega
  · omega
theorem fits_le {b : List UInt8} : ∀ {p : List El} {i j : Nat}, Fits b p i j → i ≤ j
  | [], i, j, h => Nat.le_of_eq h
  | x :: p, i, j, h => by
    obtain ⟨k, h1, h2⟩ := fits_cons.1 h
    exact Nat.le_trans (fit1_le h1) (fits_le h2)
theorem stepP_fit {b : List UInt8} {x : El} {at' : Nat → Bool} {m : Nat} : stepP b x at' m = true ↔ ∃ i, at' i = true ∧ Fit1 b x i m := by
  cases hg : x.gap
  · rw [stepP_byte hg]
    unfold Fit1
    simp only [hg, Bool.false_eq_true, if_false]
    constructor
    · rintro ⟨h1, h2, h3⟩
      exact ⟨m - 1, h2, by omega, h3⟩
    · rintro ⟨i, h1, rfl, h3⟩
      exact ⟨by omega, h1, h3⟩
  · rw [stepP_gap hg]
    unfold Fit1
    simp only [hg, if_true]
    constructor
    · rintro ⟨c, h1, h2, h3, h4⟩
      exact ⟨m - c, h4, c, h1, h2, by omega⟩
    · rintro ⟨i, h4, c, h1, h2, rfl⟩
      exact ⟨c, h1, h2, by omega, by rwa [Nat.add_sub_cancel]⟩
theorem reachP_fits {b : List UInt8} : ∀ {p : List El} {at' : Nat → Bool} {m : Nat}, reachP b p at' m = true ↔ ∃ i, at' i = true ∧ Fits b p i m
  | [], at', m => by simp [reachP, Fits]
  | x :: p, at', m => by
    show reachP b p (stepP b x at') m = true ↔ _
    rw [reachP_fits]
    constructor
    · rintro ⟨k, h1, h2⟩
      obtain ⟨i, h3, h4⟩ := stepP_fit.1 h1
      exact ⟨i, h3, k, h4, h2⟩
    · rintro ⟨i, h3, k, h4, h2⟩
      exact ⟨k, stepP_fit.2 ⟨i, h3, h4⟩, h2⟩
theorem matchV_fits {p : List El} {b : List UInt8} : matchV p b = true ↔ Fits b p 0 b.length := by
  unfold matchV
  rw [reachP_fits]
  constructor
  · rintro ⟨i, h1, h2⟩
    have : i = 0 := by simpa using h1
    subst this; exact h2
  · intro h
    exact ⟨0, by simp, h⟩
theorem endsV_mem {p : List El} {b : List UInt8} {n : Nat} : n ∈ endsV p b ↔ n ≤ b.length ∧ ∃ i, Fits b p i n := by
  unfold endsV
  rw [List.mem_filter, List.mem_range, reachP_fits]
  constructor
  · rintro ⟨h1, i, _, h2⟩
    exact ⟨by omega, i, h2⟩
  · rintro ⟨h1, i, h2⟩
    exact ⟨by omega, i, rfl, h2⟩

/-! ### what a pattern that is read byte by byte remembers -/
/-- the places that the first i elements reach -/
def pre (b : List UInt8) (p : List El) (st : Nat → Bool) (i : Nat) : Nat → Bool := reachP b (p.take i) st
/-- behind k bytes: c bytes of the gap i were read (0 where there is none) -/
def sees (b : List UInt8) (p : List El) (st : Nat → Bool) (k i c : Nat) : Bool :=
  match p[i]? with
  | some x => if x.gap then decide ((c : Int) ≤ max x.high 0) && decide (c ≤ k) && pre b p st i (k - c) else decide (c = 0) && pre b p st i k
  | none => decide (c = 0) && pre b p st i k
theorem pre_succ {b : List UInt8} {p : List El} {st : Nat → Bool} {i : Nat} (h : i < p.length) : pre b p st (i + 1) = stepP b p[i] (pre b p st i) := by
  unfold pre
  rw [List.take_succ_eq_append_getElem h, reachP_snoc]
end Go.Proofs.Ytpjllppbpnkemaa

/- Patterns in memory. -/
namespace Go.Proofs.Ytpjllppbpnkemaa
open Go.RowKit Go.Sort

theorem Row.cellAt2 {w : World} {size n : Nat} {v : Value} {xs : List Value} (h : Row w size v n xs) {i : Nat} (hi : i < n) (hs : 0 < size) :
    ∃ g o cap, v = .slice (some ⟨g, o, none⟩) n cap ∧ g < w.heap.size ∧ ∀ j, j < size → w.cell? ⟨g, o + i * size + j, none⟩ = xs[i * size + j]? := by
  obtain ⟨h1, _, a, cap, rfl, _, h2⟩ := h
  rcases h2 with h0 | ⟨g, o, rfl, hc⟩
  · omega
  · have hm : ∀ j, j < size → i * size + j < n * size := fun j hj => by
      have : (i + 1) * size ≤ n * size := Nat.mul_le_mul_right _ hi
      rw [Nat.add_mul] at this; omega
    have e0 := hc (i * size + 0) (hm 0 hs)
    have hx : (xs[i * size + 0]?) = some (xs[i * size + 0]'(by rw [h1]; exact hm 0 hs)) := List.getElem?_eq_getElem _
    refine ⟨g, o, cap, rfl, World.block_lt_of_cell? w _ (e0.trans hx), fun j hj => ?_⟩
    rw [Nat.add_assoc]
    exact hc _ (hm j hj)
theorem Row.form2 {w : World} {size n : Nat} {v : Value} {xs : List Value} (h : Row w size v n xs) : ∃ a cap, v = .slice a n cap := by
  obtain ⟨_, _, a, cap, e, _⟩ := h
  exact ⟨a, cap, e⟩
theorem cell_in {w : World} {b : Nat} {t : TypeId} {cs : Array Value} {i : Nat} {v : Value} (h : w.heap[b]? = some (.cells cs t)) (hv : cs[i]? = some v) : w.cell? ⟨b, i, none⟩ = some v := by
  unfold World.cell?; rw [h]; exact hv

def pcell (x : El) : List Value := [.bool x.gap, .int .u64 (word x.cls 0 : Int), .int .u64 (word x.cls 1 : Int), .int .u64 (word x.cls 2 : Int), .int .u64 (word x.cls 3 : Int), .int .i64 x.low, .int .i64 x.high]
def pcells (l : List El) : List Value := l.flatMap pcell
theorem pcells_snoc (l : List El) (x : El) : pcells (l ++ [x]) = pcells l ++ pcell x := by simp [pcells]
theorem pcells_one (l : List El) : ∀ u ∈ pcells l, u.oneCell' = true := by
  intro u hu
  unfold pcells at hu
  rw [List.mem_flatMap] at hu
  obtain ⟨e, _, hu⟩ := hu
  simp [pcell] at hu
  rcases hu with rfl | rfl | rfl | rfl | rfl | rfl | rfl <;> rfl
abbrev Pats (w : World) (v : Value) (l : List El) : Prop := Row w 7 v l.length (pcells l)
theorem pcells_at : ∀ (l : List El) (i : Nat) (h : i < l.length), (pcells l)[i * 7]? = some (.bool l[i].gap) ∧ (pcells l)[i * 7 + 1]? = some (.int .u64 (word l[i].cls 0 : Int)) ∧ (pcells l)[i * 7 + 2]? = some (.int .u64 (word l[i].cls 1 : Int)) ∧
      (pcells l)[i * 7 + 3]? = some (.int .u64 (word l[i].cls 2 : Int)) ∧ (pcells l)[i * 7 + 4]? = some (.int .u64 (word l[i].cls 3 : Int)) ∧ (pcells l)[i * 7 + 5]? = some (.int .i64 l[i].low) ∧ (pcells l)[i * 7 + 6]? = some (.int .i64 l[i].high)
  | c :: l, 0, _ => ⟨rfl, rfl, rfl, rfl, rfl, rfl, rfl⟩
  | c :: l, i + 1, h => by
    obtain ⟨h1, h2, h3, h4, h5, h6, h7⟩ := pcells_at l i (by simpa using h)
    rw [show (i + 1) * 7 = i * 7 + 7 by omega]
    exact ⟨h1, h2, h3, h4, h5, h6, h7⟩
theorem Pats.at {w : World} {a : Option Addr} {n cap : Nat} {l : List El} (h : Pats w (.slice a n cap) l) {i : Nat} (hi : i < l.length) :
    ∃ g o, a = some ⟨g, o, none⟩ ∧ g < w.heap.size ∧ w.cell? ⟨g, o + i * 7, none⟩ = some (.bool l[i].gap) ∧ w.cell? ⟨g, o + i * 7 + 1, none⟩ = some (.int .u64 (word l[i].cls 0 : Int)) ∧ w.cell? ⟨g, o + i * 7 + 2, none⟩ = some (.int .u64 (word l[i].cls 1 : Int)) ∧
      w.cell? ⟨g, o + i * 7 + 3, none⟩ = some (.int .u64 (word l[i].cls 2 : Int)) ∧ w.cell? ⟨g, o + i * 7 + 4, none⟩ = some (.int .u64 (word l[i].cls 3 : Int)) ∧ w.cell? ⟨g, o + i * 7 + 5, none⟩ = some (.int .i64 l[i].low) ∧ w.cell? ⟨g, o + i * 7 + 6, none⟩ = some (.int .i64 l[i].high) := by
  obtain ⟨g, o, cap', e, hg, hc⟩ := Row.cellAt2 h hi (by omega)
  cases e
  obtain ⟨e0, e1, e2, e3, e4, e5, e6⟩ := pcells_at l i hi
  exact ⟨g, o, rfl, hg, (hc 0 (by omega)).trans e0, (hc 1 (by omega)).trans e1, (hc 2 (by omega)).trans e2, (hc 3 (by omega)).trans e3, (hc 4 (by omega)).trans e4, (hc 5 (by omega)).trans e5, (hc 6 (by omega)).trans e6⟩
theorem Pats.ats {w : World} {g o n cap : Nat} {l : List El} (h : Pats w (.slice (some ⟨g, o, none⟩) n cap) l) {i : Nat} (hi : i < l.length) :
    g < w.heap.size ∧ w.cell? ⟨g, o + i * 7, none⟩ = some (.bool l[i].gap) ∧ w.cell? ⟨g, o + i * 7 + 1, none⟩ = some (.int .u64 (word l[i].cls 0 : Int)) ∧ w.cell? ⟨g, o + i * 7 + 2, none⟩ = some (.int .u64 (word l[i].cls 1 : Int)) ∧
      w.cell? ⟨g, o + i * 7 + 3, none⟩ = some (.int .u64 (word l[i].cls 2 : Int)) ∧ w.cell? ⟨g, o + i * 7 + 4, none⟩ = some (.int .u64 (word l[i].cls 3 : Int)) ∧ w.cell? ⟨g, o + i * 7 + 5, none⟩ = some (.int .i64 l[i].low) ∧ w.cell? ⟨g, o + i * 7 + 6, none⟩ = some (.int .i64 l[i].high) := by
  obtain ⟨g', o', e, r⟩ := Pats.at h hi
  cases e
  exact r
theorem run_ne_zero (w : World) (s : CSet) :
    (binOp .neq 61 (.agg #[.int .u64 (word s 0 : Int), .int .u64 (word s 1 : Int), .int .u64 (word s 2 : Int), .int .u64 (word s 3 : Int)]) (.agg #[.int .u64 0, .int .u64 0, .int .u64 0, .int .u64 0])).run Try.prog w = .ok (.bool (!decide (s = 0#256))) w := run_ne_set w s 0#256
end Go.Proofs.Ytpjllppbpnkemaa

/- Check of patterns. -/
namespace Go.Proofs.Ytpjllppbpnkemaa
open Go.RowKit Go.Sort

set_option maxRecDepth 100000 in
set_option maxHeartbeats 20000000 in
theorem check_p (v : Value) (p : List El) (w : World) (h : Pats w v p) :
    Calls Try.prog 46 #[v] w fun e w' => e = .returned (.tuple #[.int .i64 (checkV p).1, .int .i64 (checkV p).2]) ∧ Below w.heap.size w w' := by
  have HP := Lib.hid h
  have hmax : p.length ≤ maxLen := h.2.1
  unfold maxLen at hmax
  obtain ⟨a, cap, rfl⟩ := Row.form2 h
  clear h
  by_cases h0 : p.length = 0
  · have e : checkV p = (0, 6) := by unfold checkV; rw [if_pos h0]
    rw [e]
    have t0 : ((p.length : Int) == 0) = true := beq_iff_eq.2 (by omega)
    clear h0 e
    go_enter Try.func46, Try.ntmps46
    go_wp2_with fail
    go_ret2
    exact ⟨rfl, Below.refl _ _⟩
  · have t0 : ((p.length : Int) == 0) = false := beq_eq_false_iff_ne.2 (by omega)
    by_cases h1 : 512 < p.length
    · have e : checkV p = (0, 3) := by unfold checkV; rw [if_neg h0, if_pos h1]
      rw [e]
      have t1 : (512 : Int) < (p.length : Int) := by omega
      clear h0 h1 e
      go_enter Try.func46, Try.ntmps46
      go_wp2_with fail
      go_ret2
      exact ⟨rfl, Below.refl _ _⟩
    · have e : checkV p = firstE p 0 p.length := by unfold checkV; rw [if_neg h0, if_neg h1]
      have HC := Lib.hid e
      have t1 : ¬ (512 : Int) < (p.length : Int) := by omega
      have hs : p.length ≤ 512 := by omega
      rw [e]
      clear h0 h1 e
      go_enter Try.func46, Try.ntmps46
      go_wp2_with fail
      go_loopw [16] (fun iv wr => ∃ i : Nat, i ≤ p.length ∧ iv = .int .i64 (i : Nat) ∧ firstE p 0 p.length = firstE p i (p.length - i) ∧ Below w.heap.size w wr) (fun iv _ => p.length - (intOf iv).toNat)
      case atStart => exact ⟨0, by omega, rfl, rfl, Below.refl _ _⟩
      case round =>
        obtain ⟨i, hi, rfl, hf, hB⟩ := hrel
        have HF := Lib.hid hf
        have HB := Lib.hid hB
        clear hf hB
        by_cases hlt : i < p.length
        · obtain ⟨g, o, hga, hg, d0, d1, d2, d3, d4, d5, d6⟩ := Pats.at (Row.below HP.out HB.out) hlt
          subst hga
          have i1 : (0 : Int) ≤ (i : Int) := by omega
          have i2 : (i : Int) < (p.length : Int) := by omega
          have wi1 : IntKind.i64.wrap ((i : Int) + 1) = (i : Int) + 1 := IntWalk.i64_in _ (by omega)
          have HE := Lib.hid (elemE_at hlt)
          have HBA := Lib.hid (HB.out.alloc HB.out.size (.cells #[.bool p[i].gap, .int .u64 (word p[i].cls 0 : Int), .int .u64 (word p[i].cls 1 : Int), .int .u64 (word p[i].cls 2 : Int), .int .u64 (word p[i].cls 3 : Int), .int .i64 p[i].low, .int .i64 p[i].high] 64))
          have HIT := Lib.hid (fun E (he : elemE p i = E) (h0 : E ≠ 0) => (show firstE p 0 p.length = ((i : Int), E) by rw [HF.out, show p.length - i = p.length - i - 1 + 1 by omega, firstE_hit (by rw [he]; exact h0), he]))
          have ON := Lib.hid (fun (he : elemE p i = 0) => (show firstE p 0 p.length = firstE p (i + 1) (p.length - (i + 1)) by rw [HF.out, show p.length - i = p.length - (i + 1) + 1 by omega, firstE_step he]))
          have hne := fun w => run_ne_zero w p[i].cls
          cases hg0 : p[i].gap
          · rw [hg0] at d0 HBA
            have he0 := HE.out
            rw [hg0, if_pos rfl] at he0
            by_cases h2 : p[i].low = 0
            · have tl : (p[i].low != 0) = false := by rw [h2]; rfl
              by_cases h3 : p[i].high = 0
              · have th : (p[i].high != 0) = false := by rw [h3]; rfl
                rw [if_neg (by simp [h2, h3])] at he0
                have ON2 := Lib.hid (ON.out he0)
                clear he0 h2 h3 hne HIT ON HE
                go_wp2_with fail
                exact ⟨⟨i + 1, by omega, by go_num, ON2.out, HBA.out⟩, by simp [intOf]; omega⟩
              · have th : (p[i].high != 0) = true := bne_iff_ne.2 h3
                rw [if_pos (.inr h3)] at he0
                have HH := Lib.hid (HIT.out 6 he0 (by decide))
                clear he0 h2 h3 hne HIT ON HE
                go_wp2_with fail
                go_ret2
                exact ⟨by rw [HH.out]; rfl, HBA.out⟩
            · have tl : (p[i].low != 0) = true := bne_iff_ne.2 h2
              rw [if_pos (.inl h2)] at he0
              have HH := Lib.hid (HIT.out 6 he0 (by decide))
              clear he0 h2 hne HIT ON HE
              go_wp2_with fail
              go_ret2
              exact ⟨by rw [HH.out]; rfl, HBA.out⟩
          · rw [hg0] at d0 HBA
            have he0 := HE.out
            rw [hg0, if_neg (by decide)] at he0
            by_cases h2 : p[i].cls = 0#256
            · rw [if_neg (by simp [h2])] at he0
              have hne2 : ∀ w, _ := hne
              rw [decide_eq_true h2] at hne2
              clear hne
              by_cases h3 : p[i].low < 0
              · rw [if_pos (.inl h3)] at he0
                have HH := Lib.hid (HIT.out 7 he0 (by decide))
                clear he0 h2 HIT ON HE
                go_wp2_with fail
                go_ret2
                exact ⟨by rw [HH.out]; rfl, HBA.out⟩
              · by_cases h4 : p[i].high < p[i].low
                · rw [if_pos (.inr (.inl h4))] at he0
                  have HH := Lib.hid (HIT.out 7 he0 (by decide))
                  clear he0 h2 HIT ON HE
                  go_wp2_with fail
                  go_ret2
                  exact ⟨by rw [HH.out]; rfl, HBA.out⟩
                · by_cases h5 : 16 < p[i].high
                  · rw [if_pos (.inr (.inr h5))] at he0
                    have HH := Lib.hid (HIT.out 7 he0 (by decide))
                    clear he0 h2 HIT ON HE
                    go_wp2_with fail
                    go_ret2
                    exact ⟨by rw [HH.out]; rfl, HBA.out⟩
                  · rw [if_neg (by omega)] at he0
                    have w1 : IntKind.i64.wrap ((p.length : Int) - 1) = (p.length : Int) - 1 := IntWalk.i64_in _ (by omega)
                    by_cases h6 : i = 0
                    · rw [if_pos (.inl h6)] at he0
                      have HH := Lib.hid (HIT.out 6 he0 (by decide))
                      have t6 : ((i : Int) == 0) = true := beq_iff_eq.2 (by omega)
                      clear he0 h2 HIT ON HE h6
                      go_wp2_with fail
                      go_ret2
                      exact ⟨by rw [HH.out]; rfl, HBA.out⟩
                    · have t6 : ((i : Int) == 0) = false := beq_eq_false_iff_ne.2 (by omega)
                      by_cases h7 : i + 1 = p.length
                      · rw [if_pos (.inr (.inl h7))] at he0
                        have HH := Lib.hid (HIT.out 6 he0 (by decide))
                        have t7 : ((i : Int) == (p.length : Int) - 1) = true := beq_iff_eq.2 (by omega)
                        clear he0 h2 HIT ON HE h6 h7
                        go_wp2_with fail
                        go_ret2
                        exact ⟨by rw [HH.out]; rfl, HBA.out⟩
                      · have t7 : ((i : Int) == (p.length : Int) - 1) = false := beq_eq_false_iff_ne.2 (by omega)
                        have hp1 : i - 1 < p.length := by omega
                        obtain ⟨_, c0, _⟩ := Pats.ats (Row.below HP.out HB.out) hp1
                        have wi : IntKind.i64.wrap ((i : Int) - 1) = ((i - 1 : Nat) : Int) := by rw [IntWalk.i64_in _ (by omega)]; omega
                        have j1 : (0 : Int) ≤ ((i - 1 : Nat) : Int) := by omega
                        have j2 : ((i - 1 : Nat) : Int) < (p.length : Int) := by omega
                        have hq : (p[i - 1]?.map El.gap) = some p[i - 1].gap := by rw [List.getElem?_eq_getElem hp1]; rfl
                        rw [hq] at he0
                        cases h8 : p[i - 1].gap
                        · rw [h8] at he0 c0
                          rw [if_neg (by simp [h6, h7])] at he0
                          have ON2 := Lib.hid (ON.out he0)
                          clear he0 h2 HIT ON HE h6 h7 hq h8
                          generalize i - 1 = q at *
                          go_wp2_with fail
                          exact ⟨⟨i + 1, by omega, by go_num, ON2.out, HBA.out⟩, by simp [intOf]; omega⟩
                        · rw [h8] at he0 c0
                          rw [if_pos (.inr (.inr rfl))] at he0
                          have HH := Lib.hid (HIT.out 6 he0 (by decide))
                          clear he0 h2 HIT ON HE h6 h7 hq h8
                          generalize i - 1 = q at *
                          go_wp2_with fail
                          go_ret2
                          exact ⟨by rw [HH.out]; rfl, HBA.out⟩
            · rw [if_pos h2] at he0
              have HH := Lib.hid (HIT.out 6 he0 (by decide))
              have hne2 : ∀ w, _ := hne
              rw [decide_eq_false h2] at hne2
              clear he0 h2 HIT ON HE hne
              go_wp2_with fail
              go_ret2
              exact ⟨by rw [HH.out]; rfl, HBA.out⟩
        · obtain rfl : p.length = i := by omega
          have i1 : ¬ ((p.length : Int) < (p.length : Int)) := by omega
          have HH := Lib.hid (show firstE p 0 p.length = (0, 0) by rw [HF.out, Nat.sub_self]; rfl)
          go_wp2_with fail
          go_ret2
          exact ⟨by rw [HH.out]; rfl, HB.out⟩
end Go.Proofs.Ytpjllppbpnkemaa

/- Check of patterns, the reference. -/
namespace Go.Proofs.Ytpjllppbpnkemaa
open Go.RowKit Go.Sort

set_option maxRecDepth 100000 in
set_option maxHeartbeats 20000000 in
theorem check_r (v : Value) (p : List El) (w : World) (h : Pats w v p) :
    Calls Try.prog 48 #[v] w fun e w' => e = .returned (.tuple #[.int .i64 (checkV p).1, .int .i64 (checkV p).2]) ∧ Below w.heap.size w w' := by
  have HP := Lib.hid h
  have hmax : p.length ≤ maxLen := h.2.1
  unfold maxLen at hmax
  obtain ⟨a, cap, rfl⟩ := Row.form2 h
  clear h
  by_cases h0 : p.length = 0
  · have e : checkV p = (0, 6) := by unfold checkV; rw [if_pos h0]
    rw [e]
    have t0 : ((p.length : Int) == 0) = true := beq_iff_eq.2 (by omega)
    clear h0 e
    go_enter Try.func48, Try.ntmps48
    go_wp2_with fail
    go_ret2
    exact ⟨rfl, Below.refl _ _⟩
  · have t0 : ((p.length : Int) == 0) = false := beq_eq_false_iff_ne.2 (by omega)
    by_cases h1 : 512 < p.length
    · have e : checkV p = (0, 3) := by unfold checkV; rw [if_neg h0, if_pos h1]
      rw [e]
      have t1 : (512 : Int) < (p.length : Int) := by omega
      clear h0 h1 e
      go_enter Try.func48, Try.ntmps48
      go_wp2_with fail
      go_ret2
      exact ⟨rfl, Below.refl _ _⟩
    · have e : checkV p = firstE p 0 p.length := by unfold checkV; rw [if_neg h0, if_neg h1]
      have HC := Lib.hid e
      have t1 : ¬ (512 : Int) < (p.length : Int) := by omega
      have hs : p.length ≤ 512 := by omega
      rw [e]
      clear h0 h1 e
      go_enter Try.func48, Try.ntmps48
      go_wp2_with fail
      go_loopw [4] (fun iv wr => ∃ i : Nat, i ≤ p.length ∧ iv = .int .i64 (i : Nat) ∧ firstE p 0 p.length = firstE p i (p.length - i) ∧ Below w.heap.size w wr) (fun iv _ => p.length - (intOf iv).toNat)
      case atStart => exact ⟨0, by omega, rfl, rfl, Below.refl _ _⟩
      case round =>
        obtain ⟨i, hi, rfl, hf, hB⟩ := hrel
        have HF := Lib.hid hf
        have HB := Lib.hid hB
        clear hf hB
        by_cases hlt : i < p.length
        · obtain ⟨g, o, hga, hg, d0, d1, d2, d3, d4, d5, d6⟩ := Pats.at (Row.below HP.out HB.out) hlt
          subst hga
          have i1 : (0 : Int) ≤ (i : Int) := by omega
          have i2 : (i : Int) < (p.length : Int) := by omega
          have wi1 : IntKind.i64.wrap ((i : Int) + 1) = (i : Int) + 1 := IntWalk.i64_in _ (by omega)
          have HE := Lib.hid (elemE_at hlt)
          have HBA := Lib.hid (HB.out.alloc HB.out.size (.cells #[.bool p[i].gap, .int .u64 (word p[i].cls 0 : Int), .int .u64 (word p[i].cls 1 : Int), .int .u64 (word p[i].cls 2 : Int), .int .u64 (word p[i].cls 3 : Int), .int .i64 p[i].low, .int .i64 p[i].high] 64))
          have HIT := Lib.hid (fun E (he : elemE p i = E) (h0 : E ≠ 0) => (show firstE p 0 p.length = ((i : Int), E) by rw [HF.out, show p.length - i = p.length - i - 1 + 1 by omega, firstE_hit (by rw [he]; exact h0), he]))
          have ON := Lib.hid (fun (he : elemE p i = 0) => (show firstE p 0 p.length = firstE p (i + 1) (p.length - (i + 1)) by rw [HF.out, show p.length - i = p.length - (i + 1) + 1 by omega, firstE_step he]))
          have hne := fun w => run_ne_zero w p[i].cls
          cases hg0 : p[i].gap
          · rw [hg0] at d0 HBA
            have he0 := HE.out
            rw [hg0, if_pos rfl] at he0
            by_cases h2 : p[i].low = 0
            · have tl : (p[i].low != 0) = false := by rw [h2]; rfl
              by_cases h3 : p[i].high = 0
              · have th : (p[i].high != 0) = false := by rw [h3]; rfl
                rw [if_neg (by simp [h2, h3])] at he0
                have ON2 := Lib.hid (ON.out he0)
                clear he0 h2 h3 hne HIT ON HE
                go_wp2_with fail
                exact ⟨⟨i + 1, by omega, by go_num, ON2.out, HBA.out⟩, by simp [intOf]; omega⟩
              · have th : (p[i].high != 0) = true := bne_iff_ne.2 h3
                rw [if_pos (.inr h3)] at he0
                have HH := Lib.hid (HIT.out 6 he0 (by decide))
                clear he0 h2 h3 hne HIT ON HE
                go_wp2_with fail
                go_ret2
                exact ⟨by rw [HH.out]; rfl, HBA.out⟩
            · have tl : (p[i].low != 0) = true := bne_iff_ne.2 h2
              rw [if_pos (.inl h2)] at he0
              have HH := Lib.hid (HIT.out 6 he0 (by decide))
              clear he0 h2 hne HIT ON HE
              go_wp2_with fail
              go_ret2
              exact ⟨by rw [HH.out]; rfl, HBA.out⟩
          · rw [hg0] at d0 HBA
            have he0 := HE.out
            rw [hg0, if_neg (by decide)] at he0
            by_cases h2 : p[i].cls = 0#256
            · rw [if_neg (by simp [h2])] at he0
              have hne2 : ∀ w, _ := hne
              rw [decide_eq_true h2] at hne2
              clear hne
              by_cases h3 : p[i].low < 0
              · rw [if_pos (.inl h3)] at he0
                have HH := Lib.hid (HIT.out 7 he0 (by decide))
                clear he0 h2 HIT ON HE
                go_wp2_with fail
                go_ret2
                exact ⟨by rw [HH.out]; rfl, HBA.out⟩
              · by_cases h4 : p[i].high < p[i].low
                · rw [if_pos (.inr (.inl h4))] at he0
                  have HH := Lib.hid (HIT.out 7 he0 (by decide))
                  clear he0 h2 HIT ON HE
                  go_wp2_with fail
                  go_ret2
                  exact ⟨by rw [HH.out]; rfl, HBA.out⟩
                · by_cases h5 : 16 < p[i].high
                  · rw [if_pos (.inr (.inr h5))] at he0
                    have HH := Lib.hid (HIT.out 7 he0 (by decide))
                    clear he0 h2 HIT ON HE
                    go_wp2_with fail
                    go_ret2
                    exact ⟨by rw [HH.out]; rfl, HBA.out⟩
                  · rw [if_neg (by omega)] at he0
                    have w1 : IntKind.i64.wrap ((p.length : Int) - 1) = (p.length : Int) - 1 := IntWalk.i64_in _ (by omega)
                    by_cases h6 : i = 0
                    · rw [if_pos (.inl h6)] at he0
                      have HH := Lib.hid (HIT.out 6 he0 (by decide))
                      have t6 : ((i : Int) == 0) = true := beq_iff_eq.2 (by omega)
                      clear he0 h2 HIT ON HE h6
                      go_wp2_with fail
                      go_ret2
                      exact ⟨by rw [HH.out]; rfl, HBA.out⟩
                    · have t6 : ((i : Int) == 0) = false := beq_eq_false_iff_ne.2 (by omega)
                      by_cases h7 : i + 1 = p.length
                      · rw [if_pos (.inr (.inl h7))] at he0
                        have HH := Lib.hid (HIT.out 6 he0 (by decide))
                        have t7 : ((i : Int) == (p.length : Int) - 1) = true := beq_iff_eq.2 (by omega)
                        clear he0 h2 HIT ON HE h6 h7
                        go_wp2_with fail
                        go_ret2
                        exact ⟨by rw [HH.out]; rfl, HBA.out⟩
                      · have t7 : ((i : Int) == (p.length : Int) - 1) = false := beq_eq_false_iff_ne.2 (by omega)
                        have hp1 : i - 1 < p.length := by omega
                        obtain ⟨_, c0, _⟩ := Pats.ats (Row.below HP.out HB.out) hp1
                        have wi : IntKind.i64.wrap ((i : Int) - 1) = ((i - 1 : Nat) : Int) := by rw [IntWalk.i64_in _ (by omega)]; omega
                        have j1 : (0 : Int) ≤ ((i - 1 : Nat) : Int) := by omega
                        have j2 : ((i - 1 : Nat) : Int) < (p.length : Int) := by omega
                        have hq : (p[i - 1]?.map El.gap) = some p[i - 1].gap := by rw [List.getElem?_eq_getElem hp1]; rfl
                        rw [hq] at he0
                        cases h8 : p[i - 1].gap
                        · rw [h8] at he0 c0
                          rw [if_neg (by simp [h6, h7])] at he0
                          have ON2 := Lib.hid (ON.out he0)
                          clear he0 h2 HIT ON HE h6 h7 hq h8
                          generalize i - 1 = q at *
                          go_wp2_with fail
                          exact ⟨⟨i + 1, by omega, by go_num, ON2.out, HBA.out⟩, by simp [intOf]; omega⟩
                        · rw [h8] at he0 c0
                          rw [if_pos (.inr (.inr rfl))] at he0
                          have HH := Lib.hid (HIT.out 6 he0 (by decide))
                          clear he0 h2 HIT ON HE h6 h7 hq h8
                          generalize i - 1 = q at *
                          go_wp2_with fail
                          go_ret2
                          exact ⟨by rw [HH.out]; rfl, HBA.out⟩
            · rw [if_pos h2] at he0
              have HH := Lib.hid (HIT.out 6 he0 (by decide))
              have hne2 : ∀ w, _ := hne
              rw [decide_eq_false h2] at hne2
              clear he0 h2 HIT ON HE hne
              go_wp2_with fail
              go_ret2
              exact ⟨by rw [HH.out]; rfl, HBA.out⟩
        · obtain rfl : p.length = i := by omega
          have i1 : ¬ ((p.length : Int) < (p.length : Int)) := by omega
          have HH := Lib.hid (show firstE p 0 p.length = (0, 0) by rw [HF.out, Nat.sub_self]; rfl)
          go_wp2_with fail
          go_ret2
          exact ⟨by rw [HH.out]; rfl, HB.out⟩
end Go.Proofs.Ytpjllppbpnkemaa

/- Patterns freshly made: append, the values of Join. -/
namespace Go.Proofs.Ytpjllppbpnkemaa
open Go.RowKit Go.Sort

/-- a pattern freshly made, and an error's number -/
def PatP (w : World) (l : List El) (x : Int) (e : Ending) (w' : World) : Prop := ∃ v, e = .returned (.tuple #[v, .int .i64 x]) ∧ w'.ownsRow w.heap.size 64 7 v l.length (pcells l) ∧ Below w.heap.size w w'
theorem infoEl : (Try.prog.info? 64).map (fun i => (i.zero, i.size, i.bytes)) = some (some (.agg #[.bool false, .int .u64 0, .int .u64 0, .int .u64 0, .int .u64 0, .int .i64 0, .int .i64 0]), 7, 56) := by kernel_rfl
theorem pcells_len (l : List El) : (pcells l).length = l.length * 7 := by
  induction l with
  | nil => rfl
  | cons x l ih => simp [pcells, pcell] at ih ⊢; omega
theorem pcells_append (l m : List El) : pcells (l ++ m) = pcells l ++ pcells m := by simp [pcells]
/-- append to a pattern that the call owns -/
theorem app_el {w : World} {base : Nat} {v v2 : Value} {l m : List El} (hown : w.ownsRow base 64 7 v l.length (pcells l)) (hr : Pats w v2 m) (hl : l.length + m.length ≤ 2000) (hbase : base ≤ w.heap.size) :
    ∃ a cap w', (Builtin.append_ #[22, 22] 22 #[v, v2]).run Try.prog w = .ok (.slice a (l ++ m).length cap) w' ∧ w'.ownsRow base 64 7 (.slice a (l ++ m).length cap) (l ++ m).length (pcells (l ++ m)) ∧ Below base w w' := by
  obtain ⟨j0, hj, hy0, hy1, hy2⟩ := info_parts infoEl
  obtain ⟨v', w', h1, h2, h3⟩ := append_row (P := Try.prog) base 22 22 64 Try.underlying22 hj hy0 hy1 hy2 rfl (by decide) hown hr (pcells_one _) (by unfold maxLen; omega) (by omega) hbase
  rw [← List.length_append, ← pcells_append] at h2
  obtain ⟨a, cap, rfl⟩ := Row.form2 (Row.of_owns h2)
  exact ⟨a, cap, w', h1, h2, (Below.refl base w).grown h3 hbase (fun q e => (hown.lt q e).1)⟩
def gapV (low high : Int) : El := ⟨true, 0#256, low, high⟩
def joinL (p q : List El) (low high : Int) : List El := p ++ (if 0 < high then [gapV low high] else []) ++ q
def joinE (p q : List El) (low high : Int) : Int :=
  if (checkV p).2 = 0 then if (checkV q).2 = 0 then if low < 0 ∨ high < low ∨ 16 < high then 7 else if 512 < (joinL p q low high).length then 3 else 0 else (checkV q).2 else (checkV p).2
def joinV (p q : List El) (low high : Int) : List El := if joinE p q low high = 0 then joinL p q low high else []
theorem joinV_bad {p q : List El} {low high E : Int} (h : joinE p q low high = E) (h0 : E ≠ 0) : joinV p q low high = [] := by unfold joinV; rw [if_neg (h ▸ h0)]
theorem joinV_ok {p q : List El} {low high : Int} (h : joinE p q low high = 0) : joinV p q low high = joinL p q low high := by unfold joinV; rw [if_pos h]
theorem lit_el (W : World) (x : El) : Pats (W.alloc (.cells (pcell x).toArray 64)) (.slice (some ⟨W.heap.size, 0, none⟩) 1 1) [x] := by
  have := Row.lit W 64 7 1 (pcells [x]) (by simp [pcells, pcell]) (by unfold maxLen; omega)
  exact this
abbrev gcell (low high : Int) : Array Value := #[.bool true, .int .u64 0, .int .u64 0, .int .u64 0, .int .u64 0, .int .i64 low, .int .i64 high]
theorem gcell_eq (low high : Int) : (pcell (gapV low high)).toArray = gcell low high := by
  have h0 : word 0#256 0 = 0 := by decide
  have h1 : word 0#256 1 = 0 := by decide
  have h2 : word 0#256 2 = 0 := by decide
  have h3 : word 0#256 3 = 0 := by decide
  simp [pcell, gapV, h0, h1, h2, h3]
theorem lit_gap (W : World) (low high : Int) : Pats (W.alloc (.cells (gcell low high) 64)) (.slice (some ⟨W.heap.size, 0, none⟩) 1 1) [gapV low high] := by
  have := lit_el W (gapV low high)
  rwa [gcell_eq] at this
end Go.Proofs.Ytpjllppbpnkemaa

/- A range over a function, at the wide fence, where the iterator may keep state of its own in cells: the iterator's contract names the steps that it makes between two rounds (Step) and what a round must keep (Keep); the caller's invariant abides Step. -/
namespace Go.Proofs.Ytpjllppbpnkemaa
open Go.RowKit

/-- The iterator value '.func (.func g) #[] lb', made by the time w: called in any later world it yields the items in order, each round keeping 'Keep', its own steps between two rounds being 'Step's. -/
def Iter {α : Type} (P : Program) (g : Nat) (lb : Array Value) (encs : α → Array Value) (Step Keep : World → World → Prop) (items : List α) (w : World) : Prop :=
  ∀ (n l : Nat) (J Jx : List α → World → Prop) (W : World), Below w.heap.size w W →
    (∀ s A B, J s A → Step A B → J s B) → (∀ s A B, Jx s A → Step A B → Jx s B) →
    (∀ pre x W1, J pre W1 → pre ++ [x] <+: items → YieldAt Fence.wide (n - 1) P l (encs x) W1 fun e W' =>
      (e = .returned (.bool true) ∧ J (pre ++ [x]) W' ∧ Keep W1 W') ∨ (e = .returned (.bool false) ∧ Jx (pre ++ [x]) W')) →
    J [] W →
    CallsIn Fence.wide n P g (#[.func (.yield l) #[] #[]] ++ lb) W fun e W' => (∃ v, e = .returned v) ∧ (J items W' ∨ ∃ pre, pre <+: items ∧ Jx pre W')

/-- How the body of a round may be left. -/
def bodyPost' {α : Type} (B : Nat) (Keep : World → World → Prop) (I : List α → World → Prop) (Ix : Code → List α → World → Prop) (xs : List α) (W : World) : Exit → Act → World → Prop
  | .normal, _, W' => KeepsFrom B W W' ∧ Keep W W' ∧ I xs W'
  | .ret, _, W' => KeepsFrom B W W' ∧ Ix .ret xs W'
  | .exit id, _, W' => KeepsFrom B W W' ∧ Ix (.exit id) xs W'
  | .goto t, _, W' => KeepsFrom B W W' ∧ Ix (.goto t) xs W'
  | .panic _, _, _ => False
  | .outgrown, _, _ => False

/-- What is said of the world abides the turn of a block from B on that holds no cells. -/
def AbidesPut {β : Type} (B : Nat) (I : β → World → Prop) : Prop :=
  ∀ s (A : World) (l : Nat) (o o' : Obj), I s A → B ≤ l → A.heap[l]? = some o → o.isCells = false → I s (A.putObj l o')

theorem range_wide {α : Type} {P : Program} {n : Nat} {g : Operand} {ps : Array Tmp} {assign body : Code} {Q : Exit → Act → World → Prop} {a : Act} {w : World}
    {gf : Nat} {lb : Array Value} (hg : a.eval g = .func (.func gf) #[] lb) (eg : ∀ args w, (callFunc gf args).run P w = .ok (.enter gf args) w)
    {encs : α → Array Value} {Step Keep : World → World → Prop} {items : List α} {w0 : World} (hit : Iter P gf lb encs Step Keep items w0)
    (hb0 : Below w0.heap.size w0 w) (hps : ∀ x, (encs x).size = ps.size)
    (hKt : ∀ {A B C : World}, Keep A B → Keep B C → Keep A C)
    (hKb : ∀ (W : World) (l : Nat) (o o' : Obj), w.heap.size ≤ l → W.heap[l]? = some o → o.isCells = false → Keep W (W.putObj l o'))
    (hStep : ∀ (A B : World) (k : Nat) (o : Obj), Step A B → w.heap.size ≤ k → A.heap[k]? = some o → o.isCells = false → B.heap[k]? = some o)
    (I : List α → World → Prop) (Ix : Code → List α → World → Prop)
    (hIp : AbidesPut w.heap.size I) (hIxp : ∀ c, AbidesPut w.heap.size (Ix c))
    (hIs : ∀ s A B, I s A → Step A B → I s B) (hIxs : ∀ c s A B, Ix c s A → Step A B → Ix c s B)
    (h0 : ∀ o1 o2, o1.isCells = false → o2.isCells = false → I [] ((w.alloc o1).alloc o2)) (a₁ : α → Act)
    (hassign : ∀ (l : Nat) (x : α) (W : World) (K : Act → World → Prop), K (a₁ x) W →
      assign.wpIn (Fence.wide.inRound l) (n - 1 - 1) P (Exit.then K (fun _ _ _ => False)) { tmps := (ps.zip (encs x)).foldl (fun t (p, v) => t.setIfInBounds p v) a.tmps, defers := [] } W)
    (hbody : ∀ (l : Nat) (pre : List α) (x : α) (W : World), I pre W → pre ++ [x] <+: items → body.wpIn (Fence.wide.inRound l) (n - 1 - 1) P (bodyPost' w.heap.size Keep I Ix (pre ++ [x]) W) (a₁ x) W)
    (hdone : ∀ (D : Nat) (W : World), w.heap.size ≤ D → I items W → W.heap[D]? = some (.deferred (some [])) → Q .normal { a with defers := { target := .collected D, args := #[] } :: a.defers } W)
    (hstop : ∀ (D : Nat) (c : Code) (pre : List α) (W : World), w.heap.size ≤ D → pre <+: items → Ix c pre W → W.heap[D]? = some (.deferred (some [])) → c.wpIn Fence.wide n P Q { a with defers := { target := .collected D, args := #[] } :: a.defers } W) :
    (Code.rangeFunc g ps assign body).wpIn Fence.wide n P Q a w := by
  refine wpIn_rangeFunc ?_
  intro fn hfn
  obtain ⟨D, hD⟩ : ∃ D, D = w.heap.size := ⟨_, rfl⟩
  obtain ⟨rec, hrec⟩ : ∃ rec : LoopState → Option Code → Loop, rec = fun st pe => { state := st, pending := pe, fn, tmps := a.tmps, params := ps, assign, body, defers := D } := ⟨_, rfl⟩
  obtain ⟨W1, hW1⟩ : ∃ W1, (w.alloc (.deferred (some []))).alloc (.loop (rec .ready none)) = W1 := ⟨_, rfl⟩
  have hI1 : I [] W1 := hW1 ▸ h0 _ _ rfl rfl
  have hK1 : W1.heap[D]? = some (.deferred (some [])) := by
    rw [← hW1, hD]; exact (Below.heap_alloc _ _ _ (by simp)).trans (World.alloc_heap_new w _)
  have hL1 : W1.heap[D + 1]? = some (.loop (rec .ready none)) := by
    rw [← hW1, hD]; have := World.alloc_heap_new (w.alloc (.deferred (some []))) (.loop (rec .ready none)); rwa [World.size_alloc] at this
  have hb1 : Below w0.heap.size w0 W1 := by
    rw [← hW1]; exact hb0.trans ((((Below.refl _ w).alloc (Nat.le_refl _) _).alloc (by simp) _).mono hb0.size)
  refine ⟨D + 1, [{ target := .collected D, args := #[] }], W1, { target := .fn (.func gf) lb, args := #[.func (.yield (D + 1)) #[] #[]] }, W1, gf, #[.func (.yield (D + 1)) #[] #[]] ++ lb, W1, ?_, ?_, ?_, ?_, fun h => (by cases h), ?_⟩
  · rw [← hW1, hrec, hD]; exact run_enterLoop_outer _ _ _ _ _
  · simp only [resolve, hg]
    simp [go_sem]
  · intro f' _; trivial
  · simp [invoke, go_sem, eg]
  -- the book-keeping: the record and the block of deferred calls
  have mv : ∀ {A B : World} {k : Nat} {o : Obj}, Step A B → D ≤ k → A.heap[k]? = some o → o.isCells = false → B.heap[k]? = some o := fun hs hk h ho => hStep _ _ _ _ hs (hD ▸ hk) h ho
  refine (hit (n - 1) (D + 1)
    (fun pre W => I pre W ∧ W.heap[D + 1]? = some (.loop (rec .ready none)) ∧ W.heap[D]? = some (.deferred (some [])))
    (fun pre W => ∃ c, Ix c pre W ∧ W.heap[D + 1]? = some (.loop (rec .done (some c))) ∧ W.heap[D]? = some (.deferred (some [])))
    W1 hb1
    (fun s A B hs st => ⟨hIs s A B hs.1 st, mv st (by omega) hs.2.1 rfl, mv st (by omega) hs.2.2 rfl⟩)
    (fun s A B ⟨c, hc, hl, hk⟩ st => ⟨c, hIxs c s A B hc st, mv st (by omega) hl rfl, mv st (by omega) hk rfl⟩)
    ?round ⟨hI1, hL1, hK1⟩).mono ?behind
  case round =>
    rintro pre x W ⟨hi, hl, hk⟩ hpre
    have hlt : D + 1 < W.heap.size := (Array.getElem?_eq_some_iff.1 hl).1
    have hy := run_yield (P := P) (args := encs x) hl (by rw [hrec]; exact hps x)
    rw [hrec] at hy
    refine ⟨fn, _, assign, body, hy, roundIn_of_wpIn hfn (hassign _ x W _ ⟨_, run_beginRound hl (by rw [hrec]), ?_⟩)⟩
    obtain ⟨W2, hW2⟩ : ∃ W2, W.putObj (D + 1) (.loop { rec .ready none with state := .busy }) = W2 := ⟨_, rfl⟩
    have hl2 : W2.heap[D + 1]? = some (.loop { rec .ready none with state := .busy }) := hW2 ▸ World.putObj_heap_same hlt
    have hk2 : W2.heap[D]? = some (.deferred (some [])) := hW2 ▸ (World.putObj_heap_other (by omega)).trans hk
    have hi2 : I pre W2 := hW2 ▸ hIp pre W _ _ _ hi (by omega) hl rfl
    have hkp2 : Keep W W2 := hW2 ▸ hKb _ _ _ _ (by omega) hl rfl
    show body.wpIn _ _ _ _ _ (W.putObj (D + 1) (.loop { rec .ready none with state := .busy }))
    rw [hW2]
    refine wpIn_mono (hbody _ pre x _ hi2 hpre) ?_
    -- what the record is behind the round
    have fin : ∀ (jump : Option Code) (W3 : World), KeepsFrom w.heap.size W2 W3 →
        (Instr.endRound (D + 1) jump).run P W3 = .ok (.bool jump.isNone) (W3.putObj (D + 1) (.loop (rec (if jump.isNone then .ready else .done) jump))) ∧
        W3.heap[D + 1]? = some (.loop { rec .ready none with state := .busy }) ∧
        (W3.putObj (D + 1) (.loop (rec (if jump.isNone then .ready else .done) jump))).heap[D + 1]? = some (.loop (rec (if jump.isNone then .ready else .done) jump)) ∧
        (W3.putObj (D + 1) (.loop (rec (if jump.isNone then .ready else .done) jump))).heap[D]? = some (.deferred (some [])) := fun jump W3 hk3 => by
      have hl3 := hk3.same _ _ (by omega) hl2 rfl
      have hr := run_endRound (P := P) jump hl3
      rw [hrec] at hr hl3 ⊢
      exact ⟨hr, hl3, World.putObj_heap_same (Array.getElem?_eq_some_iff.1 hl3).1, (World.putObj_heap_other (by omega)).trans (hk3.same _ _ (by omega) hk2 rfl)⟩
    rintro e a3 W3 hp
    cases e with
    | normal =>
      obtain ⟨hk3, hkp3, hi3⟩ := hp
      obtain ⟨hr, hl3, hl4, hk4⟩ := fin none W3 hk3
      exact ⟨_, _, hr, .inl ⟨rfl, ⟨hIp _ _ _ _ _ hi3 (by omega) hl3 rfl, hl4, hk4⟩, hKt (hKt hkp2 hkp3) (hKb _ _ _ _ (by omega) hl3 rfl)⟩⟩
    | ret =>
      obtain ⟨hk3, hi3⟩ := hp
      obtain ⟨hr, hl3, hl4, hk4⟩ := fin (some .ret) W3 hk3
      exact ⟨_, _, hr, .inr ⟨rfl, .ret, hIxp _ _ _ _ _ _ hi3 (by omega) hl3 rfl, hl4, hk4⟩⟩
    | exit id =>
      obtain ⟨hk3, hi3⟩ := hp
      obtain ⟨hr, hl3, hl4, hk4⟩ := fin (some (.exit id)) W3 hk3
      exact ⟨_, _, hr, .inr ⟨rfl, .exit id, hIxp _ _ _ _ _ _ hi3 (by omega) hl3 rfl, hl4, hk4⟩⟩
    | goto t =>
      obtain ⟨hk3, hi3⟩ := hp
      obtain ⟨hr, hl3, hl4, hk4⟩ := fin (some (.goto t)) W3 hk3
      exact ⟨_, _, hr, .inr ⟨rfl, .goto t, hIxp _ _ _ _ _ _ hi3 (by omega) hl3 rfl, hl4, hk4⟩⟩
    | panic ch => exact hp.elim
    | outgrown => exact hp.elim
  case behind =>
    rintro e W2 ⟨⟨v, rfl⟩, (⟨hi, hl, hk⟩ | ⟨pre, hSp, c, hi, hl, hk⟩)⟩
    · refine ⟨none, _, ?_, hdone D _ (by omega) (hIp _ _ _ _ (.loop (rec .exhausted none)) hi (by omega) hl rfl) ((World.putObj_heap_other (by omega)).trans hk)⟩
      have hr := run_endLoop (P := P) hl (by rw [hrec]; simp)
      rw [hrec] at hr ⊢
      exact hr
    · refine ⟨some c, _, ?_, hstop D c pre _ (by omega) hSp (hIxp _ _ _ _ _ (.loop (rec .exhausted (some c))) hi (by omega) hl rfl) ((World.putObj_heap_other (by omega)).trans hk)⟩
      have hr := run_endLoop (P := P) hl (by rw [hrec]; simp)
      rw [hrec] at hr ⊢
      exact hr

end Go.Proofs.Ytpjllppbpnkemaa

/- A block that holds a set. -/
namespace Go.Proofs.Ytpjllppbpnkemaa
open Go.RowKit

/-- a block that holds a set -/
def SetAt (w : World) (B : Nat) (s : CSet) : Prop := w.heap[B]? = some (.cells (setC s) 61)
theorem SetAt.lt {w : World} {B : Nat} {s : CSet} (h : SetAt w B s) : B < w.heap.size := (Array.getElem?_eq_some_iff.1 h).1
theorem SetAt.cells {w : World} {B : Nat} {s : CSet} (h : SetAt w B s) :
    w.cell? ⟨B, 0, none⟩ = some (.int .u64 (word s 0 : Int)) ∧ w.cell? ⟨B, 1, none⟩ = some (.int .u64 (word s 1 : Int)) ∧ w.cell? ⟨B, 2, none⟩ = some (.int .u64 (word s 2 : Int)) ∧ w.cell? ⟨B, 3, none⟩ = some (.int .u64 (word s 3 : Int)) := by
  simp [World.cell?, show w.heap[B]? = _ from h, setC]
theorem SetAt.free {w : World} {B : Nat} {s : CSet} (h : SetAt w B s) :
    w.frozen? ⟨B, 0, none⟩ = false ∧ w.frozen? ⟨B, 1, none⟩ = false ∧ w.frozen? ⟨B, 2, none⟩ = false ∧ w.frozen? ⟨B, 3, none⟩ = false := by
  simp [World.frozen?, show w.heap[B]? = _ from h]
theorem SetAt.below {w w' : World} {B N : Nat} {s : CSet} (h : SetAt w B s) (hb : Below N w w') (hN : B < N) : SetAt w' B s := (hb.block B hN).trans h
theorem SetAt.new (w : World) (s : CSet) : SetAt (w.alloc (.cells (setC s) 61)) w.heap.size s := heap_alloc_new w _
theorem SetAt.alloc {w : World} {B : Nat} {s : CSet} (h : SetAt w B s) (o : Obj) : SetAt (w.alloc o) B s := (Below.heap_alloc w o B h.lt).trans h

/-- a set stored over another one -/
def putSet (w : World) (B : Nat) (s : CSet) : World :=
  (((w.setCell ⟨B, 0, none⟩ (.int .u64 (word s 0 : Int))).setCell ⟨B, 1, none⟩ (.int .u64 (word s 1 : Int))).setCell ⟨B, 2, none⟩ (.int .u64 (word s 2 : Int))).setCell ⟨B, 3, none⟩ (.int .u64 (word s 3 : Int))
theorem SetAt.put {w : World} {B : Nat} {s : CSet} (h : SetAt w B s) (s' : CSet) : SetAt (putSet w B s') B s' := by
  unfold SetAt putSet
  rw [heap_setCell_at _ (heap_setCell_at _ (heap_setCell_at _ (heap_setCell_at _ h)))]
  rfl
theorem SetAt.other {w : World} {B B' : Nat} {s : CSet} (h : SetAt w B s) (hB : B ≠ B') (s' : CSet) : SetAt (putSet w B' s') B s := by
  unfold SetAt putSet
  rw [Below.heap_setCell _ _ _ _ hB, Below.heap_setCell _ _ _ _ hB, Below.heap_setCell _ _ _ _ hB, Below.heap_setCell _ _ _ _ hB]
  exact h
theorem below_put {N B : Nat} {a w : World} (h : Below N a w) (hN : N ≤ B) (s : CSet) : Below N a (putSet w B s) :=
  (((h.setCell (p := ⟨B, 0, none⟩) hN _).setCell (p := ⟨B, 1, none⟩) hN _).setCell (p := ⟨B, 2, none⟩) hN _).setCell (p := ⟨B, 3, none⟩) hN _

theorem setC_zero : setC 0#256 = #[.int .u64 0, .int .u64 0, .int .u64 0, .int .u64 0] := rfl
theorem SetAt.zero (w : World) : SetAt (w.alloc (.cells #[.int .u64 0, .int .u64 0, .int .u64 0, .int .u64 0] 61)) w.heap.size 0#256 := SetAt.new w 0#256

theorem SetAt.after {W w w' : World} {B N : Nat} {s : CSet} (h : SetAt W B s) (hb : Below N w w') (hN : B < N) (e : W.heap = w.heap := by rfl) : SetAt w' B s :=
  SetAt.below (w := w) (by unfold SetAt; rw [← e]; exact h) hb hN

end Go.Proofs.Ytpjllppbpnkemaa
