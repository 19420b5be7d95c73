/- Layer 3's reference: All, Not, Sub, List, Of. -/
import Derived.Test.YtooiegejchcbhaaDoorRefC
import Derived.Test.YtooiegejchcbhaaDoorRow
import Derived.Deep.RegionHeld3
namespace Go.Proofs.YtooiegejchcbhaaDoor
open Go.RowKit

def fullS : CSet := BitVec.allOnes 256
theorem rangeS_all : rangeS 0 255 = fullS := by
  have e : rangeE 0 255 = 0 := by decide
  unfold rangeS fullS
  rw [if_pos e]
  apply set_ext; intro b hb
  rw [spanS, hasB_ofF _ _ hb]
  have : hasB (BitVec.allOnes 256) b = true := by simp only [hasB, BitVec.getLsbD_allOnes, hb, decide_true]
  rw [this, decide_eq_true_iff]
  omega
theorem hasB_full (b : Nat) (hb : b < 256) : hasB fullS b = true := by simp only [fullS, hasB, BitVec.getLsbD_allOnes, hb, decide_true]
theorem full_minus (s : CSet) : fullS &&& ~~~s = ~~~s := by
  apply set_ext; intro b hb
  rw [hasB_and, hasB_full _ hb, Bool.true_and]

theorem SetAt.after {W w w' : World} {B N : Nat} {s : CSet} (h : SetAt W B s) (hb : Below N w w') (hN : B < N) (e : W.heap = w.heap := by rfl) : SetAt w' B s :=
  SetAt.below (w := w) (by unfold SetAt; rw [← e]; exact h) hb hN

theorem set_ne {s t : CSet} (i : Nat) (h : word s i ≠ word t i) : decide (s = t) = false := by
  rw [decide_eq_false_iff_not]; rintro rfl; exact h rfl
theorem eq_words (a b c d a' b' c' d' : Int) (w : World) : (Op.equalIn 10000 24 (.agg #[.int .u64 a, .int .u64 b, .int .u64 c, .int .u64 d]) (.agg #[.int .u64 a', .int .u64 b', .int .u64 c', .int .u64 d'])).run Tryd.prog w = .ok (a == a' && (b == b' && (c == c' && d == d'))) w := by
  have u3 := Tryd.underlying22
  have a3 := Tryd.isAgg22
  have z3 := Tryd.sizeOf22
  rw [show (10000 : Nat) = 9999 + 1 from rfl, Op.equalIn]
  simp only [Sem.run_bind, run_underlying Tryd.underlying24, Result.andThen_ok]
  simp only [Std.Legacy.Range.forIn_eq_forIn_range', Std.Legacy.Range.size, Nat.sub_zero, Nat.add_sub_cancel, Nat.div_one, List.range'_succ, List.range'_zero, List.forIn_cons, List.forIn_nil]
  go_simp
  by_cases h1 : a = a' <;> by_cases h2 : b = b' <;> by_cases h3 : c = c' <;> by_cases h4 : d = d' <;> simp [h1, h2, h3, h4]
/-- sets are equal exactly if their words are -/
theorem eq_set (w : World) (s t : CSet) : (Op.equalIn 10000 24 (.agg #[.int .u64 (word s 0 : Int), .int .u64 (word s 1 : Int), .int .u64 (word s 2 : Int), .int .u64 (word s 3 : Int)]) (.agg #[.int .u64 (word t 0 : Int), .int .u64 (word t 1 : Int), .int .u64 (word t 2 : Int), .int .u64 (word t 3 : Int)])).run Tryd.prog w = .ok (decide (s = t)) w := by
  rw [eq_words]
  congr 1
  rw [Bool.eq_iff_iff]
  simp only [Bool.and_eq_true, beq_iff_eq, decide_eq_true_eq]
  constructor
  · rintro ⟨h0, h1, h2, h3⟩
    apply word_ext
    intro i hi
    match i, hi with
    | 0, _ => exact_mod_cast h0
    | 1, _ => exact_mod_cast h1
    | 2, _ => exact_mod_cast h2
    | 3, _ => exact_mod_cast h3
  · rintro rfl
    exact ⟨rfl, rfl, rfl, rfl⟩
theorem run_eq_set (w : World) (s t : CSet) :
    (binOp .eql 24 (.agg #[.int .u64 (word s 0 : Int), .int .u64 (word s 1 : Int), .int .u64 (word s 2 : Int), .int .u64 (word s 3 : Int)]) (.agg #[.int .u64 (word t 0 : Int), .int .u64 (word t 1 : Int), .int .u64 (word t 2 : Int), .int .u64 (word t 3 : Int)])).run Tryd.prog w = .ok (.bool (decide (s = t))) w := by
  simp [go_sem, eq_set]
theorem run_ne_set (w : World) (s t : CSet) :
    (binOp .neq 24 (.agg #[.int .u64 (word s 0 : Int), .int .u64 (word s 1 : Int), .int .u64 (word s 2 : Int), .int .u64 (word s 3 : Int)]) (.agg #[.int .u64 (word t 0 : Int), .int .u64 (word t 1 : Int), .int .u64 (word t 2 : Int), .int .u64 (word t 3 : Int)])).run Tryd.prog w = .ok (.bool (!decide (s = t))) w := by
  simp [go_sem, eq_set]
theorem eq_none (w : World) (s : CSet) :
    (Op.equalIn 10000 24 (.agg #[.int .u64 (word s 0 : Int), .int .u64 (word s 1 : Int), .int .u64 (word s 2 : Int), .int .u64 (word s 3 : Int)]) (.agg #[.int .u64 0, .int .u64 0, .int .u64 0, .int .u64 0])).run Tryd.prog w = .ok (decide (s = 0#256)) w :=
  eq_set w s 0#256

set_option maxRecDepth 100000 in
set_option maxHeartbeats 1000000 in
theorem all_r (w : World) : Calls Tryd.prog 52 #[] w fun e w' => e = .returned (setV fullS) ∧ Below w.heap.size w w' := by
  have a0 := SetAt.zero w
  have hB0 : Below w.heap.size w (w.alloc (.cells #[.int .u64 0, .int .u64 0, .int .u64 0, .int .u64 0] 24)) := (Below.refl _ _).alloc (Nat.le_refl _) _
  have A0 := Lib.hid a0
  have HB0 := Lib.hid hB0
  clear a0 hB0
  go_enter Tryd.func52, Tryd.ntmps52
  go_wp2_with fail
  refine (range_r 0 255 _).mono ?_
  rintro e w1 ⟨rfl, hb1⟩
  rw [rangeS_all]
  have h0 := A0.out.below hb1 (by simp)
  have h1 := (h0.put fullS).alloc (.cells (setC fullS) 24)
  have lz := h0.lt
  obtain ⟨d0, d1, d2, d3⟩ := h0.cells
  obtain ⟨f0, f1, f2, f3⟩ := h0.free
  have hz := hb1.size
  have HB := Lib.hid (next HB0.out hb1)
  have H1 := Lib.hid h1
  clear hb1 h1 h0
  unfold setV setC
  go_wp2_with fail
  obtain ⟨q0, q1, q2, q3⟩ := H1.out.cells
  show bodyPost _ _ _ _ _ ((putSet w1 w.heap.size fullS).alloc (.cells (setC fullS) 24))
  exact bodyPost_ret (v := .agg #[.int .u64 _, .int .u64 _, .int .u64 _, .int .u64 _]) (by simp [results, Tryd.results52, go_sem, q0, q1, q2, q3]) rfl ⟨rfl, (below_put HB.out (Nat.le_refl _) _).alloc (by simp [putSet, World.size_setCell]; omega) _⟩

set_option maxRecDepth 100000 in
set_option maxHeartbeats 1000000 in
theorem not_r (s : CSet) (w : World) : Calls Tryd.prog 31 #[setV s] w fun e w' => e = .returned (setV (~~~s)) ∧ Below w.heap.size w w' := by
  have a0 := (SetAt.new w s).alloc (.cells (setC 0#256) 24)
  have a1 := SetAt.zero (w.alloc (.cells (setC s) 24))
  rw [World.size_alloc] at a1
  have hB0 : Below w.heap.size w ((w.alloc (.cells (setC s) 24)).alloc (.cells (setC 0#256) 24)) := ((Below.refl _ _).alloc (Nat.le_refl _) _).alloc (by simp) _
  have A0 := Lib.hid a0
  have A1 := Lib.hid a1
  have HB0 := Lib.hid hB0
  clear a0 a1 hB0
  unfold setV setC
  go_enter Tryd.func31, Tryd.ntmps31
  go_wp2_with fail
  go_region_with (first
    | (go_at_call 52; refine (all_r _).mono ?_; rintro e w1 ⟨rfl, hb1⟩; have k0 := A0.out.after hb1 (by simp <;> omega); have k1 := A1.out.after hb1 (by simp <;> omega); obtain ⟨c0, c1, c2, c3⟩ := k0.cells; have HB1 := Lib.hid (next HB0.out.drew hb1); have l1 := k1.lt; clear hb1)
    | (go_at_call 30; refine (minus_r fullS s _).mono ?_; rintro e w2 ⟨rfl, hb2⟩; rw [full_minus]; unfold setV setC; have k2 := k1.below hb2 l1; obtain ⟨f0, f1, f2, f3⟩ := k2.free; obtain ⟨d0, d1, d2, d3⟩ := k2.cells; have HB2 := Lib.hid (next HB1.out hb2); clear hb2))
  all_goals
    clear f0 f1 f2 f3 d0 d1 d2 d3 c0 c1 c2 c3
    obtain ⟨q0, q1, q2, q3⟩ := (k2.put (~~~s)).cells
    go_wp2_with fail
    show bodyPost _ _ _ _ _ (putSet w2 (w.heap.size + 1) (~~~s))
    exact bodyPost_ret (v := .agg #[.int .u64 _, .int .u64 _, .int .u64 _, .int .u64 _]) (by simp [results, Tryd.results31, go_sem, q0, q1, q2, q3]) rfl ⟨rfl, below_put HB2.out (Nat.le_succ _) _⟩

set_option maxRecDepth 100000 in
set_option maxHeartbeats 1000000 in
theorem sub_r (s t : CSet) (w : World) : Calls Tryd.prog 33 #[setV s, setV t] w fun e w' => e = .returned (.bool (decide (s &&& ~~~t = 0#256))) ∧ Below w.heap.size w w' := by
  unfold setV setC
  go_enter Tryd.func33, Tryd.ntmps33
  go_wp2_with fail
  refine (minus_r s t _).mono ?_
  rintro e w1 ⟨rfl, hb1⟩
  have HB1 := Lib.hid hb1
  clear hb1
  have heq := eq_none w1 (s &&& ~~~t)
  unfold setV setC
  go_wp2_with fail
  go_ret
  exact ⟨rfl, (((Below.refl _ _).alloc (Nat.le_refl _) _).alloc (by simp) _).trans (HB1.out.mono (by simp; omega))⟩

theorem infoU8 : (Tryd.prog.info? 5).map (fun i => (i.zero, i.size, i.bytes)) = some (some (.int .u8 0), 1, 1) := by kernel_rfl
theorem bcells_snoc (l : List UInt8) (b : UInt8) : bcells (l ++ [b]) = bcells l ++ [.int .u8 (b.toNat : Int)] := by simp [bcells]
theorem listTo_num (s : CSet) (k : Nat) (h : k < 256) : bcells (listTo s k ++ [UInt8.ofNat k]) = bcells (listTo s k) ++ [.int .u8 (k : Int)] := by
  rw [bcells_snoc]
  have : (UInt8.ofNat k).toNat = k := by simp; omega
  rw [this]

set_option maxRecDepth 100000 in
set_option maxHeartbeats 1000000 in
theorem list_r (s : CSet) (w : World) : Calls Tryd.prog 37 #[setV s] w fun e w' => ∃ v, e = .returned v ∧ w'.ownsRow w.heap.size 5 1 v (listS s).length (bcells (listS s)) ∧ Below w.heap.size w w' := by
  obtain ⟨i0, hi0, hz0, hz1, hz2⟩ := info_parts infoU8
  have a0 := SetAt.new w s
  have A0 := Lib.hid a0
  clear a0
  unfold setV setC
  go_enter Tryd.func37, Tryd.ntmps37
  go_wp2_with fail
  go_loopw [3, 4] (fun ov iv wr => ∃ k : Nat, k ≤ 256 ∧ iv = .int .i64 (k : Nat) ∧ SetAt wr w.heap.size s ∧ wr.ownsRow (w.heap.size + 1) 5 1 ov (listTo s k).length (bcells (listTo s k)) ∧ Below w.heap.size w wr ∧ w.heap.size + 1 ≤ wr.heap.size) (fun _ iv _ => 256 - (intOf iv).toNat)
  case atStart => exact ⟨0, by omega, rfl, A0.out, World.ownsRow_nil _ _ _ _, (Below.refl _ _).alloc (Nat.le_refl _) _, by simp⟩
  case round =>
    obtain ⟨k, hk, rfl, h0, hown, hB, hz⟩ := hrel
    have l0 := h0.lt
    by_cases hlt : k < 256
    · have i1 : (0 : Int) ≤ (k : Int) := by omega
      have i2 : (k : Int) ≤ 255 := by omega
      obtain ⟨c0, c1, c2, c3⟩ := h0.cells
      go_wp2_with fail
      refine (has_r s k hlt _).mono ?_
      rintro e w1 ⟨rfl, hb1⟩
      clear c0 c1 c2 c3
      have h0' := h0.below hb1 l0
      have hown1 := ownsRow_below hown hb1
      have hB1 := next hB hb1
      have hz1' : w.heap.size + 1 ≤ w1.heap.size := by have := hb1.size; omega
      have hle := listTo_le s k
      by_cases hh : hasB s k = true
      · rw [hh]
        go_wp2_with (at_builtin; refine wpList_append_own _ rfl _ _ 39 rfl (w.heap.size + 1) 5 i0 _ 1 1 Tryd.underlying39 hi0 hz0 hz1 hz2 rfl (by decide) _ _ _ rfl (hown1.alloc _) ⟨w1.heap.size, 0, none⟩ 1 1 [.int .u8 (k : Nat)] rfl rfl (cells_new _ _ _) (by simp [Value.oneCell']) (by unfold maxLen; omega) (by omega) (by simp; omega) ?_; intro v' w2 hown' hgrow _)
        go_roundw
        case rel =>
          have e2 : (listTo s (k + 1)).length = (listTo s k).length + 1 := by rw [listTo_yes hh]; simp
          have bg : Below (w.heap.size + 1) w1 w2 := ((Below.refl _ w1).alloc (by omega) _).grown hgrow (by simp; omega) fun q e => (hown1.lt q e).1
          exact ⟨k + 1, by omega, by go_num, h0'.below bg (by omega), by rw [e2, listTo_yes hh, listTo_num s k hlt]; exact hown', hB1.trans (bg.mono (by omega)), by have := bg.size; omega⟩
        case measure => simp [intOf]; omega
      · have hh' : hasB s k = false := by simpa using hh
        rw [hh']
        go_wp2_with fail
        go_roundw
        case rel => exact ⟨k + 1, by omega, by go_num, h0', by rw [listTo_no hh']; exact hown1, hB1, hz1'⟩
        case measure => simp [intOf]; omega
    · obtain rfl : k = 256 := by omega
      go_wp2_with fail
      go_ret
      exact ⟨_, rfl, ownsRow_base hown (Nat.le_succ _), hB⟩

end Go.Proofs.YtooiegejchcbhaaDoor
