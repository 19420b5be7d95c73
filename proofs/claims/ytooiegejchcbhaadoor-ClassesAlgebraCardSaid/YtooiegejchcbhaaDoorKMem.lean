/- classes.members: the iterator of the bytes of a set. -/
import Derived.Test.YtooiegejchcbhaaDoorKTz
import Derived.Test.YtooiegejchcbhaaDoorRange
import Derived.Stop.RegionWithIn
namespace Go.Proofs.YtooiegejchcbhaaDoor
open Go.RowKit Go.Shelf
attribute [local go_sem] Oper.semAt_some

def hiN (W m : Nat) : Nat := 2 ^ m * (W / 2 ^ m)
theorem testBit_hi (W m j : Nat) : (hiN W m).testBit j = (decide (m ≤ j) && W.testBit j) := by
  unfold hiN
  rw [Nat.testBit_two_pow_mul]
  by_cases h : m ≤ j
  · have h2 : j ≥ m := h
    rw [decide_eq_true h2, Bool.true_and, Bool.true_and, Nat.testBit_div_two_pow]
    congr 1; omega
  · have h2 : ¬ j ≥ m := h
    rw [decide_eq_false h2, Bool.false_and, Bool.false_and]
theorem hi_zero (W : Nat) : hiN W 0 = W := by simp [hiN]
theorem hi_le (W m : Nat) : hiN W m ≤ W := Nat.mul_div_le W (2 ^ m)
theorem hi_next {W m : Nat} (hW : W < 2 ^ 64) (hne : hiN W m ≠ 0) :
    ∃ t q, m ≤ t ∧ t < 64 ∧ hiN W m = 2 ^ (t + 1) * q + 2 ^ t ∧ W.testBit t = true ∧ (∀ j, m ≤ j → j < t → W.testBit j = false) ∧ 2 ^ (t + 1) * q = hiN W (t + 1) := by
  obtain ⟨t, q, ht, hr⟩ := low_bit 64 (hiN W m) (by omega) (Nat.lt_of_le_of_lt (hi_le W m) hW)
  have hlt : 2 ^ t < 2 ^ (t + 1) := Nat.pow_lt_pow_right (by decide) (by omega)
  have hbit : ∀ j, (hiN W m).testBit j = if j < t + 1 then decide (t = j) else q.testBit (j - (t + 1)) := fun j => by
    rw [hr, Nat.testBit_two_pow_mul_add _ hlt, Nat.testBit_two_pow]
  have ht1 := hbit t
  rw [if_pos (by omega), decide_eq_true rfl, testBit_hi, Bool.and_eq_true, decide_eq_true_eq] at ht1
  refine ⟨t, q, ht1.1, ht, hr, ht1.2, fun j h1 h2 => ?_, ?_⟩
  · have := hbit j
    rw [if_pos (by omega), decide_eq_false (by omega), testBit_hi, decide_eq_true h1, Bool.true_and] at this
    exact this
  · apply Nat.eq_of_testBit_eq
    intro j
    rw [testBit_hi, Nat.testBit_two_pow_mul]
    by_cases h : t + 1 ≤ j
    · have := hbit j
      rw [if_neg (by omega), testBit_hi, decide_eq_true (show m ≤ j by omega), Bool.true_and] at this
      rw [decide_eq_true (show j ≥ t + 1 from h), Bool.true_and, this, Bool.true_and]
    · rw [decide_eq_false (show ¬ j ≥ t + 1 from h), Bool.false_and, Bool.false_and]
/-- the bytes of a set below a number -/
def itemsTo (s : CSet) (c : Nat) : List Nat := (List.range c).filter (hasB s)
theorem items_yes {s : CSet} {c : Nat} (h : hasB s c = true) : itemsTo s (c + 1) = itemsTo s c ++ [c] := by simp [itemsTo, List.range_succ, List.filter_append, h]
theorem items_no {s : CSet} {c : Nat} (h : hasB s c = false) : itemsTo s (c + 1) = itemsTo s c := by simp [itemsTo, List.range_succ, List.filter_append, h]
theorem items_skip {s : CSet} {c : Nat} : ∀ (d : Nat), (∀ j, c ≤ j → j < c + d → hasB s j = false) → itemsTo s (c + d) = itemsTo s c
  | 0, _ => rfl
  | d + 1, h => by
    rw [← Nat.add_assoc, items_no (h (c + d) (by omega) (by omega)), items_skip d (fun j h1 h2 => h j h1 (by omega))]
theorem items_prefix (s : CSet) {c d : Nat} (h : c ≤ d) : itemsTo s c <+: itemsTo s d := by
  obtain ⟨m, rfl⟩ : ∃ m, d = c + m := ⟨d - c, by omega⟩
  unfold itemsTo
  rw [List.range_add, List.filter_append]
  exact List.prefix_append _ _
theorem items_le (s : CSet) (c : Nat) : (itemsTo s c).length ≤ c := by
  have := List.length_filter_le (hasB s) (List.range c)
  simpa [itemsTo] using this
theorem hasB_testBit (s : CSet) (i j : Nat) (hj : j < 64) : hasB s (64 * i + j) = (word s i).testBit j := (word_testBit s i j hj).symm

def encB (x : Nat) : Array Value := #[.int .u8 (x : Int)]
theorem members_p (s : CSet) (w : World) :
    Calls Tryd.prog 46 #[setV s] w fun e w' => e = .returned (.func (.func 60) #[] #[.pointer (some ⟨w.heap.size, 0, none⟩)]) ∧ w' = w.alloc (.cells (setC s) 24) := by
  unfold setV setC
  go_enter Tryd.func46, Tryd.ntmps46
  go_wp2
  go_ret
  exact ⟨rfl, rfl⟩
theorem Tab.of_block {w w' : World} (h : Tab w) (e : w'.heap[0]? = w.heap[0]?) : Tab w' := fun i hi => by
  have := h i hi
  simp only [World.cell?] at this ⊢
  rw [e]
  exact this
/-- what a round leaves: it goes on, or it has said 'no more' -/
def YBack (J Jx : List Nat → World → Prop) (B : Nat) (pre : List Nat) (W1 W' : World) (bb : Bool) : Prop :=
  (bb = true ∧ J pre W' ∧ W1.heap.size ≤ W'.heap.size ∧ W'.heap[B]? = W1.heap[B]? ∧ W'.heap[0]? = W1.heap[0]?) ∨ (bb = false ∧ Jx pre W')

set_option maxRecDepth 100000 in
set_option maxHeartbeats 2000000 in
theorem members_body (s : CSet) (n l B : Nat) (J Jx : List Nat → World → Prop)
    (hY : ∀ pre x W1, J pre W1 → pre ++ [x] <+: itemsTo s 256 → YieldAt Fence.wide (n - 1) Tryd.prog l (encB x) W1 fun e W' =>
      ∃ bb : Bool, e = .returned (.bool bb) ∧ Hid (YBack J Jx B (pre ++ [x]) W1 W' bb))
    (W : World) (hb : SetAt W B s) (hT : Tab W) (h0 : J [] W) :
    CallsIn Fence.wide n Tryd.prog 60 #[.func (.yield l) #[] #[], .pointer (some ⟨B, 0, none⟩)] W fun e W' =>
      (∃ v, e = .returned v) ∧ (J (itemsTo s 256) W' ∨ ∃ pre, pre <+: itemsTo s 256 ∧ Jx pre W') := by
  obtain ⟨c0, c1, c2, c3⟩ := hb.cells
  have HB := Lib.hid hb
  have HT := Lib.hid hT
  have H0 := Lib.hid h0
  clear hb hT h0
  refine callsIn_of_wp Tryd.func60 rfl trivial ?_ rfl
  simp only [Tryd.ntmps60, List.size_toArray, List.length_cons, List.length_nil, Nat.reduceAdd, Nat.reduceSub, Array.replicate_succ, Array.replicate_zero, List.push_toArray, List.append_toArray, List.nil_append, List.cons_append]
  gi_wp2
  clear c0 c1 c2 c3
  gi_loopw [6] (fun iv wr => ∃ i : Nat, i ≤ 4 ∧ iv = .int .i64 (i : Nat) ∧ SetAt wr B s ∧ Tab wr ∧ J (itemsTo s (64 * i)) wr) (fun iv _ => 4 - (intOf iv).toNat)
  case atStart => exact ⟨0, by omega, rfl, HB.out, HT.out, H0.out⟩
  case round =>
    obtain ⟨i, hi, rfl, hb, hT, hJ⟩ := hrel
    have i0 : (0 : Int) ≤ (i : Int) := by omega
    have HBi := Lib.hid hb
    have HTi := Lib.hid hT
    have HJi := Lib.hid hJ
    clear hb hT hJ
    by_cases hlt : i < 4
    · have i1 : (i : Int) < 4 := by omega
      have hix := fun w => index_set w s i hlt
      gi_wp2
      clear hix
      have hW := word_lt s i
      gi_loopw [4] (fun rv wr => ∃ (m r : Nat) (c : Nat), m ≤ 64 ∧ c = 64 * i + m ∧ r = hiN (word s i) m ∧ rv = .int .u64 (r : Nat) ∧ SetAt wr B s ∧ Tab wr ∧ J (itemsTo s c) wr) (fun rv _ => (intOf rv).toNat)
      case atStart => exact ⟨0, _, _, by omega, rfl, (hi_zero _).symm, rfl, HBi.out, HTi.out, HJi.out⟩
      case round =>
        clear HBi HTi HJi
        obtain ⟨m, r, c, hm, hc, hr, rfl, hb, hT, hJ⟩ := hrel
        have HBr := Lib.hid hb
        have HTr := Lib.hid hT
        have HJr := Lib.hid hJ
        have HC := Lib.hid hc
        clear hb hT hJ
        by_cases hr0 : r = 0
        · have z0 : ((r : Int) != 0) = false := by rw [hr0]; rfl
          have hend : itemsTo s (64 * (i + 1)) = itemsTo s c := by
            rw [hc, show 64 * (i + 1) = 64 * i + m + (64 - m) by omega]
            refine items_skip _ (fun j h1 h2 => ?_)
            have h3 := testBit_hi (word s i) m (j - 64 * i)
            rw [← hr, hr0, Nat.zero_testBit, decide_eq_true (by omega), Bool.true_and] at h3
            rw [show j = 64 * i + (j - 64 * i) by omega, hasB_testBit s i _ (by omega), ← h3]
          have HE := Lib.hid hend
          clear hend hr hr0 hc
          gi_wp2
          exact ⟨⟨i + 1, by omega, by go_num, HBr.out, HTr.out, by rw [HE.out]; exact HJr.out⟩, by simp [intOf]; omega⟩
        · have z0 : ((r : Int) != 0) = true := bne_iff_ne.2 (by omega)
          obtain ⟨t, q, h1, h2, h3, h4, h5, h6⟩ := hi_next (W := word s i) (m := m) hW (by rw [← hr]; exact hr0)
          rw [← hr] at h3
          have hrle := hi_le (word s i) m
          rw [← hr] at hrle
          have hand := and_pred t q
          rw [← h3] at hand
          have hg : bits .and .u64 (r : Int) (IntKind.u64.wrap ((r : Int) - 1)) = ((hiN (word s i) (t + 1) : Nat) : Int) := by
            rw [show IntKind.u64.wrap ((r : Int) - 1) = ((r - 1 : Nat) : Int) by rw [IntKind.wrap_u64]; omega, u64_and_nat _ _ (by omega) (by omega), hand, h6]
          have hlt2 : hiN (word s i) (t + 1) < r := by
            rw [← h6, h3]
            have := Nat.two_pow_pos t
            omega
          have hyes : hasB s (64 * i + t) = true := by rw [hasB_testBit s i t h2]; exact h4
          have hsk : itemsTo s (64 * i + t) = itemsTo s c := by
            rw [hc, show 64 * i + t = 64 * i + m + (t - m) by omega]
            refine items_skip _ (fun j a1 a2 => ?_)
            rw [show j = 64 * i + (j - 64 * i) by omega, hasB_testBit s i _ (by omega)]
            exact h5 _ (by omega) (by omega)
          have hnx : itemsTo s (64 * i + (t + 1)) = itemsTo s c ++ [64 * i + t] := by rw [← Nat.add_assoc, items_yes hyes, hsk]
          have hpre : itemsTo s c ++ [64 * i + t] <+: itemsTo s 256 := by rw [← hnx]; exact items_prefix s (by omega)
          have HG := Lib.hid hg
          have HNX := Lib.hid hnx
          have HPRE := Lib.hid hpre
          have HTZ := Lib.hid (fun w h => tz_p r t q h3 h2 (by omega) w h)
          have t0 : (0 : Int) ≤ (t : Int) := by omega
          have t1 : (t : Int) < 64 := by omega
          clear hg hnx hpre hr h1 h3 h4 h5 h6 hand hyes hsk hrle hr0 hc
          obtain ⟨fn, tmps, assign, body, hy, hR⟩ := hY _ _ _ HJr.out HPRE.out
          simp only [encB] at hy
          rw [show ((64 * i + t : Nat) : Int) = 64 * (i : Int) + (t : Int) by omega] at hy
          gi_wp2_with fail
          refine ⟨trivial, fun h => (by cases h), ?_⟩
          refine (callsIn_wide.2 (HTZ.out _ HTr.out)).mono ?_
          rintro e w1 ⟨rfl, rfl⟩
          gi_wp2_with fail
          refine ⟨fun h => (by cases h), hR.mono ?_⟩
          rintro e w2 ⟨bb, rfl, HB2⟩
          cases bb
          · gi_wp2
            refine bodyPost_ret (results_none rfl _ _ _) rfl ?_
            rcases HB2.out with ⟨h, _⟩ | ⟨_, hx⟩
            · cases h
            · exact ⟨⟨_, rfl⟩, .inr ⟨_, HPRE.out, hx⟩⟩
          · have hb2 : J (itemsTo s c ++ [64 * i + t]) w2 ∧ SetAt w2 B s ∧ Tab w2 := by
              rcases HB2.out with ⟨_, h1, _, h2, h3⟩ | ⟨h, _⟩
              · exact ⟨h1, h2.trans HBr.out, HTr.out.of_block h3⟩
              · cases h
            have HB3 := Lib.hid hb2
            clear hb2 hy hR
            gi_wp2
            rw [HG.out]
            exact ⟨⟨t + 1, _, _, by omega, rfl, rfl, rfl, HB3.out.2.1, HB3.out.2.2, by rw [HNX.out]; exact HB3.out.1⟩, by simp [intOf]; omega⟩
    · obtain rfl : i = 4 := by omega
      gi_wp2
      go_end0
      exact ⟨⟨_, rfl⟩, .inl HJi.out⟩

theorem members_iter (s : CSet) (B : Nat) (w : World) (hb : SetAt w B s) (hT : Tab w) :
    Iter Tryd.prog 60 #[.pointer (some ⟨B, 0, none⟩)] encB (fun A B => Below A.heap.size A B)
      (fun A A' => A.heap.size ≤ A'.heap.size ∧ A'.heap[B]? = A.heap[B]? ∧ A'.heap[0]? = A.heap[0]?) (itemsTo s 256) w := by
  intro n l J Jx W hW hJ hJx hY h0
  refine members_body s n l B J Jx (fun pre x W1 h1 h2 => (hY pre x W1 h1 h2).mono ?_) W (hb.below hW hb.lt) (hT.below hW) h0
  rintro e W' (⟨rfl, h1, h2⟩ | ⟨rfl, h1⟩)
  · exact ⟨true, rfl, Lib.hid (.inl ⟨rfl, h1, h2⟩)⟩
  · exact ⟨false, rfl, Lib.hid (.inr ⟨rfl, h1⟩)⟩
end Go.Proofs.YtooiegejchcbhaaDoor
