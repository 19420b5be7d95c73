/- Rows of words, the reference of layer 2: get, with, Of. -/
import Derived.Test.YtghdgenlkbocmaaLBits
namespace Go.Proofs.Ytghdgenlkbocmaa
open Go.RowKit

theorem and_num {x : Nat} (h : x < 18446744073709551616) (r : Nat) : (bits .and .u64 ((x : Int) / 2 ^ r) 1 == 1) = decide (x / 2 ^ r % 2 = 1) := by
  have e : ((x : Int) / 2 ^ r) = ((x / 2 ^ r : Nat) : Int) := by rw [Int.natCast_ediv]; norm_cast
  rw [e]
  have := u64_and_nat (x / 2 ^ r) 1 (Nat.lt_of_le_of_lt (Nat.div_le_self _ _) h) (by decide)
  rw [Nat.and_one_is_mod] at this
  rw [show (1 : Int) = ((1 : Nat) : Int) from rfl, this, Bool.eq_iff_iff]
  simp
  omega
theorem xor_wrap {x r : Nat} (hx : x < 18446744073709551616) (hr : r < 64) (hb : ¬ x / 2 ^ r % 2 = 1) : bits .xor .u64 (x : Int) (IntKind.u64.wrap (2 ^ r)) = ((x ||| 2 ^ r : Nat) : Int) := by
  rw [wrap_pow hr, u64_xor_nat x (2 ^ r) hx (pow_lt64 hr)]
  congr 1
  apply Nat.eq_of_testBit_eq
  intro j
  rw [Nat.testBit_xor, Nat.testBit_or, Nat.testBit_two_pow]
  by_cases e : r = j
  · subst e
    have : x.testBit r = false := by rw [Nat.testBit_eq_decide_div_mod_eq]; simpa using hb
    simp [this]
  · simp [e]
theorem get_r (k : Nat) (v : Value) (s : CSet) (X : Nat) (w : World) (hv : URow w v k s) (hX : X < 64 * k) (k4 : k ≤ 4) :
    Calls Try.prog 67 #[v, .int .i64 (X : Int)] w fun e w' => e = .returned (.bool (hasB s X)) ∧ w = w' := by
  obtain ⟨a, cap, rfl⟩ := hv.form
  obtain ⟨q, hq⟩ : ∃ q, q = X / 64 := ⟨_, rfl⟩
  obtain ⟨r, hr⟩ : ∃ r, r = X % 64 := ⟨_, rfl⟩
  have hqk : q < k := by omega
  have hr64 : r < 64 := by omega
  obtain ⟨g, o, rfl, hg, hc⟩ := hv.at hqk
  have hh := hasB_word s X
  rw [← hq, ← hr] at hh
  have HH := Lib.hid hh
  have ws := word_lt s q
  have e3 : (X : Int) / 64 = (q : Int) := by omega
  have e4 : (X : Int) % 64 = (r : Int) := by omega
  have q0 : (0 : Int) ≤ (q : Int) := by omega
  have q1 : (q : Int) < (k : Int) := by omega
  clear hh hq hr hv hX
  go_enter Try.func67, Try.ntmps67
  go_wp2_with fail
  go_ret
  refine ⟨?_, rfl⟩
  rw [HH.out]
  exact congrArg (fun x => Ending.returned (.bool x)) (and_num ws r)

theorem infoU64 : (Try.prog.info? 48).map (fun i => (i.zero, i.size, i.bytes)) = some (some (.int .u64 0), 1, 8) := by kernel_rfl
/-- a row that the call owns, as a block -/
theorem owned_row {w : World} {base : Nat} {e : TypeId} {v : Value} {k : Nat} {s : CSet} (h : w.ownsRow base e 1 v k (rcells s k)) (hk : 0 < k) :
    ∃ g cap, v = .slice (some ⟨g, 0, none⟩) k cap ∧ base ≤ g ∧ g < w.heap.size ∧ (∀ q, q < k → w.cell? ⟨g, q, none⟩ = some (.int .u64 (word s q : Int)) ∧ w.frozen? ⟨g, q, none⟩ = false) ∧
      ∀ (t : CSet) (q : Nat), q < k → (∀ i, i < k → word t i = if i = q then word t q else word s i) → URow (w.setCell ⟨g, q, none⟩ (.int .u64 (word t q : Int))) v k t := by
  obtain ⟨h1, h2⟩ := h
  rcases h2 with ⟨_, h0⟩ | ⟨g, cap, cur, rfl, hg, hh, hn, hm, hs, hx⟩
  · omega
  · have hc : ∀ q, q < k → cur[q]? = some (.int .u64 (word s q : Int)) := fun q hq => by
      have := rcells_at s hq
      rw [← hx, List.getElem?_take_of_lt (by omega), Array.getElem?_toList] at this
      exact this
    refine ⟨g, cap, rfl, hg, (Array.getElem?_eq_some_iff.1 hh).1, fun q hq => ?_, fun t q hq ht => ?_⟩
    · have := hc q hq
      simp [World.cell?, World.frozen?, hh, this]
    · refine ⟨by rw [length_rcells, Nat.mul_one], Nat.le_trans hn hm, _, cap, rfl, (by intro e; cases e), .inr ⟨g, 0, rfl, fun j hj => ?_⟩⟩
      have hset := heap_setCell_at (.int .u64 (word t q : Int)) (o := q) hh
      have hjk : j < k := by omega
      have hcs : cur.size = cap := by omega
      rw [Nat.zero_add, rcells_at t hjk]
      simp only [World.cell?, hset, Option.isSome_none, Bool.false_eq_true, if_false]
      rw [Array.getElem?_setIfInBounds]
      have := ht j hjk
      split
      · rename_i e
        subst e
        rw [if_pos (by omega)]
      · rename_i e
        rw [if_neg (fun h => e h.symm)] at this
        rw [hc j hjk, this]

set_option maxRecDepth 100000 in
set_option maxHeartbeats 2000000 in
theorem with_r (k : Nat) (v : Value) (s : CSet) (X : Nat) (w : World) (hv : URow w v k s) (hX : X < 64 * k) (k4 : k ≤ 4) :
    Calls Try.prog 65 #[v, .int .i64 (X : Int), .bool true] w fun e w' => ∃ v', e = .returned v' ∧ URow w' v' k (s ||| bit X) ∧ Below w.heap.size w w' := by
  obtain ⟨ti, hi, hz0, hz1, hz2⟩ := info_parts infoU64
  have hk : 0 < k := by omega
  have HV := Lib.hid hv
  have o0 : (w.alloc (.cells #[] 48)).ownsRow w.heap.size 48 1 (.slice (some ⟨w.heap.size, 0, none⟩) 0 0) 0 [] := World.ownsRow_lit w #[] 0 (Nat.le_refl _) (by decide) rfl
  have al : Below w.heap.size w (w.alloc (.cells #[] 48)) := (Below.refl _ _).alloc (Nat.le_refl _) _
  obtain ⟨va, wa, hra, hoa, hga⟩ := append_row (P := Try.prog) w.heap.size 32 32 48 Try.underlying32 hi hz0 hz1 hz2 rfl (by decide) o0 (Row.below hv al) (rcells_one _ _) (by unfold maxLen; omega) (by omega) (by simp)
  have ala : Below w.heap.size w wa := al.grown hga (by simp) (fun k e => by simp [Value.ownBlock] at e; omega)
  rw [Nat.zero_add, List.nil_append] at hoa
  have G := Lib.hid (get_r k v s X w hv hX k4)
  have HRA := Lib.hid hra
  have HA := Lib.hid ala
  have G2 := Lib.hid (get_r k v s X wa (hv.below ala) hX k4)
  obtain ⟨g, cap, rfl, hgb, hgs, hcell, hput⟩ := owned_row hoa hk
  obtain ⟨a, cp, rfl⟩ := hv.form
  obtain ⟨q, hq⟩ : ∃ q, q = X / 64 := ⟨_, rfl⟩
  obtain ⟨r, hr⟩ : ∃ r, r = X % 64 := ⟨_, rfl⟩
  have hqk : q < k := by omega
  have hr64 : r < 64 := by omega
  obtain ⟨cq, fq⟩ := hcell q hqk
  have ws := word_lt s q
  have e3 : (X : Int) / 64 = (q : Int) := by omega
  have e4 : (X : Int) % 64 = (r : Int) := by omega
  have q0 : (0 : Int) ≤ (q : Int) := by omega
  have q1 : (q : Int) < (k : Int) := by omega
  have HP := Lib.hid hput
  have HO := Lib.hid (show URow wa (.slice (some ⟨g, 0, none⟩) k cap) k s from Row.of_owns hoa)
  have HQ := Lib.hid hq
  have HR := Lib.hid hr
  have HH := Lib.hid (hasB_word s X)
  clear o0 al hoa hga hra ala hcell hput hq hr hv
  cases hb : hasB s X
  · rw [hb] at G2
    have hbn : ¬ word s q / 2 ^ r % 2 = 1 := by
      have := HH.out
      rw [hb, ← HQ.out, ← HR.out] at this
      simpa using this.symm
    have hwd : ∀ j, j < k → word (s ||| bit X) j = if j = q then word (s ||| bit X) q else word s j := fun j hj => by
      rw [word_add s X j (by omega), word_add s X q (by omega), ← HQ.out]
      split
      · rename_i e; rw [if_pos rfl, e]
      · rfl
    have HWD := Lib.hid hwd
    have hwq : word (s ||| bit X) q = word s q ||| 2 ^ r := by rw [word_add s X q (by omega), ← HQ.out, ← HR.out, if_pos rfl]
    have HX := Lib.hid (xor_wrap ws hr64 hbn)
    have HWQ := Lib.hid hwq
    clear hb hbn hwd hwq hX
    go_enter Try.func65, Try.ntmps65
    go_wp2_with (at_builtin; refine wpList_append_run rfl rfl rfl rfl HRA.out ?_)
    refine G2.out.mono ?_
    rintro e w' ⟨rfl, rfl⟩
    go_wp2_with fail
    rw [HX.out, ← HWQ.out]
    go_ret
    exact ⟨_, rfl, HP.out _ q hqk HWD.out, HA.out.setCell (by simpa using hgb) _⟩
  · rw [hb] at G2
    have hor : s ||| bit X = s := by
      apply set_ext; intro c hc
      rw [hasB_or, hasB_bit X c (by omega)]
      by_cases e : X = c
      · subst e; simp [hb]
      · simp [e]
    rw [hor]
    clear hb hX hor
    go_enter Try.func65, Try.ntmps65
    go_wp2_with (at_builtin; refine wpList_append_run rfl rfl rfl rfl HRA.out ?_)
    refine G2.out.mono ?_
    rintro e w' ⟨rfl, rfl⟩
    go_wp2_with fail
    go_ret
    exact ⟨_, rfl, HO.out, HA.out⟩

set_option maxRecDepth 100000 in
set_option maxHeartbeats 2000000 in
theorem of_r2 (k : Nat) (v : Value) (l : List Int) (w : World) (hv : Ints w v l) (k1 : 1 ≤ k) (k4 : k ≤ 4) (hl : Within k l) : Calls Try.prog 46 #[.int .i64 (k : Nat), v] w (OfP k l w) := by
  obtain ⟨a, cap, rfl⟩ := hv.form
  have hm := Row.max hv
  have HV := Lib.hid hv
  have HL := Lib.hid hl
  have j1 : (1 : Int) ≤ (k : Int) := by omega
  have j4 : (k : Int) ≤ 4 := by omega
  have hmk := fun w => run_make k k1 k4 w
  have t1 : decide ((k : Int) < 1) = false := by simp; omega
  have t8 : decide ((8 : Int) < (k : Int)) = false := by simp; omega
  have HB0 := Lib.hid ((Below.refl _ w).alloc (Nat.le_refl _) (.cells (rcells 0#256 k).toArray 48))
  have HU0 := Lib.hid (show UAt (w.alloc (.cells (rcells 0#256 k).toArray 48)) w.heap.size k 0#256 from heap_alloc_new w _)
  clear hv hl
  go_enter Try.func46, Try.ntmps46
  go_wp2_with fail
  clear t1 t8 hmk
  go_loopw [6, 7] (fun ov iv wr => ∃ (i : Nat) (o : Value), o = ov ∧ i ≤ l.length ∧ iv = .int .i64 (i : Nat) ∧ URow wr o k (ofI (l.take i)) ∧ Below w.heap.size w wr) (fun _ iv _ => l.length - (intOf iv).toNat)
  case atStart => exact ⟨0, _, rfl, by omega, rfl, HU0.out.row (by omega), HB0.out⟩
  case round =>
    obtain ⟨i, ov, rfl, hi, rfl, hU, hB⟩ := hrel
    have HU := Lib.hid hU
    have HB := Lib.hid hB
    have i0 : (0 : Int) ≤ (i : Int) := by omega
    by_cases hlt : i < l.length
    · have i1 : (i : Int) < (l.length : Int) := by omega
      obtain ⟨g, o, rfl, hg, hc⟩ := HV.out.at hlt
      have hc' := (hB.cell (p := ⟨g, o + i, none⟩) hg).trans hc
      obtain ⟨x0, x1⟩ := HL.out i hlt
      have HT := Lib.hid (ofI_take hlt)
      generalize l[i] = x at *
      obtain ⟨X, rfl⟩ := Int.eq_ofNat_of_zero_le x0
      generalize ofI (l.take i) = s at *
      have HX := Lib.hid (show X < 64 * k by omega)
      clear hU hB hc
      go_wp2_with fail
      refine (with_r k _ s X _ HU.out HX.out k4).mono ?_
      rintro e w1 ⟨v1, rfl, hU1, hb1⟩
      have HU1 := Lib.hid hU1
      have HB1 := Lib.hid (next HB.out hb1)
      clear hU1 hb1
      go_wp2_with fail
      exact ⟨⟨i + 1, _, rfl, by omega, by go_num, by rw [HT.out, Int.toNat_natCast]; exact HU1.out, HB1.out⟩, by simp [intOf]; omega⟩
    · obtain rfl : i = l.length := by omega
      have i1 : ¬ (l.length : Int) < (l.length : Int) := by omega
      rw [List.take_length] at HU
      clear hU hB hlt
      go_wp2_with fail
      go_ret2
      exact show OfP k l w _ _ from ⟨_, rfl, HU.out, HB.out⟩
end Go.Proofs.Ytghdgenlkbocmaa
