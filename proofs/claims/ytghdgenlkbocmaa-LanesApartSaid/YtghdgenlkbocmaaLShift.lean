/- Rows of words, the program's layer 2: Shift by one, with a bit 1. -/
import Derived.Test.YtghdgenlkbocmaaLBoth
import Derived.Maps.AppendAt
namespace Go.Proofs.Ytghdgenlkbocmaa
open Go.RowKit

def upS (s : CSet) : CSet := s <<< 1 ||| bit 0
def crN (s : CSet) (i : Nat) : Nat := if i = 0 then 1 else word s (i - 1) / 9223372036854775808
theorem crN_lt (s : CSet) (i : Nat) : crN s i < 2 := by
  unfold crN
  split
  · omega
  · have := word_lt s (i - 1); omega
theorem word_up (s : CSet) (i : Nat) (hi : i < 4) : word (upS s) i = (word s i * 2 % 18446744073709551616) ||| crN s i := by
  symm; apply eq_word
  · refine Nat.or_lt_two_pow (n := 64) ?_ ?_
    · exact Nat.mod_lt _ (by decide)
    · have := crN_lt s i; omega
  · intro j hj
    have e64 : (18446744073709551616 : Nat) = 2 ^ 64 := rfl
    unfold upS bit
    rw [Nat.testBit_or, e64, Nat.testBit_mod_two_pow, BitVec.getLsbD_or, BitVec.getLsbD_shiftLeft, BitVec.getLsbD_twoPow, show word s i * 2 = word s i <<< 1 by rw [Nat.shiftLeft_eq], Nat.testBit_shiftLeft]
    have hc : (crN s i).testBit j = (decide (j = 0) && (crN s i).testBit 0) := by
      by_cases h : j = 0
      · subst h; simp
      · have h1 := crN_lt s i
        have h2 : (2 : Nat) ^ 1 ≤ 2 ^ j := Nat.pow_le_pow_right (by omega) (by omega)
        rw [Nat.testBit_lt_two_pow (by omega), decide_eq_false h, Bool.false_and]
    have h0 : (crN s i).testBit 0 = (if i = 0 then true else s.getLsbD (64 * i - 1)) := by
      unfold crN
      split
      · rfl
      · have h1 := word_testBit s (i - 1) 63 (by omega)
        rw [show (9223372036854775808 : Nat) = 2 ^ 63 from rfl, Nat.testBit_div_two_pow, Nat.zero_add, h1]
        congr 1
        omega
    rw [hc, h0]
    by_cases hj0 : j = 0
    · subst hj0
      by_cases hi0 : i = 0
      · subst hi0; simp
      · have : 64 * i < 256 := by omega
        have h3 : ¬ 64 * i < 1 := by omega
        have h4 : ¬ 0 = 64 * i := by omega
        have h6 : ¬ i * 64 = 0 := by omega
        simp [hi0, this, h4]
        intro _
        omega
    · have h1 : 64 * i + j < 256 := by omega
      have h2 : ¬ 64 * i + j < 1 := by omega
      have h3 : ¬ 0 = 64 * i + j := by omega
      have h4 := word_testBit s i (j - 1) (by omega)
      rw [h4, show 64 * i + j - 1 = 64 * i + (j - 1) by omega]
      have h5 : 1 ≤ j := by omega
      simp [hj, hj0, h1, h3, h5]
theorem rcells_succ (t : CSet) (i : Nat) : rcells t (i + 1) = rcells t i ++ [.int .u64 (word t i : Int)] := by
  unfold rcells
  rw [List.range_succ, List.map_append]
  rfl
theorem up_val (s : CSet) (i : Nat) (hi : i < 4) : bits .or .u64 (IntKind.u64.wrap ((word s i : Int) * 2)) (crN s i : Int) = (word (upS s) i : Int) := by
  have h1 := crN_lt s i
  have h2 := word_lt s i
  rw [IntKind.wrap_u64, show ((word s i : Int) * 2 % 18446744073709551616) = ((word s i * 2 % 18446744073709551616 : Nat) : Int) by omega, u64_or_nat _ _ (by omega) (by omega), word_up s i hi]

def ShiftP (k : Nat) (s : CSet) (w : World) (e : Ending) (w' : World) : Prop := ∃ r b, e = .returned (.tuple #[r, .bool b, .int .i64 0]) ∧ URow w' r k (upS s) ∧ Below w.heap.size w w'
theorem bit1_p (w : World) : Calls Try.prog 62 #[.bool true] w fun e w' => e = .returned (.int .u64 1) ∧ w = w' := by
  go_enter Try.func62, Try.ntmps62
  go_wp2_with fail
  go_ret
  exact ⟨rfl, rfl⟩

set_option maxRecDepth 100000 in
set_option maxHeartbeats 4000000 in
theorem shift_p (k : Nat) (v : Value) (s : CSet) (w : World) (hv : URow w v k s) (k1 : 1 ≤ k) (k4 : k ≤ 4) :
    Calls Try.prog 34 #[v, .bool true] w (ShiftP k s w) := by
  obtain ⟨a, cap, rfl⟩ := hv.form
  have HV := Lib.hid hv
  have HC := Lib.hid (checkB_p k a cap w k1 k4)
  obtain ⟨ti, hi, hz0, hz1, hz2⟩ := info_parts infoU64
  clear hv
  go_enter Try.func34, Try.ntmps34
  go_wp2_with fail
  refine HC.out.mono ?_
  rintro e w1 ⟨rfl, rfl⟩
  clear HC
  go_wp2_with fail
  refine (bit1_p _).mono ?_
  rintro e w1 ⟨rfl, rfl⟩
  go_wp2_with fail
  go_loopw [4, 8, 19] (fun uv cv iv wr => ∃ (i : Nat) (u : Value), u = uv ∧ i ≤ k ∧ iv = .int .i64 (i : Nat) ∧ cv = .int .u64 (crN s i : Nat) ∧ wr.ownsRow w.heap.size 48 1 u i (rcells (upS s) i) ∧ Below w.heap.size w wr) (fun _ _ iv _ => k - (intOf iv).toNat)
  case atStart => exact ⟨0, _, rfl, by omega, rfl, rfl, World.ownsRow_nil _ _ _ _, Below.refl _ _⟩
  case round =>
    obtain ⟨i, u, rfl, hi', rfl, rfl, hR, hB⟩ := hrel
    have HR := Lib.hid hR
    have HB := Lib.hid hB
    have i0 : (0 : Int) ≤ (i : Int) := by omega
    by_cases hlt : i < k
    · obtain ⟨g1, o1, rfl, hg1, hc1⟩ := HV.out.at hlt
      have hc1' := (hB.cell (p := ⟨g1, o1 + i, none⟩) hg1).trans hc1
      have i1 : (i : Int) < (k : Int) := by omega
      have HUP := Lib.hid (up_val s i (by omega))
      have HRS := Lib.hid (rcells_succ (upS s) i)
      have HCR := Lib.hid (show crN s (i + 1) = word s i / 9223372036854775808 by unfold crN; rw [if_neg (by omega)]; rfl)
      have hbz := hB.size
      have hw := word_lt s i
      have hw0 : (0 : Int) ≤ (word s i : Int) := by omega
      generalize hcn : crN s i = c at *
      clear hcn hR hB hc1
      go_wp2_with (at_builtin; rw [HUP.out]; refine wpList_append_own _ rfl _ _ 32 rfl w.heap.size 48 ti _ 1 8 Try.underlying32 hi hz0 hz1 hz2 rfl (by decide) _ _ _ rfl (HR.out.alloc _) ⟨wr.heap.size, 0, none⟩ 1 1 [.int .u64 (word (upS s) i : Int)] rfl rfl (cells_new _ _ _) (by simp [Value.oneCell']) (by unfold maxLen; omega) (by omega) (by simp; omega) ?_; intro v9 w9 hown9 hgrow9 _; have HO9 := Lib.hid hown9; have HB9 := Lib.hid ((HB.out.alloc hbz (.cells #[.int .u64 (word (upS s) i : Int)] 48)).grown hgrow9 (by simp; omega) (fun q e => (HR.out.lt q e).1)); have hc9 := (HB9.out.cell (p := ⟨g1, o1 + i, none⟩) hg1).trans ((HV.out.at hlt).elim fun _ h => h.elim fun _ h => by obtain ⟨e, _, h⟩ := h; cases e; exact h); clear hown9 hgrow9)
      rw [show ((word s i : Int) / 9223372036854775808) = ((crN s (i + 1) : Nat) : Int) by rw [HCR.out]; omega]
      exact ⟨⟨i + 1, _, rfl, by omega, by go_num, rfl, by rw [HRS.out]; exact HO9.out, HB9.out⟩, by simp [intOf]; omega⟩
    · obtain rfl : i = k := by omega
      have i1 : ¬ (i : Int) < (i : Int) := by omega
      clear hR hB
      generalize crN s i = c at *
      go_wp2_with fail
      go_ret3
      exact show ShiftP i s w _ _ from ⟨_, _, rfl, Row.of_owns HR.out, HB.out⟩
end Go.Proofs.Ytghdgenlkbocmaa
