/- Rows of words, the program's layer 2: Check, Get, Clone, Set. -/
import Derived.Test.YtghdgenlkbocmaaLOfR
import Derived.Deep.QuietTactic
import Derived.BigQuiet
import Derived.Lib.SliceRun
namespace Go.Proofs.Ytghdgenlkbocmaa
open Go.RowKit

theorem checkB_p (k : Nat) (a : Option Addr) (cap : Nat) (w : World) (k1 : 1 ≤ k) (k4 : k ≤ 4) : Calls Try.prog 57 #[.slice a k cap] w fun e w' => e = .returned (.int .i64 0) ∧ w = w' := by
  have t0 : ((k : Int) == 0) = false := beq_eq_false_iff_ne.2 (by omega)
  have t1 : ¬ (8 : Int) < (k : Int) := by omega
  go_enter Try.func57, Try.ntmps57
  go_wp2_with fail
  go_ret
  exact ⟨rfl, rfl⟩
theorem and_pow {x r : Nat} (hx : x < 18446744073709551616) (hr : r < 64) : (bits .and .u64 (x : Int) (IntKind.u64.wrap (2 ^ r)) != 0) = decide (x / 2 ^ r % 2 = 1) := by
  rw [wrap_pow hr, u64_and_nat x (2 ^ r) hx (pow_lt64 hr), nat_bit, Bool.eq_iff_iff]
  have hp : 0 < 2 ^ r := Nat.two_pow_pos r
  have h2 : x / 2 ^ r % 2 = 0 ∨ x / 2 ^ r % 2 = 1 := by omega
  rcases h2 with h | h
  · simp [h]
  · rw [h, Nat.one_mul]
    simp only [bne_iff_ne, ne_eq, decide_eq_true_eq]
    exact ⟨fun _ => trivial, fun _ e => Nat.ne_of_gt hp (Int.ofNat_inj.1 e)⟩

set_option maxRecDepth 100000 in
set_option maxHeartbeats 2000000 in
theorem getB_p (k : Nat) (v : Value) (s : CSet) (X : Nat) (w : World) (hv : URow w v k s) (hX : X < 64 * k) (k1 : 1 ≤ k) (k4 : k ≤ 4) :
    Calls Try.prog 55 #[v, .int .i64 (X : Int)] w fun e w' => e = .returned (.tuple #[.bool (hasB s X), .int .i64 0]) ∧ Below w.heap.size w w' := by
  obtain ⟨a, cap, rfl⟩ := hv.form
  obtain ⟨q, hq⟩ : ∃ q, q = X / 64 := ⟨_, rfl⟩
  obtain ⟨r, hr⟩ : ∃ r, r = X % 64 := ⟨_, rfl⟩
  have hqk : q < k := by omega
  have hr64 : r < 64 := by omega
  obtain ⟨g, o, rfl, hg, hc⟩ := hv.at hqk
  have hh := hasB_word s X
  rw [← hq, ← hr] at hh
  have HH := Lib.hid hh
  have ws := word_lt s q
  have e3 : (X : Int) / 64 = (q : Int) := by omega
  have e4 : bits .and .i64 (X : Int) 63 = (r : Int) := by rw [i64_and63]; omega
  have q0 : (0 : Int) ≤ (q : Int) := by omega
  have q1 : (q : Int) < (k : Int) := by omega
  have x0 : (0 : Int) ≤ (X : Int) := by omega
  have x1 : ¬ (64 * (k : Int)) ≤ (X : Int) := by omega
  have x2 : ¬ (X : Int) < 0 := by omega
  have e5 : IntKind.i64.wrap (64 * (k : Int)) = 64 * (k : Int) := IntWalk.i64_in _ (by omega)
  have KC := Lib.hid (checkB_p k (some ⟨g, o, none⟩) cap w k1 k4)
  clear hh hq hr hv hX
  go_enter Try.func55, Try.ntmps55
  go_wp2_with fail
  refine KC.out.mono ?_
  rintro e w1 ⟨rfl, rfl⟩
  go_wp2_with fail
  go_quiet (fail)
  clear e3 e4 e5
  go_wp2_with fail
  go_ret2
  refine ⟨?_, below_drewN (Below.refl _ _) _⟩
  rw [HH.out]
  exact congrArg (fun x => Ending.returned (.tuple #[.bool x, .int .i64 0])) (and_pow ws hr64)

set_option maxRecDepth 100000 in
set_option maxHeartbeats 2000000 in
theorem cloneB_p (k : Nat) (v : Value) (s : CSet) (w : World) (hv : URow w v k s) (k1 : 1 ≤ k) (k4 : k ≤ 4) :
    Calls Try.prog 56 #[v] w fun e w' => ∃ v', e = .returned v' ∧ w'.ownsRow w.heap.size 48 1 v' k (rcells s k) ∧ Below w.heap.size w w' := by
  obtain ⟨ti, hi, hz0, hz1, hz2⟩ := info_parts infoU64
  have o0 : (w.alloc (.cells #[] 48)).ownsRow w.heap.size 48 1 (.slice (some ⟨w.heap.size, 0, none⟩) 0 0) 0 [] := World.ownsRow_lit w #[] 0 (Nat.le_refl _) (by decide) rfl
  have al : Below w.heap.size w (w.alloc (.cells #[] 48)) := (Below.refl _ _).alloc (Nat.le_refl _) _
  obtain ⟨va, wa, hra, hoa, hga⟩ := append_row (P := Try.prog) w.heap.size 32 32 48 Try.underlying32 hi hz0 hz1 hz2 rfl (by decide) o0 (Row.below hv al) (rcells_one _ _) (by unfold maxLen; omega) (by omega) (by simp)
  have ala : Below w.heap.size w wa := al.grown hga (by simp) (fun k e => by simp [Value.ownBlock] at e; omega)
  rw [Nat.zero_add, List.nil_append] at hoa
  have HRA := Lib.hid hra
  have HA := Lib.hid ala
  have HO := Lib.hid hoa
  obtain ⟨a, cp, rfl⟩ := hv.form
  obtain ⟨g, o, rfl, _, _⟩ := hv.at (i := 0) (by omega)
  have heq := fun w => Lib.run_eql_slice_nil (P := Try.prog) w 32 48 (some ⟨g, o, none⟩) k cp 0 0 Try.underlying32
  clear o0 al hoa hga hra ala hv
  go_enter Try.func56, Try.ntmps56
  go_wp2_with (at_builtin; refine wpList_append_run rfl rfl rfl rfl HRA.out ?_)
  go_ret
  exact ⟨_, rfl, HO.out, HA.out⟩

theorem word_xor (s t : CSet) (i : Nat) : word (s ^^^ t) i = word s i ^^^ word t i := by
  symm; apply eq_word
  · exact Nat.xor_lt_two_pow (word_lt s i) (word_lt t i)
  · intro j hj; rw [Nat.testBit_xor, word_testBit s i j hj, word_testBit t i j hj, BitVec.getLsbD_xor]
def setBit (s : CSet) (X : Nat) (b : Bool) : CSet := if hasB s X = b then s else s ^^^ bit X

set_option maxRecDepth 100000 in
set_option maxHeartbeats 2000000 in
theorem setB_p (k : Nat) (v : Value) (s : CSet) (X : Nat) (b : Bool) (w : World) (hv : URow w v k s) (hX : X < 64 * k) (k1 : 1 ≤ k) (k4 : k ≤ 4) :
    Calls Try.prog 30 #[v, .int .i64 (X : Int), .bool b] w fun e w' => ∃ v', e = .returned (.tuple #[v', .int .i64 0]) ∧ URow w' v' k (setBit s X b) ∧ Below w.heap.size w w' := by
  have KG := Lib.hid (getB_p k v s X w hv hX k1 k4)
  have KC := Lib.hid (fun w h => cloneB_p k v s w h k1 k4)
  have HV := Lib.hid hv
  obtain ⟨q, hq⟩ : ∃ q, q = X / 64 := ⟨_, rfl⟩
  obtain ⟨r, hr⟩ : ∃ r, r = X % 64 := ⟨_, rfl⟩
  have hqk : q < k := by omega
  have hr64 : r < 64 := by omega
  have ws := word_lt s q
  have hwd : ∀ j, j < k → word (s ^^^ bit X) j = if j = q then word (s ^^^ bit X) q else word s j := fun j hj => by
    split
    · rename_i e; rw [e]
    · rename_i e; rw [word_xor, word_bit X j (by omega), if_neg (by omega), Nat.xor_zero]
  have hwq : bits .xor .u64 (word s q : Int) (IntKind.u64.wrap (2 ^ r)) = (word (s ^^^ bit X) q : Int) := by
    rw [wrap_pow hr64, u64_xor_nat _ _ ws (pow_lt64 hr64), word_xor, word_bit X q (by omega), if_pos hq, hr]
  have HQ := Lib.hid hq
  have HR := Lib.hid hr
  have HWD := Lib.hid hwd
  have HWQ := Lib.hid hwq
  have x0 : (0 : Int) ≤ (X : Int) := by omega
  obtain ⟨a, cap, rfl⟩ := hv.form
  obtain ⟨S, hS⟩ : ∃ S, S = setBit s X b := ⟨_, rfl⟩
  rw [← hS]
  unfold setBit at hS
  by_cases hb : hasB s X = b
  · rw [if_pos hb] at hS
    subst hS
    rw [hb] at KG
    have hbb : (b != b) = false := by cases b <;> rfl
    clear hq hr hwd hwq hv hX hb
    go_enter Try.func30, Try.ntmps30
    go_wp2_with fail
    refine KG.out.mono ?_
    rintro e w1 ⟨rfl, hb⟩
    have HB1 := Lib.hid hb
    clear hb
    go_wp2_with fail
    refine (KC.out _ (HV.out.below HB1.out)).mono ?_
    rintro e w2 ⟨v2, rfl, ho, hb⟩
    have HO := Lib.hid ho
    have HB2 := Lib.hid (next HB1.out hb)
    clear ho hb
    go_wp2_with fail
    go_ret2
    exact ⟨_, rfl, Row.of_owns HO.out, HB2.out⟩
  · rw [if_neg hb] at hS
    subst hS
    have hz : hasB s X = !b := by clear KG KC HV HQ HR HWD HWQ hwd hwq; revert hb; cases hasB s X <;> cases b <;> simp
    rw [hz] at KG
    cases b
    all_goals
      simp only [Bool.not_true, Bool.not_false] at KG
      clear hq hr hwd hwq hv hX hb hz
      go_enter Try.func30, Try.ntmps30
      go_wp2_with fail
      refine KG.out.mono ?_
      rintro e w1 ⟨rfl, hb⟩
      have HB1 := Lib.hid hb
      clear hb
      go_wp2_with fail
      refine (KC.out _ (HV.out.below HB1.out)).mono ?_
      rintro e w2 ⟨v2, rfl, ho, hb⟩
      obtain ⟨g, cp, rfl, hg0, hg1, hcell, hput⟩ := owned_row ho (by omega)
      obtain ⟨cq, fq⟩ := hcell q hqk
      have HP := Lib.hid hput
      have HB2 := Lib.hid (next HB1.out hb)
      have HG0 := Lib.hid (show w.heap.size ≤ g by have := HB1.out.size; omega)
      have q0 : (0 : Int) ≤ (q : Int) := by omega
      have q1 : (q : Int) < (k : Int) := by omega
      clear ho hb hcell hput hg0
      go_wp2_with fail
      have e3 : (X : Int) / 64 = (q : Int) := by have := HQ.out; omega
      have e4 : bits .and .i64 (X : Int) 63 = (r : Int) := by rw [i64_and63]; have := HR.out; omega
      go_region
      rw [HWQ.out]
      clear e3 e4
      go_wp2_with fail
      go_ret2
      have hU := HP.out (s ^^^ bit X) q hqk HWD.out
      refine ⟨_, rfl, ?_, ?_⟩
      · exact hU.below (Below.drew (Below.refl _ _))
      · exact (HB2.out.setCell (p := ⟨g, q, none⟩) HG0.out _).drew
end Go.Proofs.Ytghdgenlkbocmaa
