/- Contracts of the numeric functions of layer 27 (Check, length, Many, Padding, Real): program and reference compute the same plain Lean functions. -/
import Derived.Test.YtfmngphmmhjicaaDoorProg
import Derived.WalkKit
import Derived.Lib.Hide
namespace Go.Proofs.YtfmngphmmhjicaaDoor
open Go.RowKit

/-- is the size of a block one -/
def okB (b : Int) : Bool := b == 1 || b == 2 || b == 4 || b == 8 || b == 16
def chk (b : Int) : Int := if okB b then 0 else 7

theorem okB_cases {b : Int} (h : okB b = true) : b = 1 ∨ b = 2 ∨ b = 4 ∨ b = 8 ∨ b = 16 := by
  simp [okB] at h; omega
theorem okB_not {b : Int} (h : okB b = false) : b ≠ 1 ∧ b ≠ 2 ∧ b ≠ 4 ∧ b ≠ 8 ∧ b ≠ 16 := by
  simp [okB] at h; omega

theorem check_p (b : Int) (w : World) :
    Calls Tryd.prog 17 #[.int .i64 b] w fun e w' => e = .returned (.int .i64 (chk b)) ∧ w = w' := by
  by_cases h1 : b < 1
  · have hk : chk b = 7 := by simp [chk, okB]; omega
    rw [hk]; clear hk
    go_enter Tryd.func17, Tryd.ntmps17
    go_wp2
    go_ret
    exact ⟨rfl, rfl⟩
  · by_cases h2 : 16 < b
    · have hk : chk b = 7 := by simp [chk, okB]; omega
      rw [hk]; clear hk
      go_enter Tryd.func17, Tryd.ntmps17
      go_wp2
      go_ret
      exact ⟨rfl, rfl⟩
    · rcases (show b = 1 ∨ b = 2 ∨ b = 3 ∨ b = 4 ∨ b = 5 ∨ b = 6 ∨ b = 7 ∨ b = 8 ∨ b = 9 ∨ b = 10 ∨ b = 11 ∨ b = 12 ∨ b = 13 ∨ b = 14 ∨ b = 15 ∨ b = 16 by omega) with rfl | rfl | rfl | rfl | rfl | rfl | rfl | rfl | rfl | rfl | rfl | rfl | rfl | rfl | rfl | rfl
      all_goals
        clear h1 h2
        go_enter Tryd.func17, Tryd.ntmps17
        go_wp2
        go_ret
        exact ⟨rfl, rfl⟩

theorem check_r (b : Int) (w : World) :
    Calls Tryd.prog 21 #[.int .i64 b] w fun e w' => e = .returned (.int .i64 (chk b)) ∧ w = w' := by
  by_cases h : okB b = true
  · rcases okB_cases h with rfl | rfl | rfl | rfl | rfl
    all_goals
      clear h
      go_enter Tryd.func21, Tryd.ntmps21
      go_wp2
      go_ret
      exact ⟨rfl, rfl⟩
  · have h' : okB b = false := by simpa using h
    have hk : chk b = 7 := by simp [chk, h']
    obtain ⟨h1, h2, h3, h4, h5⟩ := okB_not h'
    have e1 : (b != 1) = true := bne_iff_ne.2 h1
    have e2 : (b != 2) = true := bne_iff_ne.2 h2
    have e3 : (b != 4) = true := bne_iff_ne.2 h3
    have e4 : (b != 8) = true := bne_iff_ne.2 h4
    have e5 : (b != 16) = true := bne_iff_ne.2 h5
    rw [hk]; clear hk h h' h1 h2 h3 h4 h5
    go_enter Tryd.func21, Tryd.ntmps21
    go_wp2
    go_ret
    exact ⟨rfl, rfl⟩


/-- the error of a size, and of a length -/
def lenE (n b : Int) : Int := if okB b then (if n < 0 then 7 else if 1000 < n then 3 else 0) else 7

theorem lenE_bad {n b : Int} (h : okB b = false) : lenE n b = 7 := by simp [lenE, h]
theorem lenE_neg {n b : Int} (h : n < 0) : lenE n b = 7 := by unfold lenE; split <;> simp [h]
theorem lenE_long {n b : Int} (h : okB b = true) (h2 : 1000 < n) : lenE n b = 3 := by unfold lenE; rw [if_pos h, if_neg (by omega), if_pos h2]
theorem lenE_ok {n b : Int} (h : okB b = true) (h1 : 0 ≤ n) (h2 : n ≤ 1000) : lenE n b = 0 := by unfold lenE; rw [if_pos h, if_neg (by omega), if_neg (by omega)]
theorem lenE_zero {n b : Int} (h : lenE n b = 0) : okB b = true ∧ 0 ≤ n ∧ n ≤ 1000 := by
  unfold lenE at h
  split at h
  · split at h
    · omega
    · split at h
      · omega
      · exact ⟨by assumption, by omega, by omega⟩
  · omega

theorem length_p (n b : Int) (w : World) :
    Calls Tryd.prog 15 #[.int .i64 n, .int .i64 b] w fun e w' => e = .returned (.int .i64 (lenE n b)) ∧ w = w' := by
  by_cases h : okB b = true
  · have hk : chk b = 0 := by simp [chk, h]
    have hc := fun w => hk ▸ check_p b w
    by_cases h1 : n < 0
    · rw [lenE_neg h1]; clear hk h
      go_enter Tryd.func15, Tryd.ntmps15
      go_wp2_with (go_at_call 17; refine (hc _).mono ?_; rintro e w' ⟨rfl, rfl⟩)
      go_ret
      exact ⟨rfl, rfl⟩
    · by_cases h2 : 1000 < n
      · rw [lenE_long h h2]; clear hk h
        go_enter Tryd.func15, Tryd.ntmps15
        go_wp2_with (go_at_call 17; refine (hc _).mono ?_; rintro e w' ⟨rfl, rfl⟩)
        go_ret
        exact ⟨rfl, rfl⟩
      · rw [lenE_ok h (by omega) (by omega)]; clear hk h
        go_enter Tryd.func15, Tryd.ntmps15
        go_wp2_with (go_at_call 17; refine (hc _).mono ?_; rintro e w' ⟨rfl, rfl⟩)
        go_ret
        exact ⟨rfl, rfl⟩
  · have h' : okB b = false := by simpa using h
    have hk : chk b = 7 := by simp [chk, h']
    have hc := fun w => hk ▸ check_p b w
    rw [lenE_bad h']; clear hk h h'
    go_enter Tryd.func15, Tryd.ntmps15
    go_wp2_with (go_at_call 17; refine (hc _).mono ?_; rintro e w' ⟨rfl, rfl⟩)
    go_ret
    exact ⟨rfl, rfl⟩


/-- how many blocks -/
def manyV (n b : Int) : Int := if lenE n b = 0 then (n + b - 1) / b else 0
theorem manyV_bad {n b : Int} (h : lenE n b ≠ 0) : manyV n b = 0 := by simp [manyV, h]
theorem manyV_ok {n b : Int} (h : lenE n b = 0) : manyV n b = (n + b - 1) / b := by simp [manyV, h]

theorem many_p (n b : Int) (w : World) :
    Calls Tryd.prog 13 #[.int .i64 n, .int .i64 b] w fun e w' => e = .returned (.tuple #[.int .i64 (manyV n b), .int .i64 (lenE n b)]) ∧ w = w' := by
  have hc := length_p n b
  by_cases h : lenE n b = 0
  · obtain ⟨h1, h2, h3⟩ := lenE_zero h
    rw [manyV_ok h]
    rw [h] at hc ⊢
    have hb : 1 ≤ b ∧ b ≤ 16 := by rcases okB_cases h1 with rfl | rfl | rfl | rfl | rfl <;> omega
    obtain ⟨hb1, hb2⟩ := hb
    clear h h1
    go_enter Tryd.func13, Tryd.ntmps13
    go_wp2_with (go_at_call 15; refine (hc _).mono ?_; rintro e w' ⟨rfl, rfl⟩)
    go_ret2
    exact ⟨rfl, rfl⟩
  · rw [manyV_bad h]
    generalize lenE n b = e at *
    have he : (e != 0) = true := bne_iff_ne.2 h
    clear h
    go_enter Tryd.func13, Tryd.ntmps13
    go_wp2_with (go_at_call 15; refine (hc _).mono ?_; rintro e w' ⟨rfl, rfl⟩)
    go_ret2
    exact ⟨rfl, rfl⟩

theorem ret2_int {a b c : Int} (h : a = b) : Ending.returned (.tuple #[.int .i64 a, .int .i64 c]) = .returned (.tuple #[.int .i64 b, .int .i64 c]) := by rw [h]
theorem and_m0 (n : Int) : bits .and .i64 n 0 = n % 1 := by
  have hm : (BitVec.ofInt 64 0).toNat = 2 ^ 0 - 1 := by decide
  have key : (BitVec.ofInt 64 n &&& BitVec.ofInt 64 0).toNat = (n % ((2 ^ 64 : Nat) : Int)).toNat % 2 ^ 0 := by
    rw [BitVec.toNat_and, BitVec.toNat_ofInt, hm, Nat.and_two_pow_sub_one_eq_mod]
  show IntKind.i64.wrap ((BitVec.ofInt 64 n &&& BitVec.ofInt 64 0).toNat : Nat) = n % 1
  rw [key, IntKind.wrap_i64]
  omega
theorem and_m1 (n : Int) : bits .and .i64 n 1 = n % 2 := by
  have hm : (BitVec.ofInt 64 1).toNat = 2 ^ 1 - 1 := by decide
  have key : (BitVec.ofInt 64 n &&& BitVec.ofInt 64 1).toNat = (n % ((2 ^ 64 : Nat) : Int)).toNat % 2 ^ 1 := by
    rw [BitVec.toNat_and, BitVec.toNat_ofInt, hm, Nat.and_two_pow_sub_one_eq_mod]
  show IntKind.i64.wrap ((BitVec.ofInt 64 n &&& BitVec.ofInt 64 1).toNat : Nat) = n % 2
  rw [key, IntKind.wrap_i64]
  omega
theorem and_m3 (n : Int) : bits .and .i64 n 3 = n % 4 := by
  have hm : (BitVec.ofInt 64 3).toNat = 2 ^ 2 - 1 := by decide
  have key : (BitVec.ofInt 64 n &&& BitVec.ofInt 64 3).toNat = (n % ((2 ^ 64 : Nat) : Int)).toNat % 2 ^ 2 := by
    rw [BitVec.toNat_and, BitVec.toNat_ofInt, hm, Nat.and_two_pow_sub_one_eq_mod]
  show IntKind.i64.wrap ((BitVec.ofInt 64 n &&& BitVec.ofInt 64 3).toNat : Nat) = n % 4
  rw [key, IntKind.wrap_i64]
  omega
theorem and_m7 (n : Int) : bits .and .i64 n 7 = n % 8 := by
  have hm : (BitVec.ofInt 64 7).toNat = 2 ^ 3 - 1 := by decide
  have key : (BitVec.ofInt 64 n &&& BitVec.ofInt 64 7).toNat = (n % ((2 ^ 64 : Nat) : Int)).toNat % 2 ^ 3 := by
    rw [BitVec.toNat_and, BitVec.toNat_ofInt, hm, Nat.and_two_pow_sub_one_eq_mod]
  show IntKind.i64.wrap ((BitVec.ofInt 64 n &&& BitVec.ofInt 64 7).toNat : Nat) = n % 8
  rw [key, IntKind.wrap_i64]
  omega
theorem and_m15 (n : Int) : bits .and .i64 n 15 = n % 16 := by
  have hm : (BitVec.ofInt 64 15).toNat = 2 ^ 4 - 1 := by decide
  have key : (BitVec.ofInt 64 n &&& BitVec.ofInt 64 15).toNat = (n % ((2 ^ 64 : Nat) : Int)).toNat % 2 ^ 4 := by
    rw [BitVec.toNat_and, BitVec.toNat_ofInt, hm, Nat.and_two_pow_sub_one_eq_mod]
  show IntKind.i64.wrap ((BitVec.ofInt 64 n &&& BitVec.ofInt 64 15).toNat : Nat) = n % 16
  rw [key, IntKind.wrap_i64]
  omega

/-- the padding -/
def padV (n b : Int) : Int := if lenE n b = 0 then (-n) % b else 0
theorem padV_bad {n b : Int} (h : lenE n b ≠ 0) : padV n b = 0 := by simp [padV, h]
theorem padV_ok {n b : Int} (h : lenE n b = 0) : padV n b = (-n) % b := by simp [padV, h]

theorem padding_p (n b : Int) (w : World) :
    Calls Tryd.prog 14 #[.int .i64 n, .int .i64 b] w fun e w' => e = .returned (.tuple #[.int .i64 (padV n b), .int .i64 (lenE n b)]) ∧ w = w' := by
  have hc := length_p n b
  by_cases h : lenE n b = 0
  · obtain ⟨h1, h2, h3⟩ := lenE_zero h
    rw [padV_ok h]
    rw [h] at hc ⊢
    clear h
    rcases okB_cases h1 with rfl | rfl | rfl | rfl | rfl
    all_goals
      clear h1
      go_enter Tryd.func14, Tryd.ntmps14
      go_wp2_with (go_at_call 15; refine (hc _).mono ?_; rintro e w' ⟨rfl, rfl⟩)
      go_ret2
      exact ⟨ret2_int (by simp [and_m0, and_m1, and_m3, and_m7, and_m15]), rfl⟩
  · rw [padV_bad h]
    generalize lenE n b = e at *
    have he : (e != 0) = true := bne_iff_ne.2 h
    clear h
    go_enter Tryd.func14, Tryd.ntmps14
    go_wp2_with (go_at_call 15; refine (hc _).mono ?_; rintro e w' ⟨rfl, rfl⟩)
    go_ret2
    exact ⟨rfl, rfl⟩


theorem many_done {n b k : Int} (hb : 1 ≤ b) (h1 : n ≤ k * b) (h2 : k * b - b < n) : k = (n + b - 1) / b := by
  have e : n + b - 1 = (n + b - 1 - k * b) + k * b := by omega
  rw [e, Int.add_mul_ediv_right _ _ (by omega), Int.ediv_eq_zero_of_lt (by omega) (by omega)]
  omega

theorem manyV_bd (n b : Int) : 0 ≤ manyV n b ∧ manyV n b ≤ 1000 := by
  by_cases h : lenE n b = 0
  · rw [manyV_ok h]
    obtain ⟨h1, h2, h3⟩ := lenE_zero h
    rcases okB_cases h1 with rfl | rfl | rfl | rfl | rfl <;> omega
  · rw [manyV_bad h]; omega

/-- is a byte one of the chunk -/
def realE (n b p i : Int) : Int := if lenE n b = 0 then (if p < 0 ∨ manyV n b ≤ p ∨ i < 0 ∨ b ≤ i then 4 else 0) else lenE n b
def realV (n b p i : Int) : Bool := if realE n b p i = 0 then decide (p * b + i < n) else false

theorem real_bad {n b p i : Int} (h : ¬ lenE n b = 0) : realV n b p i = false ∧ realE n b p i = lenE n b := by
  have e : realE n b p i = lenE n b := by unfold realE; rw [if_neg h]
  exact ⟨by unfold realV; rw [e, if_neg h], e⟩
theorem real_zero {n b p i : Int} (h : lenE n b = 0) :
    ((p < 0 ∨ manyV n b ≤ p ∨ i < 0 ∨ b ≤ i) → realV n b p i = false ∧ realE n b p i = 4) ∧
    (¬ p < 0 → ¬ manyV n b ≤ p → ¬ i < 0 → ¬ b ≤ i → realV n b p i = decide (p * b + i < n) ∧ realE n b p i = 0) := by
  refine ⟨fun g => ?_, fun g1 g2 g3 g4 => ?_⟩
  · have e : realE n b p i = 4 := by unfold realE; rw [if_pos h, if_pos g]
    exact ⟨by unfold realV; rw [e]; rfl, e⟩
  · have e : realE n b p i = 0 := by unfold realE; rw [if_pos h, if_neg (by omega)]
    exact ⟨by unfold realV; rw [e]; rfl, e⟩

end Go.Proofs.YtfmngphmmhjicaaDoor
