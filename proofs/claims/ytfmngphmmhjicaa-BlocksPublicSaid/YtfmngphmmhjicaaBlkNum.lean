/- Contracts of the numeric functions of layer 27 (Check, length, Many, Padding, Real): program and reference compute the same plain Lean functions. -/
import Derived.Test.YtfmngphmmhjicaaProg
import Derived.WalkKit
import Derived.Lib.Hide
namespace Go.Proofs.Ytfmngphmmhjicaa
open Go.RowKit

/-- is the size of a block one -/
def okB (b : Int) : Bool := b == 1 || b == 2 || b == 4 || b == 8 || b == 16
def chk (b : Int) : Int := if okB b then 0 else 7

theorem okB_cases {b : Int} (h : okB b = true) : b = 1 ∨ b = 2 ∨ b = 4 ∨ b = 8 ∨ b = 16 := by
  simp [okB] at h; omega
theorem okB_not {b : Int} (h : okB b = false) : b ≠ 1 ∧ b ≠ 2 ∧ b ≠ 4 ∧ b ≠ 8 ∧ b ≠ 16 := by
  simp [okB] at h; omega

theorem check_p (b : Int) (w : World) :
    Calls Try.prog 20 #[.int .i64 b] w fun e w' => e = .returned (.int .i64 (chk b)) ∧ w = w' := by
  by_cases h1 : b < 1
  · have hk : chk b = 7 := by simp [chk, okB]; omega
    rw [hk]; clear hk
    go_enter Try.func20, Try.ntmps20
    go_wp2
    go_ret
    exact ⟨rfl, rfl⟩
  · by_cases h2 : 16 < b
    · have hk : chk b = 7 := by simp [chk, okB]; omega
      rw [hk]; clear hk
      go_enter Try.func20, Try.ntmps20
      go_wp2
      go_ret
      exact ⟨rfl, rfl⟩
    · rcases (show b = 1 ∨ b = 2 ∨ b = 3 ∨ b = 4 ∨ b = 5 ∨ b = 6 ∨ b = 7 ∨ b = 8 ∨ b = 9 ∨ b = 10 ∨ b = 11 ∨ b = 12 ∨ b = 13 ∨ b = 14 ∨ b = 15 ∨ b = 16 by omega) with rfl | rfl | rfl | rfl | rfl | rfl | rfl | rfl | rfl | rfl | rfl | rfl | rfl | rfl | rfl | rfl
      all_goals
        clear h1 h2
        go_enter Try.func20, Try.ntmps20
        go_wp2
        go_ret
        exact ⟨rfl, rfl⟩

theorem check_r (b : Int) (w : World) :
    Calls Try.prog 21 #[.int .i64 b] w fun e w' => e = .returned (.int .i64 (chk b)) ∧ w = w' := by
  by_cases h : okB b = true
  · rcases okB_cases h with rfl | rfl | rfl | rfl | rfl
    all_goals
      clear h
      go_enter Try.func21, Try.ntmps21
      go_wp2
      go_ret
      exact ⟨rfl, rfl⟩
  · have h' : okB b = false := by simpa using h
    have hk : chk b = 7 := by simp [chk, h']
    obtain ⟨h1, h2, h3, h4, h5⟩ := okB_not h'
    have e1 : (b != 1) = true := bne_iff_ne.2 h1
    have e2 : (b != 2) = true := bne_iff_ne.2 h2
    have e3 : (b != 4) = true := bne_iff_ne.2 h3
    have e4 : (b != 8) = true := bne_iff_ne.2 h4
    have e5 : (b != 16) = true := bne_iff_ne.2 h5
    rw [hk]; clear hk h h' h1 h2 h3 h4 h5
    go_enter Try.func21, Try.ntmps21
    go_wp2
    go_ret
    exact ⟨rfl, rfl⟩


/-- the error of a size, and of a length -/
def lenE (n b : Int) : Int := if okB b then (if n < 0 then 7 else if 1000 < n then 3 else 0) else 7

theorem lenE_bad {n b : Int} (h : okB b = false) : lenE n b = 7 := by simp [lenE, h]
theorem lenE_neg {n b : Int} (h : n < 0) : lenE n b = 7 := by unfold lenE; split <;> simp [h]
theorem lenE_long {n b : Int} (h : okB b = true) (h2 : 1000 < n) : lenE n b = 3 := by unfold lenE; rw [if_pos h, if_neg (by omega), if_pos h2]
theorem lenE_ok {n b : Int} (h : okB b = true) (h1 : 0 ≤ n) (h2 : n ≤ 1000) : lenE n b = 0 := by unfold lenE; rw [if_pos h, if_neg (by omega), if_neg (by omega)]
theorem lenE_zero {n b : Int} (h : lenE n b = 0) : okB b = true ∧ 0 ≤ n ∧ n ≤ 1000 := by
  unfold lenE at h
  split at h
  · split at h
    · omega
    · split at h
      · omega
      · exact ⟨by assumption, by omega, by omega⟩
  · omega

theorem length_p (n b : Int) (w : World) :
    Calls Try.prog 22 #[.int .i64 n, .int .i64 b] w fun e w' => e = .returned (.int .i64 (lenE n b)) ∧ w = w' := by
  by_cases h : okB b = true
  · have hk : chk b = 0 := by simp [chk, h]
    have hc := fun w => hk ▸ check_p b w
    by_cases h1 : n < 0
    · rw [lenE_neg h1]; clear hk h
      go_enter Try.func22, Try.ntmps22
      go_wp2_with (go_at_call 20; refine (hc _).mono ?_; rintro e w' ⟨rfl, rfl⟩)
      go_ret
      exact ⟨rfl, rfl⟩
    · by_cases h2 : 1000 < n
      · rw [lenE_long h h2]; clear hk h
        go_enter Try.func22, Try.ntmps22
        go_wp2_with (go_at_call 20; refine (hc _).mono ?_; rintro e w' ⟨rfl, rfl⟩)
        go_ret
        exact ⟨rfl, rfl⟩
      · rw [lenE_ok h (by omega) (by omega)]; clear hk h
        go_enter Try.func22, Try.ntmps22
        go_wp2_with (go_at_call 20; refine (hc _).mono ?_; rintro e w' ⟨rfl, rfl⟩)
        go_ret
        exact ⟨rfl, rfl⟩
  · have h' : okB b = false := by simpa using h
    have hk : chk b = 7 := by simp [chk, h']
    have hc := fun w => hk ▸ check_p b w
    rw [lenE_bad h']; clear hk h h'
    go_enter Try.func22, Try.ntmps22
    go_wp2_with (go_at_call 20; refine (hc _).mono ?_; rintro e w' ⟨rfl, rfl⟩)
    go_ret
    exact ⟨rfl, rfl⟩


theorem length_r (n b : Int) (w : World) :
    Calls Try.prog 24 #[.int .i64 n, .int .i64 b] w fun e w' => e = .returned (.int .i64 (lenE n b)) ∧ w = w' := by
  by_cases h : okB b = true
  · have hk : chk b = 0 := by simp [chk, h]
    have hc := fun w => hk ▸ check_r b w
    by_cases h1 : n < 0
    · rw [lenE_neg h1]; clear hk h
      go_enter Try.func24, Try.ntmps24
      go_wp2_with (go_at_call 21; refine (hc _).mono ?_; rintro e w' ⟨rfl, rfl⟩)
      go_ret
      exact ⟨rfl, rfl⟩
    · by_cases h2 : 1000 < n
      · rw [lenE_long h h2]; clear hk h
        go_enter Try.func24, Try.ntmps24
        go_wp2_with (go_at_call 21; refine (hc _).mono ?_; rintro e w' ⟨rfl, rfl⟩)
        go_ret
        exact ⟨rfl, rfl⟩
      · rw [lenE_ok h (by omega) (by omega)]; clear hk h
        go_enter Try.func24, Try.ntmps24
        go_wp2_with (go_at_call 21; refine (hc _).mono ?_; rintro e w' ⟨rfl, rfl⟩)
        go_ret
        exact ⟨rfl, rfl⟩
  · have h' : okB b = false := by simpa using h
    have hk : chk b = 7 := by simp [chk, h']
    have hc := fun w => hk ▸ check_r b w
    rw [lenE_bad h']; clear hk h h'
    go_enter Try.func24, Try.ntmps24
    go_wp2_with (go_at_call 21; refine (hc _).mono ?_; rintro e w' ⟨rfl, rfl⟩)
    go_ret
    exact ⟨rfl, rfl⟩

/-- how many blocks -/
def manyV (n b : Int) : Int := if lenE n b = 0 then (n + b - 1) / b else 0
theorem manyV_bad {n b : Int} (h : lenE n b ≠ 0) : manyV n b = 0 := by simp [manyV, h]
theorem manyV_ok {n b : Int} (h : lenE n b = 0) : manyV n b = (n + b - 1) / b := by simp [manyV, h]

theorem many_p (n b : Int) (w : World) :
    Calls Try.prog 13 #[.int .i64 n, .int .i64 b] w fun e w' => e = .returned (.tuple #[.int .i64 (manyV n b), .int .i64 (lenE n b)]) ∧ w = w' := by
  have hc := length_p n b
  by_cases h : lenE n b = 0
  · obtain ⟨h1, h2, h3⟩ := lenE_zero h
    rw [manyV_ok h]
    rw [h] at hc ⊢
    have hb : 1 ≤ b ∧ b ≤ 16 := by rcases okB_cases h1 with rfl | rfl | rfl | rfl | rfl <;> omega
    obtain ⟨hb1, hb2⟩ := hb
    clear h h1
    go_enter Try.func13, Try.ntmps13
    go_wp2_with (go_at_call 22; refine (hc _).mono ?_; rintro e w' ⟨rfl, rfl⟩)
    go_ret2
    exact ⟨rfl, rfl⟩
  · rw [manyV_bad h]
    generalize lenE n b = e at *
    have he : (e != 0) = true := bne_iff_ne.2 h
    clear h
    go_enter Try.func13, Try.ntmps13
    go_wp2_with (go_at_call 22; refine (hc _).mono ?_; rintro e w' ⟨rfl, rfl⟩)
    go_ret2
    exact ⟨rfl, rfl⟩

theorem ret2_int {a b c : Int} (h : a = b) : Ending.returned (.tuple #[.int .i64 a, .int .i64 c]) = .returned (.tuple #[.int .i64 b, .int .i64 c]) := by rw [h]
theorem and_m0 (n : Int) : bits .and .i64 n 0 = n % 1 := by
  have hm : (BitVec.ofInt 64 0).toNat = 2 ^ 0 - 1 := by decide
  have key : (BitVec.ofInt 64 n &&& BitVec.ofInt 64 0).toNat = (n % ((2 ^ 64 : Nat) : Int)).toNat % 2 ^ 0 := by
    rw [BitVec.toNat_and, BitVec.toNat_ofInt, hm, Nat.and_two_pow_sub_one_eq_mod]
  show IntKind.i64.wrap ((BitVec.ofInt 64 n &&& BitVec.ofInt 64 0).toNat : Nat) = n % 1
  rw [key, IntKind.wrap_i64]
  omega
theorem and_m1 (n : Int) : bits .and .i64 n 1 = n % 2 := by
  have hm : (BitVec.ofInt 64 1).toNat = 2 ^ 1 - 1 := by decide
  have key : (BitVec.ofInt 64 n &&& BitVec.ofInt 64 1).toNat = (n % ((2 ^ 64 : Nat) : Int)).toNat % 2 ^ 1 := by
    rw [BitVec.toNat_and, BitVec.toNat_ofInt, hm, Nat.and_two_pow_sub_one_eq_mod]
  show IntKind.i64.wrap ((BitVec.ofInt 64 n &&& BitVec.ofInt 64 1).toNat : Nat) = n % 2
  rw [key, IntKind.wrap_i64]
  omega
theorem and_m3 (n : Int) : bits .and .i64 n 3 = n % 4 := by
  have hm : (BitVec.ofInt 64 3).toNat = 2 ^ 2 - 1 := by decide
  have key : (BitVec.ofInt 64 n &&& BitVec.ofInt 64 3).toNat = (n % ((2 ^ 64 : Nat) : Int)).toNat % 2 ^ 2 := by
    rw [BitVec.toNat_and, BitVec.toNat_ofInt, hm, Nat.and_two_pow_sub_one_eq_mod]
  show IntKind.i64.wrap ((BitVec.ofInt 64 n &&& BitVec.ofInt 64 3).toNat : Nat) = n % 4
  rw [key, IntKind.wrap_i64]
  omega
theorem and_m7 (n : Int) : bits .and .i64 n 7 = n % 8 := by
  have hm : (BitVec.ofInt 64 7).toNat = 2 ^ 3 - 1 := by decide
  have key : (BitVec.ofInt 64 n &&& BitVec.ofInt 64 7).toNat = (n % ((2 ^ 64 : Nat) : Int)).toNat % 2 ^ 3 := by
    rw [BitVec.toNat_and, BitVec.toNat_ofInt, hm, Nat.and_two_pow_sub_one_eq_mod]
  show IntKind.i64.wrap ((BitVec.ofInt 64 n &&& BitVec.ofInt 64 7).toNat : Nat) = n % 8
  rw [key, IntKind.wrap_i64]
  omega
theorem and_m15 (n : Int) : bits .and .i64 n 15 = n % 16 := by
  have hm : (BitVec.ofInt 64 15).toNat = 2 ^ 4 - 1 := by decide
  have key : (BitVec.ofInt 64 n &&& BitVec.ofInt 64 15).toNat = (n % ((2 ^ 64 : Nat) : Int)).toNat % 2 ^ 4 := by
    rw [BitVec.toNat_and, BitVec.toNat_ofInt, hm, Nat.and_two_pow_sub_one_eq_mod]
  show IntKind.i64.wrap ((BitVec.ofInt 64 n &&& BitVec.ofInt 64 15).toNat : Nat) = n % 16
  rw [key, IntKind.wrap_i64]
  omega

/-- the padding -/
def padV (n b : Int) : Int := if lenE n b = 0 then (-n) % b else 0
theorem padV_bad {n b : Int} (h : lenE n b ≠ 0) : padV n b = 0 := by simp [padV, h]
theorem padV_ok {n b : Int} (h : lenE n b = 0) : padV n b = (-n) % b := by simp [padV, h]

theorem padding_p (n b : Int) (w : World) :
    Calls Try.prog 14 #[.int .i64 n, .int .i64 b] w fun e w' => e = .returned (.tuple #[.int .i64 (padV n b), .int .i64 (lenE n b)]) ∧ w = w' := by
  have hc := length_p n b
  by_cases h : lenE n b = 0
  · obtain ⟨h1, h2, h3⟩ := lenE_zero h
    rw [padV_ok h]
    rw [h] at hc ⊢
    clear h
    rcases okB_cases h1 with rfl | rfl | rfl | rfl | rfl
    all_goals
      clear h1
      go_enter Try.func14, Try.ntmps14
      go_wp2_with (go_at_call 22; refine (hc _).mono ?_; rintro e w' ⟨rfl, rfl⟩)
      go_ret2
      exact ⟨ret2_int (by simp [and_m0, and_m1, and_m3, and_m7, and_m15]), rfl⟩
  · rw [padV_bad h]
    generalize lenE n b = e at *
    have he : (e != 0) = true := bne_iff_ne.2 h
    clear h
    go_enter Try.func14, Try.ntmps14
    go_wp2_with (go_at_call 22; refine (hc _).mono ?_; rintro e w' ⟨rfl, rfl⟩)
    go_ret2
    exact ⟨rfl, rfl⟩


theorem many_done {n b k : Int} (hb : 1 ≤ b) (h1 : n ≤ k * b) (h2 : k * b - b < n) : k = (n + b - 1) / b := by
  have e : n + b - 1 = (n + b - 1 - k * b) + k * b := by omega
  rw [e, Int.add_mul_ediv_right _ _ (by omega), Int.ediv_eq_zero_of_lt (by omega) (by omega)]
  omega

theorem many_r (n b : Int) (w : World) :
    Calls Try.prog 16 #[.int .i64 n, .int .i64 b] w fun e w' => e = .returned (.tuple #[.int .i64 (manyV n b), .int .i64 (lenE n b)]) ∧ w = w' := by
  have hc := length_r n b
  by_cases h : lenE n b = 0
  · obtain ⟨h1, h2, h3⟩ := lenE_zero h
    rw [manyV_ok h]
    rw [h] at hc ⊢
    have hb : 1 ≤ b ∧ b ≤ 16 := by rcases okB_cases h1 with rfl | rfl | rfl | rfl | rfl <;> omega
    obtain ⟨hb1, hb2⟩ := hb
    clear h h1
    go_enter Try.func16, Try.ntmps16
    go_wp2_with (go_at_call 24; refine (hc _).mono ?_; rintro e w' ⟨rfl, rfl⟩)
    go_loop [7] (fun v => ∃ k : Int, 0 ≤ k ∧ k ≤ 1000 ∧ v = .int .i64 k ∧ k * b - b < n ∧ 0 ≤ k * b) (fun v => (1001 - intOf v).toNat)
    case atStart => exact ⟨0, by omega, by omega, rfl, by omega, by omega⟩
    case round =>
      obtain ⟨k, hk0, hk1, rfl, hk2, hk3⟩ := hrel
      have hs : (k + 1) * b = k * b + b := by rw [Int.add_mul]; omega
      have hkb : k ≤ k * b := by
        have := Int.mul_le_mul_of_nonneg_left hb1 hk0
        omega
      have HS := Lib.hid hs
      clear hs
      by_cases hlt : k * b < n
      · go_wp2
        go_round
        case rel => exact ⟨k + 1, by omega, by omega, rfl, by rw [HS.out]; omega, by rw [HS.out]; omega⟩
        case measure => simp [intOf]; omega
      · go_wp2
        go_ret2
        exact ⟨ret2_int (many_done hb1 (by omega) hk2), rfl⟩
  · rw [manyV_bad h]
    generalize lenE n b = e at *
    have he : (e != 0) = true := bne_iff_ne.2 h
    clear h
    go_enter Try.func16, Try.ntmps16
    go_wp2_with (go_at_call 24; refine (hc _).mono ?_; rintro e w' ⟨rfl, rfl⟩)
    go_ret2
    exact ⟨rfl, rfl⟩


theorem padding_r (n b : Int) (w : World) :
    Calls Try.prog 17 #[.int .i64 n, .int .i64 b] w fun e w' => e = .returned (.tuple #[.int .i64 (padV n b), .int .i64 (lenE n b)]) ∧ w = w' := by
  have hc := many_r n b
  by_cases h : lenE n b = 0
  · obtain ⟨h1, h2, h3⟩ := lenE_zero h
    rw [padV_ok h]
    rw [manyV_ok h, h] at hc
    rw [h]
    clear h
    rcases okB_cases h1 with rfl | rfl | rfl | rfl | rfl
    all_goals
      clear h1
      go_enter Try.func17, Try.ntmps17
      go_wp2_with (go_at_call 16; refine (hc _).mono ?_; rintro e w' ⟨rfl, rfl⟩)
      go_ret2
      exact ⟨ret2_int (by omega), rfl⟩
  · rw [padV_bad h]
    rw [manyV_bad h] at hc
    generalize lenE n b = e at *
    have he : (e != 0) = true := bne_iff_ne.2 h
    clear h
    go_enter Try.func17, Try.ntmps17
    go_wp2_with (go_at_call 16; refine (hc _).mono ?_; rintro e w' ⟨rfl, rfl⟩)
    go_ret2
    exact ⟨rfl, rfl⟩

theorem manyV_bd (n b : Int) : 0 ≤ manyV n b ∧ manyV n b ≤ 1000 := by
  by_cases h : lenE n b = 0
  · rw [manyV_ok h]
    obtain ⟨h1, h2, h3⟩ := lenE_zero h
    rcases okB_cases h1 with rfl | rfl | rfl | rfl | rfl <;> omega
  · rw [manyV_bad h]; omega

/-- is a byte one of the chunk -/
def realE (n b p i : Int) : Int := if lenE n b = 0 then (if p < 0 ∨ manyV n b ≤ p ∨ i < 0 ∨ b ≤ i then 4 else 0) else lenE n b
def realV (n b p i : Int) : Bool := if realE n b p i = 0 then decide (p * b + i < n) else false

theorem real_bad {n b p i : Int} (h : ¬ lenE n b = 0) : realV n b p i = false ∧ realE n b p i = lenE n b := by
  have e : realE n b p i = lenE n b := by unfold realE; rw [if_neg h]
  exact ⟨by unfold realV; rw [e, if_neg h], e⟩
theorem real_zero {n b p i : Int} (h : lenE n b = 0) :
    ((p < 0 ∨ manyV n b ≤ p ∨ i < 0 ∨ b ≤ i) → realV n b p i = false ∧ realE n b p i = 4) ∧
    (¬ p < 0 → ¬ manyV n b ≤ p → ¬ i < 0 → ¬ b ≤ i → realV n b p i = decide (p * b + i < n) ∧ realE n b p i = 0) := by
  refine ⟨fun g => ?_, fun g1 g2 g3 g4 => ?_⟩
  · have e : realE n b p i = 4 := by unfold realE; rw [if_pos h, if_pos g]
    exact ⟨by unfold realV; rw [e]; rfl, e⟩
  · have e : realE n b p i = 0 := by unfold realE; rw [if_pos h, if_neg (by omega)]
    exact ⟨by unfold realV; rw [e]; rfl, e⟩

theorem real_p (n b p i : Int) (w : World) :
    Calls Try.prog 18 #[.int .i64 n, .int .i64 b, .int .i64 p, .int .i64 i] w fun e w' => e = .returned (.tuple #[.bool (realV n b p i), .int .i64 (realE n b p i)]) ∧ w = w' := by
  have hc := many_p n b
  by_cases h : lenE n b = 0
  · obtain ⟨h1, h2, h3⟩ := lenE_zero h
    have hb : 1 ≤ b ∧ b ≤ 16 := by rcases okB_cases h1 with rfl | rfl | rfl | rfl | rfl <;> omega
    obtain ⟨hb1, hb2⟩ := hb
    obtain ⟨hm1, hm2⟩ := manyV_bd n b
    have hr := real_zero (n := n) (b := b) (p := p) (i := i) h
    rw [h] at hc
    clear h h1
    generalize hmm : manyV n b = m at *
    clear hmm
    by_cases g1 : p < 0
    · obtain ⟨e1, e2⟩ := hr.1 (.inl g1)
      rw [e1, e2]; clear e1 e2 hr
      go_enter Try.func18, Try.ntmps18
      go_wp2_with (go_at_call 13; refine (hc _).mono ?_; rintro e w' ⟨rfl, rfl⟩)
      go_ret2
      exact ⟨rfl, rfl⟩
    · skip
      by_cases g2 : m ≤ p
      · obtain ⟨e1, e2⟩ := hr.1 (.inr (.inl g2))
        rw [e1, e2]; clear e1 e2 hr
        go_enter Try.func18, Try.ntmps18
        go_wp2_with (go_at_call 13; refine (hc _).mono ?_; rintro e w' ⟨rfl, rfl⟩)
        go_ret2
        exact ⟨rfl, rfl⟩
      · skip
        by_cases g3 : i < 0
        · obtain ⟨e1, e2⟩ := hr.1 (.inr (.inr (.inl g3)))
          rw [e1, e2]; clear e1 e2 hr
          go_enter Try.func18, Try.ntmps18
          go_wp2_with (go_at_call 13; refine (hc _).mono ?_; rintro e w' ⟨rfl, rfl⟩)
          go_ret2
          exact ⟨rfl, rfl⟩
        · skip
          by_cases g4 : b ≤ i
          · obtain ⟨e1, e2⟩ := hr.1 (.inr (.inr (.inr g4)))
            rw [e1, e2]; clear e1 e2 hr
            go_enter Try.func18, Try.ntmps18
            go_wp2_with (go_at_call 13; refine (hc _).mono ?_; rintro e w' ⟨rfl, rfl⟩)
            go_ret2
            exact ⟨rfl, rfl⟩
          · skip
            obtain ⟨e1, e2⟩ := hr.2 (by omega) (by omega) (by omega) (by omega)
            rw [e1, e2]; clear e1 e2 hr
            have hp1 : 0 ≤ p * b := Int.mul_nonneg (by omega) (by omega)
            have hp2 : p * b ≤ p * 16 := Int.mul_le_mul_of_nonneg_left hb2 (by omega)
            go_enter Try.func18, Try.ntmps18
            go_wp2_with (go_at_call 13; refine (hc _).mono ?_; rintro e w' ⟨rfl, rfl⟩)
            go_ret2
            exact ⟨rfl, rfl⟩
  · obtain ⟨e1, e2⟩ := real_bad (n := n) (b := b) (p := p) (i := i) h
    rw [e1, e2]
    clear e1 e2
    generalize lenE n b = e at *
    generalize manyV n b = m at *
    have he : (e != 0) = true := bne_iff_ne.2 h
    clear h
    go_enter Try.func18, Try.ntmps18
    go_wp2_with (go_at_call 13; refine (hc _).mono ?_; rintro e w' ⟨rfl, rfl⟩)
    go_ret2
    exact ⟨rfl, rfl⟩

theorem real_r (n b p i : Int) (w : World) :
    Calls Try.prog 19 #[.int .i64 n, .int .i64 b, .int .i64 p, .int .i64 i] w fun e w' => e = .returned (.tuple #[.bool (realV n b p i), .int .i64 (realE n b p i)]) ∧ w = w' := by
  have hc := many_r n b
  by_cases h : lenE n b = 0
  · obtain ⟨h1, h2, h3⟩ := lenE_zero h
    have hb : 1 ≤ b ∧ b ≤ 16 := by rcases okB_cases h1 with rfl | rfl | rfl | rfl | rfl <;> omega
    obtain ⟨hb1, hb2⟩ := hb
    obtain ⟨hm1, hm2⟩ := manyV_bd n b
    have hr := real_zero (n := n) (b := b) (p := p) (i := i) h
    rw [h] at hc
    clear h h1
    generalize hmm : manyV n b = m at *
    clear hmm
    by_cases g1 : p < 0
    · obtain ⟨e1, e2⟩ := hr.1 (.inl g1)
      rw [e1, e2]; clear e1 e2 hr
      go_enter Try.func19, Try.ntmps19
      go_wp2_with (go_at_call 16; refine (hc _).mono ?_; rintro e w' ⟨rfl, rfl⟩)
      go_ret2
      exact ⟨rfl, rfl⟩
    · skip
      by_cases g2 : m ≤ p
      · obtain ⟨e1, e2⟩ := hr.1 (.inr (.inl g2))
        rw [e1, e2]; clear e1 e2 hr
        go_enter Try.func19, Try.ntmps19
        go_wp2_with (go_at_call 16; refine (hc _).mono ?_; rintro e w' ⟨rfl, rfl⟩)
        go_ret2
        exact ⟨rfl, rfl⟩
      · skip
        by_cases g3 : i < 0
        · obtain ⟨e1, e2⟩ := hr.1 (.inr (.inr (.inl g3)))
          rw [e1, e2]; clear e1 e2 hr
          go_enter Try.func19, Try.ntmps19
          go_wp2_with (go_at_call 16; refine (hc _).mono ?_; rintro e w' ⟨rfl, rfl⟩)
          go_ret2
          exact ⟨rfl, rfl⟩
        · skip
          by_cases g4 : b ≤ i
          · obtain ⟨e1, e2⟩ := hr.1 (.inr (.inr (.inr g4)))
            rw [e1, e2]; clear e1 e2 hr
            go_enter Try.func19, Try.ntmps19
            go_wp2_with (go_at_call 16; refine (hc _).mono ?_; rintro e w' ⟨rfl, rfl⟩)
            go_ret2
            exact ⟨rfl, rfl⟩
          · skip
            obtain ⟨e1, e2⟩ := hr.2 (by omega) (by omega) (by omega) (by omega)
            rw [e1, e2]; clear e1 e2 hr
            have hp1 : 0 ≤ p * b := Int.mul_nonneg (by omega) (by omega)
            have hp2 : p * b ≤ p * 16 := Int.mul_le_mul_of_nonneg_left hb2 (by omega)
            go_enter Try.func19, Try.ntmps19
            go_wp2_with (go_at_call 16; refine (hc _).mono ?_; rintro e w' ⟨rfl, rfl⟩)
            go_ret2
            exact ⟨rfl, rfl⟩
  · obtain ⟨e1, e2⟩ := real_bad (n := n) (b := b) (p := p) (i := i) h
    rw [e1, e2]
    clear e1 e2
    generalize lenE n b = e at *
    generalize manyV n b = m at *
    have he : (e != 0) = true := bne_iff_ne.2 h
    clear h
    go_enter Try.func19, Try.ntmps19
    go_wp2_with (go_at_call 16; refine (hc _).mono ?_; rintro e w' ⟨rfl, rfl⟩)
    go_ret2
    exact ⟨rfl, rfl⟩

end Go.Proofs.Ytfmngphmmhjicaa
