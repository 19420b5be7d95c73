/- Contracts of Check, length, Many of layer 27 (program and reference) over the dump of layer 31. -/
import Derived.Test.YtdfofojlnkhjjaaProg
import Derived.WalkKit
import Derived.Lib.Hide
namespace Go.Proofs.Ytdfofojlnkhjjaa
open Go.RowKit

/-- is the size of a block one -/
def okB (b : Int) : Bool := b == 1 || b == 2 || b == 4 || b == 8 || b == 16
def chk (b : Int) : Int := if okB b then 0 else 7

theorem okB_cases {b : Int} (h : okB b = true) : b = 1 ∨ b = 2 ∨ b = 4 ∨ b = 8 ∨ b = 16 := by
  simp [okB] at h; omega
theorem okB_not {b : Int} (h : okB b = false) : b ≠ 1 ∧ b ≠ 2 ∧ b ≠ 4 ∧ b ≠ 8 ∧ b ≠ 16 := by
  simp [okB] at h; omega

theorem check_p (b : Int) (w : World) :
    Calls Try.prog 72 #[.int .i64 b] w fun e w' => e = .returned (.int .i64 (chk b)) ∧ w = w' := by
  by_cases h1 : b < 1
  · have hk : chk b = 7 := by simp [chk, okB]; omega
    rw [hk]; clear hk
    go_enter Try.func72, Try.ntmps72
    go_wp2
    go_ret
    exact ⟨rfl, rfl⟩
  · by_cases h2 : 16 < b
    · have hk : chk b = 7 := by simp [chk, okB]; omega
      rw [hk]; clear hk
      go_enter Try.func72, Try.ntmps72
      go_wp2
      go_ret
      exact ⟨rfl, rfl⟩
    · rcases (show b = 1 ∨ b = 2 ∨ b = 3 ∨ b = 4 ∨ b = 5 ∨ b = 6 ∨ b = 7 ∨ b = 8 ∨ b = 9 ∨ b = 10 ∨ b = 11 ∨ b = 12 ∨ b = 13 ∨ b = 14 ∨ b = 15 ∨ b = 16 by omega) with rfl | rfl | rfl | rfl | rfl | rfl | rfl | rfl | rfl | rfl | rfl | rfl | rfl | rfl | rfl | rfl
      all_goals
        clear h1 h2
        go_enter Try.func72, Try.ntmps72
        go_wp2
        go_ret
        exact ⟨rfl, rfl⟩

theorem check_r (b : Int) (w : World) :
    Calls Try.prog 78 #[.int .i64 b] w fun e w' => e = .returned (.int .i64 (chk b)) ∧ w = w' := by
  by_cases h : okB b = true
  · rcases okB_cases h with rfl | rfl | rfl | rfl | rfl
    all_goals
      clear h
      go_enter Try.func78, Try.ntmps78
      go_wp2
      go_ret
      exact ⟨rfl, rfl⟩
  · have h' : okB b = false := by simpa using h
    have hk : chk b = 7 := by simp [chk, h']
    obtain ⟨h1, h2, h3, h4, h5⟩ := okB_not h'
    have e1 : (b != 1) = true := bne_iff_ne.2 h1
    have e2 : (b != 2) = true := bne_iff_ne.2 h2
    have e3 : (b != 4) = true := bne_iff_ne.2 h3
    have e4 : (b != 8) = true := bne_iff_ne.2 h4
    have e5 : (b != 16) = true := bne_iff_ne.2 h5
    rw [hk]; clear hk h h' h1 h2 h3 h4 h5
    go_enter Try.func78, Try.ntmps78
    go_wp2
    go_ret
    exact ⟨rfl, rfl⟩


/-- the error of a size, and of a length -/
def lenE (n b : Int) : Int := if okB b then (if n < 0 then 7 else if 1000 < n then 3 else 0) else 7

theorem lenE_bad {n b : Int} (h : okB b = false) : lenE n b = 7 := by simp [lenE, h]
theorem lenE_neg {n b : Int} (h : n < 0) : lenE n b = 7 := by unfold lenE; split <;> simp [h]
theorem lenE_long {n b : Int} (h : okB b = true) (h2 : 1000 < n) : lenE n b = 3 := by unfold lenE; rw [if_pos h, if_neg (by omega), if_pos h2]
theorem lenE_ok {n b : Int} (h : okB b = true) (h1 : 0 ≤ n) (h2 : n ≤ 1000) : lenE n b = 0 := by unfold lenE; rw [if_pos h, if_neg (by omega), if_neg (by omega)]
theorem lenE_zero {n b : Int} (h : lenE n b = 0) : okB b = true ∧ 0 ≤ n ∧ n ≤ 1000 := by
  unfold lenE at h
  split at h
  · split at h
    · omega
    · split at h
      · omega
      · exact ⟨by assumption, by omega, by omega⟩
  · omega

theorem length_p (n b : Int) (w : World) :
    Calls Try.prog 59 #[.int .i64 n, .int .i64 b] w fun e w' => e = .returned (.int .i64 (lenE n b)) ∧ w = w' := by
  by_cases h : okB b = true
  · have hk : chk b = 0 := by simp [chk, h]
    have hc := fun w => hk ▸ check_p b w
    by_cases h1 : n < 0
    · rw [lenE_neg h1]; clear hk h
      go_enter Try.func59, Try.ntmps59
      go_wp2_with (go_at_call 72; refine (hc _).mono ?_; rintro e w' ⟨rfl, rfl⟩)
      go_ret
      exact ⟨rfl, rfl⟩
    · by_cases h2 : 1000 < n
      · rw [lenE_long h h2]; clear hk h
        go_enter Try.func59, Try.ntmps59
        go_wp2_with (go_at_call 72; refine (hc _).mono ?_; rintro e w' ⟨rfl, rfl⟩)
        go_ret
        exact ⟨rfl, rfl⟩
      · rw [lenE_ok h (by omega) (by omega)]; clear hk h
        go_enter Try.func59, Try.ntmps59
        go_wp2_with (go_at_call 72; refine (hc _).mono ?_; rintro e w' ⟨rfl, rfl⟩)
        go_ret
        exact ⟨rfl, rfl⟩
  · have h' : okB b = false := by simpa using h
    have hk : chk b = 7 := by simp [chk, h']
    have hc := fun w => hk ▸ check_p b w
    rw [lenE_bad h']; clear hk h h'
    go_enter Try.func59, Try.ntmps59
    go_wp2_with (go_at_call 72; refine (hc _).mono ?_; rintro e w' ⟨rfl, rfl⟩)
    go_ret
    exact ⟨rfl, rfl⟩


theorem length_r (n b : Int) (w : World) :
    Calls Try.prog 73 #[.int .i64 n, .int .i64 b] w fun e w' => e = .returned (.int .i64 (lenE n b)) ∧ w = w' := by
  by_cases h : okB b = true
  · have hk : chk b = 0 := by simp [chk, h]
    have hc := fun w => hk ▸ check_r b w
    by_cases h1 : n < 0
    · rw [lenE_neg h1]; clear hk h
      go_enter Try.func73, Try.ntmps73
      go_wp2_with (go_at_call 78; refine (hc _).mono ?_; rintro e w' ⟨rfl, rfl⟩)
      go_ret
      exact ⟨rfl, rfl⟩
    · by_cases h2 : 1000 < n
      · rw [lenE_long h h2]; clear hk h
        go_enter Try.func73, Try.ntmps73
        go_wp2_with (go_at_call 78; refine (hc _).mono ?_; rintro e w' ⟨rfl, rfl⟩)
        go_ret
        exact ⟨rfl, rfl⟩
      · rw [lenE_ok h (by omega) (by omega)]; clear hk h
        go_enter Try.func73, Try.ntmps73
        go_wp2_with (go_at_call 78; refine (hc _).mono ?_; rintro e w' ⟨rfl, rfl⟩)
        go_ret
        exact ⟨rfl, rfl⟩
  · have h' : okB b = false := by simpa using h
    have hk : chk b = 7 := by simp [chk, h']
    have hc := fun w => hk ▸ check_r b w
    rw [lenE_bad h']; clear hk h h'
    go_enter Try.func73, Try.ntmps73
    go_wp2_with (go_at_call 78; refine (hc _).mono ?_; rintro e w' ⟨rfl, rfl⟩)
    go_ret
    exact ⟨rfl, rfl⟩

/-- how many blocks -/
def manyV (n b : Int) : Int := if lenE n b = 0 then (n + b - 1) / b else 0
theorem manyV_bad {n b : Int} (h : lenE n b ≠ 0) : manyV n b = 0 := by simp [manyV, h]
theorem manyV_ok {n b : Int} (h : lenE n b = 0) : manyV n b = (n + b - 1) / b := by simp [manyV, h]

theorem many_p (n b : Int) (w : World) :
    Calls Try.prog 40 #[.int .i64 n, .int .i64 b] w fun e w' => e = .returned (.tuple #[.int .i64 (manyV n b), .int .i64 (lenE n b)]) ∧ w = w' := by
  have hc := length_p n b
  by_cases h : lenE n b = 0
  · obtain ⟨h1, h2, h3⟩ := lenE_zero h
    rw [manyV_ok h]
    rw [h] at hc ⊢
    have hb : 1 ≤ b ∧ b ≤ 16 := by rcases okB_cases h1 with rfl | rfl | rfl | rfl | rfl <;> omega
    obtain ⟨hb1, hb2⟩ := hb
    clear h h1
    go_enter Try.func40, Try.ntmps40
    go_wp2_with (go_at_call 59; refine (hc _).mono ?_; rintro e w' ⟨rfl, rfl⟩)
    go_ret2
    exact ⟨rfl, rfl⟩
  · rw [manyV_bad h]
    generalize lenE n b = e at *
    have he : (e != 0) = true := bne_iff_ne.2 h
    clear h
    go_enter Try.func40, Try.ntmps40
    go_wp2_with (go_at_call 59; refine (hc _).mono ?_; rintro e w' ⟨rfl, rfl⟩)
    go_ret2
    exact ⟨rfl, rfl⟩

theorem ret2_int {a b c : Int} (h : a = b) : Ending.returned (.tuple #[.int .i64 a, .int .i64 c]) = .returned (.tuple #[.int .i64 b, .int .i64 c]) := by rw [h]


theorem many_done {n b k : Int} (hb : 1 ≤ b) (h1 : n ≤ k * b) (h2 : k * b - b < n) : k = (n + b - 1) / b := by
  have e : n + b - 1 = (n + b - 1 - k * b) + k * b := by omega
  rw [e, Int.add_mul_ediv_right _ _ (by omega), Int.ediv_eq_zero_of_lt (by omega) (by omega)]
  omega

theorem many_r (n b : Int) (w : World) :
    Calls Try.prog 60 #[.int .i64 n, .int .i64 b] w fun e w' => e = .returned (.tuple #[.int .i64 (manyV n b), .int .i64 (lenE n b)]) ∧ w = w' := by
  have hc := length_r n b
  by_cases h : lenE n b = 0
  · obtain ⟨h1, h2, h3⟩ := lenE_zero h
    rw [manyV_ok h]
    rw [h] at hc ⊢
    have hb : 1 ≤ b ∧ b ≤ 16 := by rcases okB_cases h1 with rfl | rfl | rfl | rfl | rfl <;> omega
    obtain ⟨hb1, hb2⟩ := hb
    clear h h1
    go_enter Try.func60, Try.ntmps60
    go_wp2_with (go_at_call 73; refine (hc _).mono ?_; rintro e w' ⟨rfl, rfl⟩)
    go_loop [7] (fun v => ∃ k : Int, 0 ≤ k ∧ k ≤ 1000 ∧ v = .int .i64 k ∧ k * b - b < n ∧ 0 ≤ k * b) (fun v => (1001 - intOf v).toNat)
    case atStart => exact ⟨0, by omega, by omega, rfl, by omega, by omega⟩
    case round =>
      obtain ⟨k, hk0, hk1, rfl, hk2, hk3⟩ := hrel
      have hs : (k + 1) * b = k * b + b := by rw [Int.add_mul]; omega
      have hkb : k ≤ k * b := by
        have := Int.mul_le_mul_of_nonneg_left hb1 hk0
        omega
      have HS := Lib.hid hs
      clear hs
      by_cases hlt : k * b < n
      · go_wp2
        go_round
        case rel => exact ⟨k + 1, by omega, by omega, rfl, by rw [HS.out]; omega, by rw [HS.out]; omega⟩
        case measure => simp [intOf]; omega
      · go_wp2
        go_ret2
        exact ⟨ret2_int (many_done hb1 (by omega) hk2), rfl⟩
  · rw [manyV_bad h]
    generalize lenE n b = e at *
    have he : (e != 0) = true := bne_iff_ne.2 h
    clear h
    go_enter Try.func60, Try.ntmps60
    go_wp2_with (go_at_call 73; refine (hc _).mono ?_; rintro e w' ⟨rfl, rfl⟩)
    go_ret2
    exact ⟨rfl, rfl⟩



theorem manyV_bd (n b : Int) : 0 ≤ manyV n b ∧ manyV n b ≤ 1000 := by
  by_cases h : lenE n b = 0
  · rw [manyV_ok h]
    obtain ⟨h1, h2, h3⟩ := lenE_zero h
    rcases okB_cases h1 with rfl | rfl | rfl | rfl | rfl <;> omega
  · rw [manyV_bad h]; omega


end Go.Proofs.Ytdfofojlnkhjjaa
