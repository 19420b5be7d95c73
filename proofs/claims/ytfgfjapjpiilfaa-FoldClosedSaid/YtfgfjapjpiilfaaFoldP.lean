/- Layer 4 and what it calls of layer 3: letter, lower, Lower, Same, classes.Add, Both. -/
import Derived.Test.YtfgfjapjpiilfaaFoldA
namespace Go.Proofs.Ytfgfjapjpiilfaa
open Go.RowKit

def letN (n : Nat) : Bool := (decide (65 ≤ n) && decide (n ≤ 90)) || (decide (97 ≤ n) && decide (n ≤ 122))
theorem or32_all : ∀ n : Fin 256, bits .or .u8 (n.val : Int) 32 = ((n.val ||| 32 : Nat) : Int) := by decide +kernel
theorem or32 {n : Nat} (h : n < 256) : bits .or .u8 (n : Int) 32 = ((n ||| 32 : Nat) : Int) := or32_all ⟨n, h⟩
theorem letter_all : ∀ n : Fin 256, decide (IntKind.u8.wrap (((n.val ||| 32 : Nat) : Int) - 97) < 26) = letN n.val := by decide +kernel
theorem letter_num {n : Nat} (h : n < 256) : decide (IntKind.u8.wrap (((n ||| 32 : Nat) : Int) - 97) < 26) = letN n := letter_all ⟨n, h⟩
theorem low_all8 : ∀ n : Fin 256, (letN n.val = true → n.val ||| 32 = lowN n.val) ∧ (letN n.val = false → n.val = lowN n.val) := by decide +kernel
theorem low_yes8 {n : Nat} (h : n < 256) (hl : letN n = true) : n ||| 32 = lowN n := (low_all8 ⟨n, h⟩).1 hl
theorem low_no8 {n : Nat} (h : n < 256) (hl : letN n = false) : n = lowN n := (low_all8 ⟨n, h⟩).2 hl

theorem letter_p (n : Nat) (h : n < 256) (w : World) : Calls Try.prog 54 #[.int .u8 (n : Int)] w fun e w' => e = .returned (.bool (letN n)) ∧ w = w' := by
  have e1 := or32 h
  have e2 := letter_num h
  have hlt : n ||| 32 < 256 := Nat.or_lt_two_pow (n := 8) h (by decide)
  generalize n ||| 32 = m at *
  go_enter Try.func54, Try.ntmps54
  go_wp2
  go_ret
  exact ⟨by rw [← e2]; rfl, rfl⟩

theorem lowerM_p (n : Nat) (h : n < 256) (w : World) : Calls Try.prog 48 #[.int .u8 (n : Int)] w fun e w' => e = .returned (.int .u8 (lowN n : Int)) ∧ w = w' := by
  have hc := fun w => letter_p n h w
  by_cases hD : letN n = true
  · rw [hD] at hc
    have E := Lib.hid (low_yes8 h hD)
    have e1 := or32 h
    generalize n ||| 32 = m at *
    clear hD
    go_enter Try.func48, Try.ntmps48
    go_wp2_with fail
    refine (hc _).mono ?_
    rintro e w1 ⟨rfl, rfl⟩
    go_wp2_with fail
    go_ret
    exact ⟨by rw [← E.out]; rfl, rfl⟩
  · have hD' : letN n = false := by simpa using hD
    rw [hD'] at hc
    have E := Lib.hid (low_no8 h hD')
    clear hD hD'
    go_enter Try.func48, Try.ntmps48
    go_wp2_with fail
    refine (hc _).mono ?_
    rintro e w1 ⟨rfl, rfl⟩
    go_wp2_with fail
    go_ret
    exact ⟨by rw [← E.out]; rfl, rfl⟩

theorem lower_p (n : Nat) (h : n < 256) (w : World) : Calls Try.prog 19 #[.int .u8 (n : Int)] w fun e w' => e = .returned (.int .u8 (lowN n : Int)) ∧ w = w' := by
  go_enter Try.func19, Try.ntmps19
  go_wp2_with fail
  refine (lowerM_p n h _).mono ?_
  rintro e w1 ⟨rfl, rfl⟩
  go_wp2_with fail
  go_ret
  exact ⟨rfl, rfl⟩

theorem xor32_all : ∀ n : Fin 256, n.val ^^^ 32 = (if n.val / 32 % 2 = 1 then n.val - 32 else n.val + 32) := by decide +kernel
theorem xor32 {n : Nat} (h : n < 256) : n ^^^ 32 = if n / 32 % 2 = 1 then n - 32 else n + 32 := xor32_all ⟨n, h⟩
theorem xor_eq {a b : Nat} (ha : a < 256) : (a ^^^ b = 32) ↔ b = (if a / 32 % 2 = 1 then a - 32 else a + 32) := by
  rw [← xor32 ha]
  constructor
  · intro h; rw [← h, ← Nat.xor_assoc, Nat.xor_self, Nat.zero_xor]
  · rintro rfl; rw [← Nat.xor_assoc, Nat.xor_self, Nat.zero_xor]
theorem same_cases {a b : Nat} (ha : a < 256) (hb : b < 256) : sameN a b = (decide (a = b) || (decide (a ^^^ b = 32) && letN a)) := by
  have hx := xor_eq (b := b) ha
  rw [Bool.eq_iff_iff]
  simp only [sameN, lowN, letN, beq_iff_eq, Bool.or_eq_true, Bool.and_eq_true, decide_eq_true_eq, hx]
  split <;> split <;> split <;> omega

theorem same_p (a b : Nat) (ha : a < 256) (hb : b < 256) (w : World) : Calls Try.prog 27 #[.int .u8 (a : Int), .int .u8 (b : Int)] w fun e w' => e = .returned (.bool (sameN a b)) ∧ w = w' := by
  have hs := same_cases ha hb
  have HS := Lib.hid hs
  clear hs
  by_cases h1 : a = b
  · subst h1
    have e : sameN a a = true := by rw [HS.out]; simp
    have hd : ((a : Int) == (a : Int)) = true := by simp
    go_enter Try.func27, Try.ntmps27
    go_wp2_with fail
    go_ret
    exact ⟨by first | rfl | (rw [e]; rfl), rfl⟩
  · have hd : ((a : Int) == (b : Int)) = false := by rw [beq_eq_false_iff_ne]; omega
    have hx := u8_xor_nat a b ha hb
    by_cases h2 : a ^^^ b = 32
    · have e : sameN a b = letN a := by rw [HS.out, decide_eq_false h1, decide_eq_true h2]; simp
      have hc := fun w => letter_p a ha w
      rw [h2] at hx
      have E := Lib.hid e
      clear e h1 h2
      go_enter Try.func27, Try.ntmps27
      go_wp2_with fail
      refine (hc _).mono ?_
      rintro e w1 ⟨rfl, rfl⟩
      go_wp2_with fail
      go_ret
      exact ⟨by rw [E.out]; rfl, rfl⟩
    · have e : sameN a b = false := by rw [HS.out, decide_eq_false h1, decide_eq_false h2]; simp
      have E := Lib.hid e
      have hd2 : (((a ^^^ b : Nat) : Int) == 32) = false := by rw [beq_eq_false_iff_ne]; omega
      generalize a ^^^ b = c at *
      clear e h1 h2
      go_enter Try.func27, Try.ntmps27
      go_wp2_with fail
      go_ret
      exact ⟨by rw [E.out]; rfl, rfl⟩

theorem both_cases {n : Nat} (h : n < 256) : bothS n = if letN n = true then bit n ||| bit (n ^^^ 32) else bit n := by
  have hx : n ^^^ 32 < 256 := Nat.xor_lt_two_pow (n := 8) h (by decide)
  apply set_ext; intro b hb
  rw [hasB_both n b hb, same_cases hb h]
  have e : decide (b ^^^ n = 32) = decide (n ^^^ 32 = b) := by
    rw [Bool.eq_iff_iff, decide_eq_true_eq, decide_eq_true_eq]
    constructor
    · intro g; rw [← g, Nat.xor_comm b n, ← Nat.xor_assoc, Nat.xor_self, Nat.zero_xor]
    · intro g; rw [← g, Nat.xor_comm n 32, Nat.xor_assoc, Nat.xor_self, Nat.xor_zero]
  have e2 : decide (b ^^^ n = 32) = true → letN b = letN n := by
    intro g
    rw [decide_eq_true_eq, xor_eq hb] at g
    rw [Bool.eq_iff_iff]
    simp only [letN, Bool.or_eq_true, Bool.and_eq_true, decide_eq_true_eq]
    split at g <;> omega
  have e3 : decide (b = n) = decide (n = b) := by rw [Bool.eq_iff_iff]; simp [eq_comm]
  split
  · rename_i hl
    rw [hasB_or, hasB_bit n b h, hasB_bit _ b hx, e3, ← e]
    cases hq : decide (b ^^^ n = 32) with
    | true => rw [e2 hq, hl]; simp
    | false => simp
  · rename_i hl
    rw [hasB_bit n b h, e3]
    cases hq : decide (b ^^^ n = 32) with
    | true => rw [e2 hq]; simp at hl; simp [hl]
    | false => simp

set_option maxHeartbeats 400000 in
theorem add_p (s : CSet) (b : Nat) (hb : b < 256) (w : World) :
    Calls Try.prog 55 #[setV s, .int .u8 (b : Int)] w fun e w' => e = .returned (setV (s ||| bit b)) ∧ Below w.heap.size w w' := by
  obtain ⟨q, r, hq, hr, e1, e2, e3, e4⟩ := byte_at b hb
  have i0 : (0 : Int) ≤ (b : Int) := by omega
  have i1 : (b : Int) ≤ 255 := by omega
  have ha : bits .and .u8 (b : Int) 63 = (r : Int) := by
    have := u8_and_nat b 63 hb (by decide)
    have e : b &&& 63 = b % 64 := Nat.and_two_pow_sub_one_eq_mod b 6
    rw [e, e2] at this
    exact this
  have h0 := word_add s b 0 hb
  have h1 := word_add s b 1 hb
  have h2 := word_add s b 2 hb
  have h3 := word_add s b 3 hb
  rw [e1, e2] at h0 h1 h2 h3
  have HH : setV (s ||| bit b) = .agg #[.int .u64 ((if 0 = q then word s 0 ||| 2 ^ r else word s 0 : Nat) : Int), .int .u64 ((if 1 = q then word s 1 ||| 2 ^ r else word s 1 : Nat) : Int), .int .u64 ((if 2 = q then word s 2 ||| 2 ^ r else word s 2 : Nat) : Int), .int .u64 ((if 3 = q then word s 3 ||| 2 ^ r else word s 3 : Nat) : Int)] := by
    unfold setV setC; rw [h0, h1, h2, h3]
  rw [HH]
  clear HH h0 h1 h2 h3 e1 e2
  have w0 := word_lt s 0
  have w1 := word_lt s 1
  have w2 := word_lt s 2
  have w3 := word_lt s 3
  unfold setV setC
  match q, hq with
  | 0, _ =>
    go_enter Try.func55, Try.ntmps55
    go_wp2
    rw [or_wrap w0 hr]
    exact bodyPost_ret (v := .agg #[.int .u64 _, .int .u64 _, .int .u64 _, .int .u64 _]) (by simp [results, Try.results55, go_sem]) rfl ⟨rfl, ((Below.refl _ _).alloc (Nat.le_refl _) _).alloc (by simp) _⟩
  | 1, _ =>
    go_enter Try.func55, Try.ntmps55
    go_wp2
    rw [or_wrap w1 hr]
    exact bodyPost_ret (v := .agg #[.int .u64 _, .int .u64 _, .int .u64 _, .int .u64 _]) (by simp [results, Try.results55, go_sem]) rfl ⟨rfl, ((Below.refl _ _).alloc (Nat.le_refl _) _).alloc (by simp) _⟩
  | 2, _ =>
    go_enter Try.func55, Try.ntmps55
    go_wp2
    rw [or_wrap w2 hr]
    exact bodyPost_ret (v := .agg #[.int .u64 _, .int .u64 _, .int .u64 _, .int .u64 _]) (by simp [results, Try.results55, go_sem]) rfl ⟨rfl, ((Below.refl _ _).alloc (Nat.le_refl _) _).alloc (by simp) _⟩
  | 3, _ =>
    go_enter Try.func55, Try.ntmps55
    go_wp2
    rw [or_wrap w3 hr]
    exact bodyPost_ret (v := .agg #[.int .u64 _, .int .u64 _, .int .u64 _, .int .u64 _]) (by simp [results, Try.results55, go_sem]) rfl ⟨rfl, ((Below.refl _ _).alloc (Nat.le_refl _) _).alloc (by simp) _⟩

end Go.Proofs.Ytfgfjapjpiilfaa
