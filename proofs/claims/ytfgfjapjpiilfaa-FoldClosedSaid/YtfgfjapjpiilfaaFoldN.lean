/- Layer 4: what its functions compute, in numbers, lists and sets; the reference's Lower, Same, Both. -/
import Derived.Test.YtfgfjapjpiilfaaRefE
import Derived.BigQuiet
namespace Go.Proofs.Ytfgfjapjpiilfaa
open Go.RowKit

def lowN (n : Nat) : Nat := if 65 ≤ n ∧ n ≤ 90 then n + 32 else n
theorem lowN_lt {n : Nat} (h : n < 256) : lowN n < 256 := by unfold lowN; split <;> omega
def sameN (a b : Nat) : Bool := lowN a == lowN b
def bothS (n : Nat) : CSet := ofF fun i => sameN i n
def bothTo (n k : Nat) : CSet := ofF fun i => decide (i < k) && sameN i n
theorem hasB_both (n b : Nat) (hb : b < 256) : hasB (bothS n) b = sameN b n := hasB_ofF _ b hb
theorem bothTo_zero (n : Nat) : bothTo n 0 = 0#256 := by
  apply set_ext; intro b hb
  rw [bothTo, hasB_ofF _ _ hb]; simp [hasB]
theorem bothTo_all (n : Nat) : bothTo n 256 = bothS n := by
  apply set_ext; intro b hb
  rw [bothTo, hasB_ofF _ _ hb, hasB_both _ _ hb]; simp [hb]
theorem bothTo_yes {n k : Nat} (hk : k < 256) (h : sameN k n = true) : bothTo n (k + 1) = bothTo n k ||| bit k := by
  apply set_ext; intro b hb
  rw [hasB_or, bothTo, bothTo, hasB_ofF _ _ hb, hasB_ofF _ _ hb, hasB_bit k b hk]
  by_cases e : k = b
  · subst e; simp [h]
  · have : decide (b < k + 1) = decide (b < k) := by rw [Bool.eq_iff_iff]; simp; omega
    rw [this]; simp [e]
theorem bothTo_no {n k : Nat} (h : sameN k n = false) : bothTo n (k + 1) = bothTo n k := by
  apply set_ext; intro b hb
  rw [bothTo, bothTo, hasB_ofF _ _ hb, hasB_ofF _ _ hb]
  by_cases e : k = b
  · subst e; simp [h]
  · have : decide (b < k + 1) = decide (b < k) := by rw [Bool.eq_iff_iff]; simp; omega
    rw [this]

theorem lower4 (n : Nat) (hn : n < 256) (w : World) : Calls Try.prog 29 #[.int .u8 (n : Int)] w fun e w' => e = .returned (.int .u8 (lowN n : Int)) ∧ w = w' := by
  by_cases h1 : 65 ≤ n
  · by_cases h2 : n ≤ 90
    · have e : lowN n = n + 32 := by unfold lowN; rw [if_pos ⟨h1, h2⟩]
      rw [e]; clear e
      have h3 : (65 : Int) ≤ (n : Int) := by omega
      have h4 : (n : Int) ≤ 90 := by omega
      go_enter Try.func29, Try.ntmps29
      go_wp2
      go_ret
      exact ⟨by go_num, rfl⟩
    · have e : lowN n = n := by unfold lowN; rw [if_neg (by omega)]
      rw [e]; clear e
      have h3 : (65 : Int) ≤ (n : Int) := by omega
      have h4 : ¬ (n : Int) ≤ 90 := by omega
      go_enter Try.func29, Try.ntmps29
      go_wp2
      go_ret
      exact ⟨rfl, rfl⟩
  · have e : lowN n = n := by unfold lowN; rw [if_neg (by omega)]
    rw [e]; clear e
    have h3 : ¬ (65 : Int) ≤ (n : Int) := by omega
    go_enter Try.func29, Try.ntmps29
    go_wp2
    go_ret
    exact ⟨rfl, rfl⟩

theorem same4 (a b : Nat) (ha : a < 256) (hb : b < 256) (w : World) : Calls Try.prog 28 #[.int .u8 (a : Int), .int .u8 (b : Int)] w fun e w' => e = .returned (.bool (sameN a b)) ∧ w = w' := by
  go_enter Try.func28, Try.ntmps28
  go_wp2_with fail
  refine (lower4 a ha _).mono ?_
  rintro e w1 ⟨rfl, rfl⟩
  go_wp2_with fail
  refine (lower4 b hb _).mono ?_
  rintro e w1 ⟨rfl, rfl⟩
  go_wp2_with fail
  go_ret
  refine ⟨?_, rfl⟩
  have e : ((lowN a : Int) == (lowN b : Int)) = sameN a b := by
    unfold sameN; rw [Bool.eq_iff_iff, beq_iff_eq, beq_iff_eq]; omega
  rw [e]; rfl

set_option maxRecDepth 100000 in
set_option maxHeartbeats 1000000 in
theorem both4 (n : Nat) (hn : n < 256) (w : World) : Calls Try.prog 31 #[.int .u8 (n : Int)] w fun e w' => e = .returned (setV (bothS n)) ∧ Below w.heap.size w w' := by
  have a0 := (SetAt.zero w).alloc (.cells #[.int .u64 0, .int .u64 0, .int .u64 0, .int .u64 0] 36)
  have a1 := SetAt.zero (w.alloc (.cells #[.int .u64 0, .int .u64 0, .int .u64 0, .int .u64 0] 36))
  rw [World.size_alloc] at a1
  have hB0 : Below w.heap.size w ((w.alloc (.cells #[.int .u64 0, .int .u64 0, .int .u64 0, .int .u64 0] 36)).alloc (.cells #[.int .u64 0, .int .u64 0, .int .u64 0, .int .u64 0] 36)) := ((Below.refl _ _).alloc (Nat.le_refl _) _).alloc (by simp) _
  have A0 := Lib.hid a0
  have A1 := Lib.hid a1
  have HB0 := Lib.hid hB0
  clear a0 a1 hB0
  go_enter Try.func31, Try.ntmps31
  go_wp2_with fail
  go_loopw [4] (fun iv wr => ∃ k : Nat, k ≤ 256 ∧ iv = .int .i64 (k : Nat) ∧ SetAt wr w.heap.size 0#256 ∧ SetAt wr (w.heap.size + 1) (bothTo n k) ∧ Below w.heap.size w wr) (fun iv _ => 256 - (intOf iv).toNat)
  case atStart => exact ⟨0, by omega, rfl, A0.out, by rw [bothTo_zero]; exact A1.out, HB0.out⟩
  case round =>
    obtain ⟨k, hk, rfl, h0, h1, hB⟩ := hrel
    have l0 := h0.lt
    have l1 := h1.lt
    have hz := hB.size
    by_cases hlt : k < 256
    · have i1 : (0 : Int) ≤ (k : Int) := by omega
      have i2 : (k : Int) ≤ 255 := by omega
      go_wp2_with fail
      refine (same4 k n hlt hn _).mono ?_
      rintro e w1 ⟨rfl, rfl⟩
      by_cases hh : sameN k n = true
      · rw [hh]
        obtain ⟨c0, c1, c2, c3⟩ := h1.cells
        go_wp2_with fail
        refine (add_r (bothTo n k) k hlt _).mono ?_
        rintro e w2 ⟨rfl, hb2⟩
        clear c0 c1 c2 c3
        have k0 := h0.below hb2 l0
        have k1 := h1.below hb2 l1
        obtain ⟨f0, f1, f2, f3⟩ := k1.free
        obtain ⟨d0, d1, d2, d3⟩ := k1.cells
        have HB2 := Lib.hid (next hB hb2)
        clear hb2
        unfold setV setC
        go_wp2_with fail
        go_roundw
        case rel => exact ⟨k + 1, by omega, by go_num, k0.other (by omega) _, by rw [bothTo_yes hlt hh]; exact k1.put _, below_put HB2.out (by omega) _⟩
        case measure => simp [intOf]; omega
      · have hh' : sameN k n = false := by simpa using hh
        rw [hh']
        go_wp2_with fail
        go_roundw
        case rel => exact ⟨k + 1, by omega, by go_num, h0, by rw [bothTo_no hh']; exact h1, hB⟩
        case measure => simp [intOf]; omega
    · obtain rfl : k = 256 := by omega
      rw [bothTo_all] at h1
      obtain ⟨c0, c1, c2, c3⟩ := h1.cells
      obtain ⟨d0, d1, d2, d3⟩ := h0.cells
      obtain ⟨f0, f1, f2, f3⟩ := h0.free
      go_wp2_with fail
      obtain ⟨q0, q1, q2, q3⟩ := (h0.put (bothS n)).cells
      show bodyPost _ _ _ _ _ (putSet _ w.heap.size (bothS n))
      exact bodyPost_ret (v := .agg #[.int .u64 _, .int .u64 _, .int .u64 _, .int .u64 _]) (by simp [results, Try.results31, go_sem, q0, q1, q2, q3]) rfl ⟨rfl, below_put hB (Nat.le_refl _) _⟩

end Go.Proofs.Ytfgfjapjpiilfaa
