/- Layer 4 and what it calls of layer 3: Both, classes.each, Union, Meet. -/
import Derived.Test.YtfgfjapjpiilfaaFoldP
namespace Go.Proofs.Ytfgfjapjpiilfaa
open Go.RowKit

theorem zero_or (s : CSet) : 0#256 ||| s = s := by
  apply set_ext; intro b hb; rw [hasB_or]; simp [hasB]

set_option maxRecDepth 100000 in
set_option maxHeartbeats 1000000 in
theorem both_p (n : Nat) (hn : n < 256) (w : World) : Calls Try.prog 30 #[.int .u8 (n : Int)] w fun e w' => e = .returned (setV (bothS n)) ∧ Below w.heap.size w w' := by
  have a0 := SetAt.zero w
  have hB0 : Below w.heap.size w (w.alloc (.cells #[.int .u64 0, .int .u64 0, .int .u64 0, .int .u64 0] 36)) := (Below.refl _ _).alloc (Nat.le_refl _) _
  have A0 := Lib.hid a0
  have HB0 := Lib.hid hB0
  clear a0 hB0
  have hbc := both_cases hn
  have hx : n ^^^ 32 < 256 := Nat.xor_lt_two_pow (n := 8) hn (by decide)
  have hx8 : bits .xor .u8 (n : Int) 32 = ((n ^^^ 32 : Nat) : Int) := u8_xor_nat n 32 hn (by decide)
  have hc := fun w => letter_p n hn w
  obtain ⟨D, hD⟩ : ∃ D, D = letN n := ⟨_, rfl⟩
  rw [← hD] at hbc hc
  generalize n ^^^ 32 = m at *
  have HBC := Lib.hid hbc
  clear hbc hD
  go_enter Try.func30, Try.ntmps30
  go_wp2_with fail
  refine (add_p 0#256 n hn _).mono ?_
  rintro e w1 ⟨rfl, hb1⟩
  rw [zero_or]
  have h0 := (A0.out.below hb1 (by simp)).alloc (.cells (setC (bit n)) 36)
  have h1 := SetAt.new w1 (bit n)
  have HB1 := Lib.hid (next HB0.out hb1)
  have h00 := A0.out.below hb1 (by simp)
  have hz := h0.lt
  have lz : w.heap.size < w1.heap.size := (A0.out.below hb1 (by simp)).lt
  clear hb1
  unfold setV setC
  unfold setC at h0 h1
  go_wp2_with fail
  refine (hc _).mono ?_
  rintro e w2 ⟨rfl, rfl⟩
  cases D with
  | true =>
    have hbb : bothS n = bit n ||| bit m := by have := HBC.out; rwa [if_pos rfl] at this
    have HBB := Lib.hid hbb
    clear hbb
    go_wp2_with fail
    refine (add_p (bit n) m hx _).mono ?_
    rintro e w3 ⟨rfl, hb3⟩
    rw [← HBB.out]
    have k0 := h0.after hb3 hz
    have k1 := h1.after hb3 h1.lt
    clear h00
    obtain ⟨f0, f1, f2, f3⟩ := k1.free
    obtain ⟨d0, d1, d2, d3⟩ := k1.cells
    obtain ⟨f4, f5, f6, f7⟩ := k0.free
    obtain ⟨d4, d5, d6, d7⟩ := k0.cells
    have HB3 := Lib.hid (next (HB1.out.alloc HB1.out.size (.cells (setC (bit n)) 36)) hb3)
    clear hb3 h0 h1
    have K0 := (k0.other (Nat.ne_of_lt lz) (bothS n)).put (bothS n)
    obtain ⟨q0, q1, q2, q3⟩ := K0.cells
    unfold setV setC
    go_wp2_with fail
    show bodyPost _ _ _ _ _ (putSet (putSet w3 w1.heap.size (bothS n)) w.heap.size (bothS n))
    exact bodyPost_ret (v := .agg #[.int .u64 _, .int .u64 _, .int .u64 _, .int .u64 _]) (by simp [results, Try.results30, go_sem, q0, q1, q2, q3]) rfl ⟨rfl, below_put (below_put HB3.out (Nat.le_of_lt lz) _) (Nat.le_refl _) _⟩
  | false =>
    have hbb : bothS n = bit n := by have := HBC.out; rwa [if_neg (by simp)] at this
    have HBB := Lib.hid hbb
    clear hbb
    obtain ⟨f4, f5, f6, f7⟩ := h00.free
    obtain ⟨d4, d5, d6, d7⟩ := h00.cells
    have K0 := (h00.put (bit n)).alloc (.cells (setC (bit n)) 36)
    obtain ⟨q0, q1, q2, q3⟩ := K0.cells
    clear h0 h1
    go_wp2_with fail
    show bodyPost _ _ _ _ _ ((putSet w1 w.heap.size (bit n)).alloc (.cells (setC (bit n)) 36))
    exact bodyPost_ret (v := .agg #[.int .u64 (word (bit n) 0 : Int), .int .u64 (word (bit n) 1 : Int), .int .u64 (word (bit n) 2 : Int), .int .u64 (word (bit n) 3 : Int)]) (by simp [results, Try.results30, go_sem, q0, q1, q2, q3]) rfl ⟨by rw [HBB.out]; rfl, (below_put HB1.out (Nat.le_refl _) _).alloc (by simp [putSet, World.size_setCell]; omega) _⟩

end Go.Proofs.Ytfgfjapjpiilfaa
