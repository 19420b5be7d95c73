/- fold.Close, Open, Closed. -/
import Derived.Test.YtfgfjapjpiilfaaFoldT
namespace Go.Proofs.Ytfgfjapjpiilfaa
open Go.RowKit Go.Shelf

set_option maxRecDepth 100000 in
set_option maxHeartbeats 1000000 in
theorem close_p (s : CSet) (w : World) : Calls Try.prog 20 #[setV s] w fun e w' => e = .returned (setV (s ||| turnS s)) ∧ Below w.heap.size w w' := by
  have a0 := (SetAt.new w s).alloc (.cells (setC 0#256) 36)
  have a1 := SetAt.zero (w.alloc (.cells (setC s) 36))
  rw [World.size_alloc] at a1
  have hB0 : Below w.heap.size w ((w.alloc (.cells (setC s) 36)).alloc (.cells (setC 0#256) 36)) := ((Below.refl _ _).alloc (Nat.le_refl _) _).alloc (by simp) _
  have A0 := Lib.hid a0
  have A1 := Lib.hid a1
  have HB0 := Lib.hid hB0
  clear a0 a1 hB0
  unfold setV setC
  go_enter Try.func20, Try.ntmps20
  go_wp2_with fail
  go_region_with (first
    | (go_at_call 50; refine (turned_p s _).mono ?_; rintro e w1 ⟨rfl, hb1⟩; unfold setV setC; have k0 := A0.out.after hb1 (by simp <;> omega); have k1 := A1.out.after hb1 (by simp <;> omega); obtain ⟨c0, c1, c2, c3⟩ := k0.cells; have HB1 := Lib.hid (next HB0.out.drew hb1); have l1 := k1.lt; clear hb1)
    | (go_at_call 49; refine (union_p s (turnS s) _).mono ?_; rintro e w2 ⟨rfl, hb2⟩; unfold setV setC; have k2 := k1.after hb2 l1; obtain ⟨f0, f1, f2, f3⟩ := k2.free; obtain ⟨d0, d1, d2, d3⟩ := k2.cells; have HB2 := Lib.hid (next HB1.out hb2); clear hb2))
  all_goals
    clear f0 f1 f2 f3 d0 d1 d2 d3 c0 c1 c2 c3
    obtain ⟨q0, q1, q2, q3⟩ := (k2.put (s ||| turnS s)).cells
    go_wp2_with fail
    show bodyPost _ _ _ _ _ (putSet w2 (w.heap.size + 1) (s ||| turnS s))
    exact bodyPost_ret (v := .agg #[.int .u64 _, .int .u64 _, .int .u64 _, .int .u64 _]) (by simp [results, Try.results20, go_sem, q0, q1, q2, q3]) rfl ⟨rfl, below_put HB2.out (Nat.le_succ _) _⟩

set_option maxRecDepth 100000 in
set_option maxHeartbeats 1000000 in
theorem open_p (s : CSet) (w : World) : Calls Try.prog 25 #[setV s] w fun e w' => e = .returned (setV (s &&& turnS s)) ∧ Below w.heap.size w w' := by
  have a0 := (SetAt.new w s).alloc (.cells (setC 0#256) 36)
  have a1 := SetAt.zero (w.alloc (.cells (setC s) 36))
  rw [World.size_alloc] at a1
  have hB0 : Below w.heap.size w ((w.alloc (.cells (setC s) 36)).alloc (.cells (setC 0#256) 36)) := ((Below.refl _ _).alloc (Nat.le_refl _) _).alloc (by simp) _
  have A0 := Lib.hid a0
  have A1 := Lib.hid a1
  have HB0 := Lib.hid hB0
  clear a0 a1 hB0
  unfold setV setC
  go_enter Try.func25, Try.ntmps25
  go_wp2_with fail
  go_region_with (first
    | (go_at_call 50; refine (turned_p s _).mono ?_; rintro e w1 ⟨rfl, hb1⟩; unfold setV setC; have k0 := A0.out.after hb1 (by simp <;> omega); have k1 := A1.out.after hb1 (by simp <;> omega); obtain ⟨c0, c1, c2, c3⟩ := k0.cells; have HB1 := Lib.hid (next HB0.out.drew hb1); have l1 := k1.lt; clear hb1)
    | (go_at_call 52; refine (meet_p s (turnS s) _).mono ?_; rintro e w2 ⟨rfl, hb2⟩; unfold setV setC; have k2 := k1.after hb2 l1; obtain ⟨f0, f1, f2, f3⟩ := k2.free; obtain ⟨d0, d1, d2, d3⟩ := k2.cells; have HB2 := Lib.hid (next HB1.out hb2); clear hb2))
  all_goals
    clear f0 f1 f2 f3 d0 d1 d2 d3 c0 c1 c2 c3
    obtain ⟨q0, q1, q2, q3⟩ := (k2.put (s &&& turnS s)).cells
    go_wp2_with fail
    show bodyPost _ _ _ _ _ (putSet w2 (w.heap.size + 1) (s &&& turnS s))
    exact bodyPost_ret (v := .agg #[.int .u64 _, .int .u64 _, .int .u64 _, .int .u64 _]) (by simp [results, Try.results25, go_sem, q0, q1, q2, q3]) rfl ⟨rfl, below_put HB2.out (Nat.le_succ _) _⟩

set_option maxRecDepth 100000 in
set_option maxHeartbeats 1000000 in
theorem closed_p (s : CSet) (w : World) : Calls Try.prog 22 #[setV s] w fun e w' => e = .returned (.bool (decide (turnS s = s))) ∧ Below w.heap.size w w' := by
  have a0 := SetAt.new w s
  have hB0 : Below w.heap.size w (w.alloc (.cells (setC s) 36)) := (Below.refl _ _).alloc (Nat.le_refl _) _
  have A0 := Lib.hid a0
  have HB0 := Lib.hid hB0
  clear a0 hB0
  have heq := fun w => eq_set w (turnS s) s
  unfold setV setC
  go_enter Try.func22, Try.ntmps22
  go_wp2_with fail
  go_region_with (first
    | (go_at_call 50; refine (turned_p s _).mono ?_; rintro e w1 ⟨rfl, hb1⟩; unfold setV setC; have k0 := A0.out.after hb1 (by simp <;> omega); obtain ⟨c0, c1, c2, c3⟩ := k0.cells; have HB1 := Lib.hid (next HB0.out.drew hb1); clear hb1))
  all_goals
    go_wp2_with fail
    go_ret
    exact ⟨rfl, HB1.out⟩

theorem ofNat_num {n : Nat} (h : n < 256) : (UInt8.ofNat n).toNat = n := by simp; omega
theorem mem_list (s : CSet) (b : UInt8) : b ∈ listS s ↔ hasB s b.toNat = true := by
  simp only [listS, listTo, List.mem_map, List.mem_filter, List.mem_range]
  constructor
  · rintro ⟨n, ⟨hn, hs⟩, rfl⟩
    have e : (UInt8.ofNat n).toNat = n := by simp; omega
    rw [e]; exact hs
  · intro h
    exact ⟨b.toNat, ⟨b.toNat_lt, h⟩, by simp⟩
theorem hasB_any (bs : List UInt8) (c : Nat) (hc : c < 256) : hasB (anyL bs) c = bs.any fun b => sameN c b.toNat := by
  unfold anyL
  rw [← List.foldr_reverse, ← List.any_reverse]
  induction bs.reverse with
  | nil => simp [hasB]
  | cons b l ih =>
    rw [List.foldr_cons, List.any_cons, hasB_or, ih, hasB_both _ _ hc, Bool.or_comm]
theorem close_eq (s : CSet) : closeS s = s ||| turnS s := by
  apply set_ext; intro c hc
  rw [closeS, hasB_or, hasB_or, hasB_any _ _ hc, turnS, hasB_ofF _ _ hc, Bool.eq_iff_iff, Bool.or_eq_true, Bool.or_eq_true, List.any_eq_true]
  have hx : c ^^^ 32 < 256 := Nat.xor_lt_two_pow (n := 8) hc (by decide)
  constructor
  · rintro (h | ⟨b, hb, hs⟩)
    · exact .inl h
    · rw [mem_list] at hb
      rw [same_cases hc b.toNat_lt, Bool.or_eq_true, Bool.and_eq_true, decide_eq_true_eq, decide_eq_true_eq] at hs
      rcases hs with rfl | ⟨h1, h2⟩
      · exact .inl hb
      · right
        rw [if_pos h2]
        have e : c ^^^ 32 = b.toNat := by rw [← h1, ← Nat.xor_assoc, Nat.xor_self, Nat.zero_xor]
        rw [e]; exact hb
  · rintro (h | h)
    · exact .inl h
    · by_cases hl : letN c = true
      · rw [if_pos hl] at h
        right
        refine ⟨UInt8.ofNat (c ^^^ 32), ?_, ?_⟩
        · rw [mem_list]
          have e : (UInt8.ofNat (c ^^^ 32)).toNat = c ^^^ 32 := ofNat_num hx
          rw [e]; exact h
        · have e : (UInt8.ofNat (c ^^^ 32)).toNat = c ^^^ 32 := ofNat_num hx
          rw [e, same_cases hc hx, Bool.or_eq_true, Bool.and_eq_true, decide_eq_true_eq, decide_eq_true_eq]
          right
          exact ⟨by rw [← Nat.xor_assoc, Nat.xor_self, Nat.zero_xor], hl⟩
      · rw [if_neg hl] at h
        exact .inl h

end Go.Proofs.Ytfgfjapjpiilfaa
