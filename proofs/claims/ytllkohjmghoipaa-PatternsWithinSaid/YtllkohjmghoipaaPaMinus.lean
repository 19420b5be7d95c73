/- Layer 3's reference: Union, Minus and their kin. -/
import Derived.Test.YtllkohjmghoipaaRefOf
namespace Go.Proofs.Ytllkohjmghoipaa
open Go.RowKit

theorem hasB_and (s t : CSet) (b : Nat) : hasB (s &&& t) b = (hasB s b && hasB t b) := by simp [hasB]
theorem hasB_not (s : CSet) (b : Nat) (h : b < 256) : hasB (~~~s) b = !hasB s b := by simp [hasB, h]
theorem and_not_zero (s : CSet) : s &&& ~~~(0#256) = s := by
  apply set_ext; intro b h; rw [hasB_and, hasB_not _ _ h]; simp [hasB]
theorem and_not_or (s a b : CSet) : s &&& ~~~(a ||| b) = s &&& ~~~a &&& ~~~b := by
  apply set_ext; intro c h
  rw [hasB_and, hasB_and, hasB_and, hasB_not _ _ h, hasB_not _ _ h, hasB_not _ _ h, hasB_or]
  cases hasB s c <;> cases hasB a c <;> cases hasB b c <;> rfl

theorem word_drop (s : CSet) (b i : Nat) (hb : b < 256) (h : hasB s b = true) : word (s &&& ~~~(bit b)) i = if i = b / 64 then word s i - 2 ^ (b % 64) else word s i := by
  have hr : b % 64 < 64 := Nat.mod_lt _ (by decide)
  symm; apply eq_word
  · split
    · exact Nat.lt_of_le_of_lt (Nat.sub_le _ _) (word_lt s i)
    · exact word_lt s i
  · intro j hj
    have e : (s &&& ~~~(bit b)).getLsbD (64 * i + j) = (s.getLsbD (64 * i + j) && decide (b ≠ 64 * i + j)) := by
      by_cases hk : 64 * i + j < 256
      · have := hasB_and s (~~~(bit b)) (64 * i + j)
        rw [hasB_not _ _ hk, hasB_bit b _ hb] at this
        simpa [hasB] using this
      · rw [BitVec.getLsbD_of_ge _ _ (by omega), BitVec.getLsbD_of_ge s _ (by omega)]; rfl
    rw [e, ← word_testBit s i j hj]
    split
    · rename_i hi
      have ht : (word s i).testBit (b % 64) = true := by
        rw [word_testBit s i _ hr, hi, Nat.div_add_mod]; exact h
      rw [nat_clear _ _ _ ht]
      congr 1
      rw [Bool.eq_iff_iff]; simp; omega
    · rename_i hi
      rw [show decide (b ≠ 64 * i + j) = true by simp; omega, Bool.and_true]

theorem sub_wrap {x r : Nat} (hx : x < 18446744073709551616) (hr : r < 64) (ht : x.testBit r = true) : IntKind.u64.wrap ((x : Int) - IntKind.u64.wrap (2 ^ r)) = ((x - 2 ^ r : Nat) : Int) := by
  have hle : 2 ^ r ≤ x := Nat.ge_two_pow_of_testBit ht
  rw [wrap_pow hr, ← Int.natCast_sub hle, IntKind.wrap_u64]
  exact Int.emod_eq_of_lt (Int.natCast_nonneg _) (Int.ofNat_lt.2 (Nat.lt_of_le_of_lt (Nat.sub_le _ _) hx))

theorem drop_none {s : CSet} {b : Nat} (hb : b < 256) (h : hasB s b = false) : s &&& ~~~(bit b) = s := by
  apply set_ext; intro c hc
  rw [hasB_and, hasB_not _ _ hc, hasB_bit b c hb]
  by_cases e : b = c
  · subst e; simp [h]
  · simp [e]

set_option maxRecDepth 100000 in
set_option maxHeartbeats 1000000 in
theorem drop_r (s : CSet) (b : Nat) (hb : b < 256) (w : World) :
    Calls Try.prog 60 #[setV s, .int .u8 (b : Int)] w fun e w' => e = .returned (setV (s &&& ~~~(bit b))) ∧ Below w.heap.size w w' := by
  obtain ⟨q, r, hq, hr, e1, e2, e3, e4⟩ := byte_at b hb
  have i0 : (0 : Int) ≤ (b : Int) := by omega
  have i1 : (b : Int) ≤ 255 := by omega
  have a0 := (SetAt.new w s).alloc (.cells #[.int .u64 0, .int .u64 0, .int .u64 0, .int .u64 0] 45)
  have a1 : SetAt ((w.alloc (.cells (setC s) 45)).alloc (.cells #[.int .u64 0, .int .u64 0, .int .u64 0, .int .u64 0] 45)) (w.heap.size + 1) 0#256 := by
    have := SetAt.new (w.alloc (.cells (setC s) 45)) 0#256
    rw [World.size_alloc] at this; exact this
  have hB0 : Below w.heap.size w ((w.alloc (.cells (setC s) 45)).alloc (.cells #[.int .u64 0, .int .u64 0, .int .u64 0, .int .u64 0] 45)) := ((Below.refl _ _).alloc (Nat.le_refl _) _).alloc (by simp) _
  have A0 := Lib.hid a0
  have A1 := Lib.hid a1
  have HB0 := Lib.hid hB0
  clear a0 a1 hB0
  unfold setV setC
  by_cases hh : hasB s b = true
  · have h0 := word_drop s b 0 hb hh
    have h1 := word_drop s b 1 hb hh
    have h2 := word_drop s b 2 hb hh
    have h3 := word_drop s b 3 hb hh
    rw [e1, e2] at h0 h1 h2 h3
    have ht : (word s q).testBit r = true := by
      rw [word_testBit s q r hr, ← e1, ← e2, Nat.div_add_mod]; exact hh
    have hw := sub_wrap (word_lt s q) hr ht
    rw [h0, h1, h2, h3]
    have HW := Lib.hid hw
    clear h0 h1 h2 h3 e1 e2 ht hw
    match q, hq with
    | 0, _ =>
      go_enter Try.func60, Try.ntmps60
      go_wp2_with fail
      refine (has_r s b hb _).mono ?_
      rintro e w1 ⟨rfl, hb1⟩
      rw [hh]
      obtain ⟨c0, c1, c2, c3⟩ := (A0.out.below hb1 (by simp; omega)).cells
      obtain ⟨f0, f1, f2, f3⟩ := (A0.out.below hb1 (by simp; omega)).free
      obtain ⟨g0, g1, g2, g3⟩ := (A1.out.below hb1 (by simp)).free
      obtain ⟨d0, d1, d2, d3⟩ := (A1.out.below hb1 (by simp)).cells
      have z1 := hb1.size
      have HB1 := Lib.hid (next HB0.out hb1)
      clear hb1
      go_wp2_with fail
      rw [HW.out]
      exact bodyPost_ret (v := .agg #[.int .u64 _, .int .u64 _, .int .u64 _, .int .u64 _]) (by simp [results, Try.results60, go_sem, d0, d1, d2, d3]) rfl ⟨rfl, ((((HB1.out.setCell (p := ⟨_, _, none⟩) (Nat.le_refl _) _).setCell (p := ⟨_, _, none⟩) (by simp) _).setCell (p := ⟨_, _, none⟩) (by simp) _).setCell (p := ⟨_, _, none⟩) (by simp) _).setCell (p := ⟨_, _, none⟩) (by simp) _⟩
    | 1, _ =>
      go_enter Try.func60, Try.ntmps60
      go_wp2_with fail
      refine (has_r s b hb _).mono ?_
      rintro e w1 ⟨rfl, hb1⟩
      rw [hh]
      obtain ⟨c0, c1, c2, c3⟩ := (A0.out.below hb1 (by simp; omega)).cells
      obtain ⟨f0, f1, f2, f3⟩ := (A0.out.below hb1 (by simp; omega)).free
      obtain ⟨g0, g1, g2, g3⟩ := (A1.out.below hb1 (by simp)).free
      obtain ⟨d0, d1, d2, d3⟩ := (A1.out.below hb1 (by simp)).cells
      have z1 := hb1.size
      have HB1 := Lib.hid (next HB0.out hb1)
      clear hb1
      go_wp2_with fail
      rw [HW.out]
      exact bodyPost_ret (v := .agg #[.int .u64 _, .int .u64 _, .int .u64 _, .int .u64 _]) (by simp [results, Try.results60, go_sem, d0, d1, d2, d3]) rfl ⟨rfl, ((((HB1.out.setCell (p := ⟨_, _, none⟩) (Nat.le_refl _) _).setCell (p := ⟨_, _, none⟩) (by simp) _).setCell (p := ⟨_, _, none⟩) (by simp) _).setCell (p := ⟨_, _, none⟩) (by simp) _).setCell (p := ⟨_, _, none⟩) (by simp) _⟩
    | 2, _ =>
      go_enter Try.func60, Try.ntmps60
      go_wp2_with fail
      refine (has_r s b hb _).mono ?_
      rintro e w1 ⟨rfl, hb1⟩
      rw [hh]
      obtain ⟨c0, c1, c2, c3⟩ := (A0.out.below hb1 (by simp; omega)).cells
      obtain ⟨f0, f1, f2, f3⟩ := (A0.out.below hb1 (by simp; omega)).free
      obtain ⟨g0, g1, g2, g3⟩ := (A1.out.below hb1 (by simp)).free
      obtain ⟨d0, d1, d2, d3⟩ := (A1.out.below hb1 (by simp)).cells
      have z1 := hb1.size
      have HB1 := Lib.hid (next HB0.out hb1)
      clear hb1
      go_wp2_with fail
      rw [HW.out]
      exact bodyPost_ret (v := .agg #[.int .u64 _, .int .u64 _, .int .u64 _, .int .u64 _]) (by simp [results, Try.results60, go_sem, d0, d1, d2, d3]) rfl ⟨rfl, ((((HB1.out.setCell (p := ⟨_, _, none⟩) (Nat.le_refl _) _).setCell (p := ⟨_, _, none⟩) (by simp) _).setCell (p := ⟨_, _, none⟩) (by simp) _).setCell (p := ⟨_, _, none⟩) (by simp) _).setCell (p := ⟨_, _, none⟩) (by simp) _⟩
    | 3, _ =>
      go_enter Try.func60, Try.ntmps60
      go_wp2_with fail
      refine (has_r s b hb _).mono ?_
      rintro e w1 ⟨rfl, hb1⟩
      rw [hh]
      obtain ⟨c0, c1, c2, c3⟩ := (A0.out.below hb1 (by simp; omega)).cells
      obtain ⟨f0, f1, f2, f3⟩ := (A0.out.below hb1 (by simp; omega)).free
      obtain ⟨g0, g1, g2, g3⟩ := (A1.out.below hb1 (by simp)).free
      obtain ⟨d0, d1, d2, d3⟩ := (A1.out.below hb1 (by simp)).cells
      have z1 := hb1.size
      have HB1 := Lib.hid (next HB0.out hb1)
      clear hb1
      go_wp2_with fail
      rw [HW.out]
      exact bodyPost_ret (v := .agg #[.int .u64 _, .int .u64 _, .int .u64 _, .int .u64 _]) (by simp [results, Try.results60, go_sem, d0, d1, d2, d3]) rfl ⟨rfl, ((((HB1.out.setCell (p := ⟨_, _, none⟩) (Nat.le_refl _) _).setCell (p := ⟨_, _, none⟩) (by simp) _).setCell (p := ⟨_, _, none⟩) (by simp) _).setCell (p := ⟨_, _, none⟩) (by simp) _).setCell (p := ⟨_, _, none⟩) (by simp) _⟩
  · have hh' : hasB s b = false := by simpa using hh
    rw [drop_none hb hh']
    clear hh e1 e2
    go_enter Try.func60, Try.ntmps60
    go_wp2_with fail
    refine (has_r s b hb _).mono ?_
    rintro e w1 ⟨rfl, hb1⟩
    rw [hh']
    obtain ⟨c0, c1, c2, c3⟩ := (A0.out.below hb1 (by simp; omega)).cells
    obtain ⟨g0, g1, g2, g3⟩ := (A1.out.below hb1 (by simp)).free
    obtain ⟨d0, d1, d2, d3⟩ := (A1.out.below hb1 (by simp)).cells
    have z1 := hb1.size
    have HB1 := Lib.hid (next HB0.out hb1)
    clear hb1
    go_wp2_with fail
    exact bodyPost_ret (v := .agg #[.int .u64 _, .int .u64 _, .int .u64 _, .int .u64 _]) (by simp [results, Try.results60, go_sem, d0, d1, d2, d3]) rfl ⟨rfl, below_put HB1.out (by simp) _⟩

set_option maxRecDepth 100000 in
set_option maxHeartbeats 1000000 in
theorem minus_r (s t : CSet) (w : World) :
    Calls Try.prog 53 #[setV s, setV t] w fun e w' => e = .returned (setV (s &&& ~~~t)) ∧ Below w.heap.size w w' := by
  have a0 := SetAt.new w s
  have a1 := SetAt.new (w.alloc (.cells (setC s) 45)) t
  rw [World.size_alloc] at a1
  have a0' := (a0.alloc (.cells (setC t) 45)).alloc (.cells (setC 0#256) 45)
  have a1' := a1.alloc (.cells (setC 0#256) 45)
  clear a0 a1
  have h0 : setC 0#256 = #[.int .u64 0, .int .u64 0, .int .u64 0, .int .u64 0] := rfl
  have a2' := SetAt.new ((w.alloc (.cells (setC s) 45)).alloc (.cells (setC t) 45)) 0#256
  rw [World.size_alloc, World.size_alloc] at a2'
  rw [h0] at a0' a1' a2'
  have hB0 : Below w.heap.size w (((w.alloc (.cells (setC s) 45)).alloc (.cells (setC t) 45)).alloc (.cells #[.int .u64 0, .int .u64 0, .int .u64 0, .int .u64 0] 45)) :=
    (((Below.refl _ _).alloc (Nat.le_refl _) _).alloc (by simp) _).alloc (by simp; omega) _
  have A0 := Lib.hid a0'
  have A1 := Lib.hid a1'
  have A2 := Lib.hid a2'
  have HB0 := Lib.hid hB0
  clear a0' a1' a2' hB0 h0
  unfold setV setC
  go_enter Try.func53, Try.ntmps53
  go_wp2_with fail
  go_loopw [5] (fun i wr => ∃ k : Nat, k ≤ 256 ∧ i = .int .i64 (k : Nat) ∧ SetAt wr w.heap.size (s &&& ~~~(low t k)) ∧ SetAt wr (w.heap.size + 1) t ∧ SetAt wr (w.heap.size + 1 + 1) 0#256 ∧ Below w.heap.size w wr) (fun i _ => 256 - (intOf i).toNat)
  case atStart => exact ⟨0, by omega, rfl, by rw [low_zero, and_not_zero]; exact A0.out, A1.out, A2.out, HB0.out⟩
  case round =>
    obtain ⟨k, hk, rfl, h0, h1, h2, hB⟩ := hrel
    have l0 := h0.lt
    have l1 := h1.lt
    have l2 := h2.lt
    have hz := hB.size
    obtain ⟨c0, c1, c2, c3⟩ := h0.cells
    obtain ⟨d0, d1, d2, d3⟩ := h1.cells
    by_cases hlt : k < 256
    · have i0 : (0 : Int) ≤ (k : Int) := by omega
      have i1 : (k : Int) ≤ 255 := by omega
      go_wp2_with fail
      refine (has_r t k hlt _).mono ?_
      rintro e w1 ⟨rfl, hb1⟩
      clear c0 c1 c2 c3 d0 d1 d2 d3
      have h0' := h0.below hb1 l0
      have h1' := h1.below hb1 l1
      have h2' := h2.below hb1 l2
      have z1 := hb1.size
      have hB1 := next hB hb1
      by_cases hh : hasB t k = true
      · rw [hh]
        obtain ⟨c0, c1, c2, c3⟩ := h0'.cells
        go_wp2_with fail
        refine (drop_r (s &&& ~~~(low t k)) k hlt _).mono ?_
        rintro e w2 ⟨rfl, hb2⟩
        clear c0 c1 c2 c3
        have h0' := h0'.below hb2 (by omega)
        have h1' := h1'.below hb2 (by omega)
        have h2' := h2'.below hb2 (by omega)
        obtain ⟨c0, c1, c2, c3⟩ := h0'.cells
        obtain ⟨f0, f1, f2, f3⟩ := h0'.free
        have hB2 := Lib.hid (next hB1 hb2)
        unfold setV setC
        go_wp2_with fail
        go_roundw
        case rel => exact ⟨k + 1, by omega, by go_num, by rw [low_yes hlt hh, and_not_or]; exact h0'.put _, h1'.other (by omega) _, h2'.other (by omega) _, below_put hB2.out (Nat.le_refl _) _⟩
        case measure => simp [intOf]; omega
      · have hh' : hasB t k = false := by simpa using hh
        rw [hh']
        go_wp2_with fail
        go_roundw
        case rel => exact ⟨k + 1, by omega, by go_num, by rw [low_no hh']; exact h0', h1', h2', hB1⟩
        case measure => simp [intOf]; omega
    · obtain rfl : k = 256 := by omega
      obtain ⟨f0, f1, f2, f3⟩ := h2.free
      obtain ⟨e0, e1, e2, e3⟩ := h2.cells
      rw [low_all] at h0 c0 c1 c2 c3
      go_wp2_with fail
      obtain ⟨q0, q1, q2, q3⟩ := (h2.put (s &&& ~~~t)).cells
      show bodyPost _ _ _ _ _ (putSet wr (w.heap.size + 1 + 1) (s &&& ~~~t))
      exact bodyPost_ret (v := .agg #[.int .u64 _, .int .u64 _, .int .u64 _, .int .u64 _]) (by simp [results, Try.results53, go_sem, q0, q1, q2, q3]) rfl ⟨rfl, below_put hB (by omega) _⟩

end Go.Proofs.Ytllkohjmghoipaa
