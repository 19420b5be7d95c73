/- CostSums: the law returns true: the steps of two pieces are those of both, and 6 K + 10; with more there are more. No conditions. -/
import Derived.Test.YtdfofojlnkhjjaaArgs
import Derived.Test.YtdfofojlnkhjjaaCSum
import Derived.Deep.RegionHeld3
import Derived.Deep.CutRange
namespace Go.Proofs.Ytdfofojlnkhjjaa.costSums
open Go.ChangeShapes Go.WideShapes Go.ChangeAt Go.RowKit

abbrev HeldC (w : World) (B : Nat) (b k l s r : Int) (W : World) : Prop :=
  ((W.cell? ⟨B, 0, none⟩ = some (.int .i64 b) ∧ W.cell? ⟨B, 1, none⟩ = some (.int .i64 k) ∧ W.cell? ⟨B, 2, none⟩ = some (.int .i64 l)) ∧ W.cell? ⟨B + 1, 0, none⟩ = some (.int .i64 s) ∧ W.cell? ⟨B + 1, 1, none⟩ = some (.int .i64 r)) ∧ B + 1 < W.heap.size ∧ Below w.heap.size w W
theorem HeldC.keep {w W W' : World} {B : Nat} {b k l s r : Int} (hb : Below W.heap.size W W') (h : HeldC w B b k l s r W) : HeldC w B b k l s r W' := by
  obtain ⟨⟨⟨c0, c1, c2⟩, c3, c4⟩, hl, hB⟩ := h
  have hl0 : B < W.heap.size := by omega
  exact ⟨⟨⟨(hb.cell (p := ⟨B, 0, none⟩) hl0).trans c0, (hb.cell (p := ⟨B, 1, none⟩) hl0).trans c1, (hb.cell (p := ⟨B, 2, none⟩) hl0).trans c2⟩, (hb.cell (p := ⟨B + 1, 0, none⟩) hl).trans c3, (hb.cell (p := ⟨B + 1, 1, none⟩) hl).trans c4⟩, Nat.lt_of_lt_of_le hl hb.size, next hB hb⟩
theorem HeldC.drewN {w W : World} {B : Nat} {b k l s r : Int} (h : HeldC w B b k l s r W) (n : Nat) : HeldC w B b k l s r (W.drewN n) := HeldC.keep (below_drewN (Below.refl _ _) n) h
theorem HeldC.keep' {w W W' : World} {B n : Nat} {b k l s r : Int} (hb : Below n W W') (h : HeldC w B b k l s r W) (hn : n = W.heap.size) : HeldC w B b k l s r W' := by subst hn; exact HeldC.keep hb h
theorem below2 (w : World) (o1 o2 : Obj) : Below w.heap.size w ((w.alloc o1).alloc o2).drew := (((Below.refl _ w).alloc (Nat.le_refl _) o1).alloc (by simp) o2).drew

set_option maxRecDepth 100000 in
set_option maxHeartbeats 2000000 in
theorem walk_ok (b k l s r x y : Int) (hx : 0 ≤ x ∧ x < 65536) (hy : 0 ≤ y ∧ y < 65536) (F : slotOk b k l s r = true) (w : World) :
    Calls Try.prog 5 #[cfgV b k l, shpV s r, .agg #[.int .u16 x, .int .u16 y]] w fun e w' => e = .returned (.bool true) ∧ Below w.heap.size w w' := by
  obtain ⟨b1, b2, bb, k1, k2, l1, l2, s1, s2, r1, r2, m1, m2⟩ := fine F
  obtain ⟨hS1, hS2, hS3, hS⟩ := three w (.cells #[.int .i64 b, .int .i64 k, .int .i64 l] 23) (.cells #[.int .i64 s, .int .i64 r] 25) (.cells #[.int .u16 x, .int .u16 y] 34)
  obtain ⟨d0, d1, d2⟩ := c3 hS1
  obtain ⟨d3, d4⟩ := c2 hS2
  obtain ⟨d5, d6⟩ := c2 hS3
  obtain ⟨nx, hnx⟩ : ∃ nx, nx = x % 500 := ⟨_, rfl⟩
  obtain ⟨m, hm⟩ : ∃ m, m = y % 500 := ⟨_, rfl⟩
  have t1 : x.tmod 500 = nx := by rw [Int.tmod_eq_emod_of_nonneg hx.1, hnx]
  have t2 : y.tmod 500 = m := by rw [Int.tmod_eq_emod_of_nonneg hy.1, hm]
  have x0 : 0 ≤ nx ∧ nx < 500 := by omega
  have y0 : 0 ≤ m ∧ m < 500 := by omega
  obtain ⟨nd, hnd⟩ : ∃ nd, nd = nx / b := ⟨_, rfl⟩
  have t3 : nx.tdiv b = nd := by rw [Int.tdiv_eq_ediv_of_nonneg x0.1, hnd]
  obtain ⟨n, hn⟩ : ∃ n, n = nd * b := ⟨_, rfl⟩
  have n0 : 0 ≤ n ∧ n < 500 := by
    have h1 : 0 ≤ nd := by rw [hnd]; exact Int.ediv_nonneg x0.1 (by omega)
    have h2 : nd * b ≤ nx := by rw [hnd]; exact Int.ediv_mul_le nx (by omega)
    have h3 : 0 ≤ nd * b := Int.mul_nonneg h1 (by omega)
    omega
  have hdiv : n = n / b * b := by rw [hn, Int.mul_ediv_cancel _ (by omega)]
  have hnd0 : 0 ≤ nd ∧ nd < 500 := by
    have h1 : 0 ≤ nd := by rw [hnd]; exact Int.ediv_nonneg x0.1 (by omega)
    have h2 : nd ≤ nx := by rw [hnd]; exact Int.ediv_le_self _ x0.1
    omega
  have t4 : IntKind.i64.wrap nd = nd := IntWalk.i64_in _ (by omega)
  have t5 : IntKind.i64.wrap (nd * b) = nd * b := by rw [← hn]; exact IntWalk.i64_in _ (by omega)
  have hb : okB b = true := by rcases bb with rfl | rfl | rfl | rfl | rfl <;> rfl
  -- what the calls return
  have en : fdE b k l s r n = 0 := by unfold fdE; rw [if_pos F]; exact lenE_ok hb n0.1 (by omega)
  have em : fdE b k l s r m = 0 := by unfold fdE; rw [if_pos F]; exact lenE_ok hb y0.1 (by omega)
  have enm : fdE b k l s r (n + m) = 0 := by unfold fdE; rw [if_pos F]; exact lenE_ok hb (by omega) (by omega)
  have hms := many_sum hb n0.1 y0.1 (by omega) hdiv
  obtain ⟨B1, B2⟩ := block_bd b1 b2 s1 s2 r1 r2 (show 1 ≤ k + b * r by omega) (show k + b * r ≤ 288 by omega)
  obtain ⟨M1, M1'⟩ := manyV_bd n b
  obtain ⟨M2, M2'⟩ := manyV_bd m b
  obtain ⟨M3, M3'⟩ := manyV_bd (n + m) b
  obtain ⟨z1, z2⟩ := mB_bd M1 M1' B1 B2
  obtain ⟨z3, z4⟩ := mB_bd M2 M2' B1 B2
  obtain ⟨z5, z6⟩ := mB_bd M3 M3' B1 B2
  have v1 : fdV b k l s r n = feedV b k s r (k + b * r) (manyV n b) := by unfold fdV; rw [if_pos en]
  have v2 : fdV b k l s r m = feedV b k s r (k + b * r) (manyV m b) := by unfold fdV; rw [if_pos em]
  have v3 : fdV b k l s r (n + m) = feedV b k s r (k + b * r) (manyV (n + m) b) := by unfold fdV; rw [if_pos enm]
  have w1 : fdV b k l s r n + fdV b k l s r m = fdV b k l s r (n + m) + (6 * k + 10) := by rw [v1, v2, v3, hms]; exact fd_sum
  have w2 : fdV b k l s r n ≤ fdV b k l s r (n + m) := by rw [v1, v3]; exact fd_le B1 (by omega)
  have w3 : fdV b k l s r m ≤ fdV b k l s r (n + m) := by rw [v2, v3]; exact fd_le B1 (by omega)
  have w4 : 0 ≤ fdV b k l s r n ∧ fdV b k l s r n ≤ 100001000 := by rw [v1]; unfold feedV; omega
  have w5 : 0 ≤ fdV b k l s r m ∧ fdV b k l s r m ≤ 100001000 := by rw [v2]; unfold feedV; omega
  have w6 : 0 ≤ fdV b k l s r (n + m) ∧ fdV b k l s r (n + m) ≤ 100001000 := by rw [v3]; unfold feedV; omega
  have P1 := Lib.hid (one_more (m := m) (k' := k + 1) (s' := s) (r' := r) F y0.1 (by omega) (.inl ⟨rfl, rfl, rfl⟩))
  have P2 := Lib.hid (one_more (m := m) (k' := k) (s' := s + 1) (r' := r) F y0.1 (by omega) (.inr (.inl ⟨rfl, rfl, rfl⟩)))
  have P3 := Lib.hid (one_more (m := m) (k' := k) (s' := s) (r' := r + 1) F y0.1 (by omega) (.inr (.inr ⟨rfl, rfl, rfl⟩)))
  have K1 := Lib.hid (fun w => by have := feed_p b k l s r n w; rwa [en] at this)
  have K2 := Lib.hid (fun w => by have := feed_p b k l s r m w; rwa [em] at this)
  have K3 := Lib.hid (fun w => by have := feed_p b k l s r (n + m) w; rwa [enm] at this)
  have Q1 := Lib.hid (fun w => feed_p b (k + 1) l s r m w)
  have Q2 := Lib.hid (fun w => feed_p b k l (s + 1) r m w)
  have Q3 := Lib.hid (fun w => feed_p b k l s (r + 1) m w)
  generalize fdV b k l s r n = A at *
  generalize fdV b k l s r m = Bm at *
  generalize fdV b k l s r (n + m) = C at *
  generalize fdV b (k + 1) l s r m = D1 at *
  generalize fdV b k l (s + 1) r m = D2 at *
  generalize fdV b k l s (r + 1) m = D3 at *
  generalize fdE b (k + 1) l s r m = E1 at *
  generalize fdE b k l (s + 1) r m = E2 at *
  generalize fdE b k l s (r + 1) m = E3 at *
  subst hn
  clear en em enm hms B1 B2 M1 M1' M2 M2' M3 M3' z1 z2 z3 z4 z5 z6 v1 v2 v3 hb hdiv hnd hnx hm bb F
  have j0 : (0 : Int) < b := by omega
  have j4 : (b == 0) = false := by simp; omega
  have j5 : ¬ b = 0 := by omega
  have j1 : A + Bm = C + 6 * k + 10 := by omega
  have j2 : ¬ C < A := by omega
  have j3 : ¬ C < Bm := by omega
  have J := Lib.hid (show HeldC w w.heap.size b k l s r (((w.alloc (.cells #[.int .i64 b, .int .i64 k, .int .i64 l] 23)).alloc (.cells #[.int .i64 s, .int .i64 r] 25)).alloc (.cells #[.int .u16 x, .int .u16 y] 34)) from ⟨⟨⟨d0, d1, d2⟩, d3, d4⟩, by simp, hS⟩)
  have q1 : IntKind.i64.wrap x = x := IntWalk.i64_in _ (by omega)
  have q2 : IntKind.i64.wrap y = y := IntWalk.i64_in _ (by omega)
  unfold cfgV shpV at *
  go_enter Try.func5, Try.ntmps5
  go_wp2_with fail
  go_quiet (fail)
  go_wp2_with fail
  go_quiet (fail)
  generalize nd * b = n at *
  clear t1 t2 t3 t4 t5 q1 q2
  go_wp2_with fail
  refine (K1.out _).mono ?_
  rintro e u1 ⟨rfl, hb⟩
  clear d0 d1 d2 d3 d4 d5 d6
  have J1 := Lib.hid (HeldC.keep' hb (HeldC.drewN J.out _) rfl)
  obtain ⟨⟨⟨d0, d1, d2⟩, d3, d4⟩, _⟩ := J1.out
  clear hb
  go_wp2_with fail
  refine (K2.out _).mono ?_
  rintro e u2 ⟨rfl, hb⟩
  clear d0 d1 d2 d3 d4
  have J2 := Lib.hid (HeldC.keep hb J1.out)
  obtain ⟨⟨⟨d0, d1, d2⟩, d3, d4⟩, _⟩ := J2.out
  clear hb
  go_wp2_with fail
  refine (K3.out _).mono ?_
  rintro e u3 ⟨rfl, hb⟩
  clear d0 d1 d2 d3 d4
  have J3 := Lib.hid (HeldC.keep hb J2.out)
  obtain ⟨⟨⟨d0, d1, d2⟩, d3, d4⟩, _⟩ := J3.out
  clear hb
  go_wp2_with fail
  go_loopw [15] (fun iv wr => ∃ i : Nat, i ≤ 3 ∧ iv = .int .i64 (i : Nat) ∧ HeldC w w.heap.size b k l s r wr) (fun iv _ => 3 - (intOf iv).toNat)
  case atStart => exact ⟨0, by omega, rfl, J3.out⟩
  case round =>
    clear d0 d1 d2 d3 d4
    obtain ⟨i, hi, rfl, hJ⟩ := hrel
    have JR := Lib.hid hJ
    clear hJ
    obtain ⟨⟨⟨d0, d1, d2⟩, d3, d4⟩, hl1, _⟩ := JR.out
    have hl0 : w.heap.size < wr.heap.size := by omega
    rcases (show i = 0 ∨ i = 1 ∨ i = 2 ∨ i = 3 by omega) with rfl | rfl | rfl | rfl
    · go_wp2_with fail
      have wk : IntKind.i64.wrap (k + 1) = k + 1 := IntWalk.i64_in _ (by omega)
      have p1 := P1.out
      by_cases he : E1 = 0
      · obtain ⟨p2, p3⟩ := p1 he
        subst he
        have p3 : m ≤ 0 ∨ 0 < m ∧ (D1 == Bm) = false := by
          by_cases h0 : 0 < m
          · exact .inr ⟨h0, beq_eq_false_iff_ne.2 (p3 h0)⟩
          · exact .inl (by omega)
        rcases p3 with p3 | ⟨p3, p4⟩
        · have p5 : ¬ 0 < m := by omega
          go_region
          all_goals
            go_wp2_with fail
            refine (Q1.out _).mono ?_
            rintro e u4 ⟨rfl, hb⟩
            have JB := Lib.hid (HeldC.keep' hb (HeldC.keep (below2 _ _ _) JR.out) rfl)
            clear hb
            go_wp2_with fail
            exact ⟨⟨1, by omega, by rfl, JB.out⟩, by simp [intOf]⟩
        · go_region
          all_goals
            go_wp2_with fail
            refine (Q1.out _).mono ?_
            rintro e u4 ⟨rfl, hb⟩
            have JB := Lib.hid (HeldC.keep' hb (HeldC.keep (below2 _ _ _) JR.out) rfl)
            clear hb
            go_wp2_with fail
            exact ⟨⟨1, by omega, by rfl, JB.out⟩, by simp [intOf]⟩
      · have he' : (E1 == 0) = false := by simp; omega
        clear p1
        go_region
        all_goals
          go_wp2_with fail
          refine (Q1.out _).mono ?_
          rintro e u4 ⟨rfl, hb⟩
          have JB := Lib.hid (HeldC.keep' hb (HeldC.keep (below2 _ _ _) JR.out) rfl)
          clear hb
          go_wp2_with fail
          exact ⟨⟨1, by omega, by rfl, JB.out⟩, by simp [intOf]⟩
    · go_wp2_with fail
      have wk : IntKind.i64.wrap (s + 1) = s + 1 := IntWalk.i64_in _ (by omega)
      have p1 := P2.out
      by_cases he : E2 = 0
      · obtain ⟨p2, p3⟩ := p1 he
        subst he
        have p3 : m ≤ 0 ∨ 0 < m ∧ (D2 == Bm) = false := by
          by_cases h0 : 0 < m
          · exact .inr ⟨h0, beq_eq_false_iff_ne.2 (p3 h0)⟩
          · exact .inl (by omega)
        rcases p3 with p3 | ⟨p3, p4⟩
        · have p5 : ¬ 0 < m := by omega
          go_region
          all_goals
            go_wp2_with fail
            refine (Q2.out _).mono ?_
            rintro e u4 ⟨rfl, hb⟩
            have JB := Lib.hid (HeldC.keep' hb (HeldC.keep (below2 _ _ _) JR.out) rfl)
            clear hb
            go_wp2_with fail
            exact ⟨⟨2, by omega, by rfl, JB.out⟩, by simp [intOf]⟩
        · go_region
          all_goals
            go_wp2_with fail
            refine (Q2.out _).mono ?_
            rintro e u4 ⟨rfl, hb⟩
            have JB := Lib.hid (HeldC.keep' hb (HeldC.keep (below2 _ _ _) JR.out) rfl)
            clear hb
            go_wp2_with fail
            exact ⟨⟨2, by omega, by rfl, JB.out⟩, by simp [intOf]⟩
      · have he' : (E2 == 0) = false := by simp; omega
        clear p1
        go_region
        all_goals
          go_wp2_with fail
          refine (Q2.out _).mono ?_
          rintro e u4 ⟨rfl, hb⟩
          have JB := Lib.hid (HeldC.keep' hb (HeldC.keep (below2 _ _ _) JR.out) rfl)
          clear hb
          go_wp2_with fail
          exact ⟨⟨2, by omega, by rfl, JB.out⟩, by simp [intOf]⟩
    · go_wp2_with fail
      have wk : IntKind.i64.wrap (r + 1) = r + 1 := IntWalk.i64_in _ (by omega)
      have p1 := P3.out
      by_cases he : E3 = 0
      · obtain ⟨p2, p3⟩ := p1 he
        subst he
        have p3 : m ≤ 0 ∨ 0 < m ∧ (D3 == Bm) = false := by
          by_cases h0 : 0 < m
          · exact .inr ⟨h0, beq_eq_false_iff_ne.2 (p3 h0)⟩
          · exact .inl (by omega)
        rcases p3 with p3 | ⟨p3, p4⟩
        · have p5 : ¬ 0 < m := by omega
          go_region
          all_goals
            go_wp2_with fail
            refine (Q3.out _).mono ?_
            rintro e u4 ⟨rfl, hb⟩
            have JB := Lib.hid (HeldC.keep' hb (HeldC.keep (below2 _ _ _) JR.out) rfl)
            clear hb
            go_wp2_with fail
            exact ⟨⟨3, by omega, by rfl, JB.out⟩, by simp [intOf]⟩
        · go_region
          all_goals
            go_wp2_with fail
            refine (Q3.out _).mono ?_
            rintro e u4 ⟨rfl, hb⟩
            have JB := Lib.hid (HeldC.keep' hb (HeldC.keep (below2 _ _ _) JR.out) rfl)
            clear hb
            go_wp2_with fail
            exact ⟨⟨3, by omega, by rfl, JB.out⟩, by simp [intOf]⟩
      · have he' : (E3 == 0) = false := by simp; omega
        clear p1
        go_region
        all_goals
          go_wp2_with fail
          refine (Q3.out _).mono ?_
          rintro e u4 ⟨rfl, hb⟩
          have JB := Lib.hid (HeldC.keep' hb (HeldC.keep (below2 _ _ _) JR.out) rfl)
          clear hb
          go_wp2_with fail
          exact ⟨⟨3, by omega, by rfl, JB.out⟩, by simp [intOf]⟩
    · go_wp2_with fail
      refine (awake_p _).mono ?_
      rintro e u4 ⟨rfl, hb⟩
      have JB := Lib.hid (HeldC.keep hb JR.out)
      clear hb
      go_wp2_with fail
      go_ret
      exact ⟨rfl, JB.out.2.2⟩
end Go.Proofs.Ytdfofojlnkhjjaa.costSums
