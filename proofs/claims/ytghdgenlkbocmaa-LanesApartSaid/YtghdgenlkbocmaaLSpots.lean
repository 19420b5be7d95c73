/- Layer 17: Spots, Rules, of a plan; what a good plan is. -/
import Derived.Test.YtghdgenlkbocmaaLChkR
import Derived.Lib.QuietBelow
import Derived.IntWalk
namespace Go.Proofs.Ytghdgenlkbocmaa
open Go.RowKit

def lastL (l : List Ln) : Ln := l.getD (l.length - 1) (0, 0, 0)
theorem lastL_at {l : List Ln} {k : Nat} (h : l.length = k + 1) : lastL l = l[k] := by
  unfold lastL
  rw [List.getD_eq_getElem?_getD, show l.length - 1 = k by omega, List.getElem?_eq_getElem (by omega)]
  rfl
/-- lanes one behind the other -/
structure Chain (l : List Ln) (i n r : Int) : Prop where
  all : ∀ (k : Nat) (h : k < l.length), 1 ≤ l[k].2.2 ∧ 0 ≤ l[k].1 ∧ l[k].1 < 16 ∧ n ≤ l[k].2.1 ∧ l[k].2.1 + l[k].2.2 ≤ 256
  next : ∀ (k : Nat) (h : k + 1 < l.length), l[k + 1].2.1 = l[k].2.1 + l[k].2.2 ∧ (l[k + 1].1 = l[k].1 ∨ l[k + 1].1 = l[k].1 + 1)
  first : ∀ (h : 0 < l.length), l[0].2.1 = n ∧ (l[0].1 = r ∨ (l[0].1 = r + 1 ∧ i ≠ 0))
theorem chain_of : ∀ (l : List Ln) (i n r : Int), 0 ≤ i → (chkG l i n r).2.1 = 0 → Chain l i n r ∧ (chkG l i n r).2.2 = (if l.length = 0 then n else (lastL l).2.1 + (lastL l).2.2)
  | [], i, n, r, _, _ => ⟨⟨fun k h => by simp at h, fun k h => by simp at h, fun h => by simp at h⟩, rfl⟩
  | x :: t, i, n, r, hi, h => by
    unfold chkG at h ⊢
    split at h
    · exact absurd h (show ¬ (7 : Int) = 0 by decide)
    · split at h
      · exact absurd h (show ¬ (6 : Int) = 0 by decide)
      · split at h
        · exact absurd h (show ¬ (3 : Int) = 0 by decide)
        · rename_i a1 a2 a3
          rw [if_neg a1, if_neg a2, if_neg a3]
          obtain ⟨⟨c1, c2, c3⟩, h2⟩ := chain_of t (i + 1) (n + x.2.2) x.1 (by omega) h
          refine ⟨⟨fun k hk => ?_, fun k hk => ?_, fun _ => ?_⟩, ?_⟩
          · match k with
            | 0 => simp only [List.getElem_cons_zero]; omega
            | k + 1 =>
              have := c1 k (by simpa using hk)
              simp only [List.getElem_cons_succ]
              omega
          · match k with
            | 0 =>
              have := c3 (by simpa using hk)
              simp only [List.getElem_cons_zero, List.getElem_cons_succ]
              omega
            | k + 1 =>
              simp only [List.getElem_cons_succ]
              exact c2 k (by simpa using hk)
          · simp only [List.getElem_cons_zero]
            omega
          · rw [h2, if_neg (show ¬ (x :: t).length = 0 by simp)]
            by_cases ht : t.length = 0
            · have : t = [] := List.eq_nil_of_length_eq_zero ht
              subst this
              rw [if_pos (show ([] : List Ln).length = 0 from rfl)]
              show _ = x.2.1 + x.2.2
              omega
            · rw [if_neg ht]
              obtain ⟨k, hk⟩ : ∃ k, t.length = k + 1 := ⟨t.length - 1, by omega⟩
              rw [lastL_at hk, lastL_at (l := x :: t) (k := k + 1) (by simp [hk])]
              rfl

/-- a plan that Check finds nothing in -/
structure Good (W : Int) (l : List Ln) : Prop where
  pos : 0 < l.length
  chain : Chain l 0 0 0
  words : W = wordsV ((lastL l).2.1 + (lastL l).2.2)
theorem good_of {W : Int} {l : List Ln} (h : (checkV W l).2 = 0) : Good W l := by
  unfold checkV at h
  split at h
  · exact absurd h (by decide)
  · rename_i h0
    split at h
    · rename_i h1; exact absurd h h1
    · rename_i h1
      split at h
      · exact absurd h (by decide)
      · rename_i h2
        obtain ⟨c, e⟩ := chain_of l 0 0 0 (Int.le_refl _) (by omega)
        rw [if_neg h0] at e
        exact ⟨by omega, c, by rw [← e]; omega⟩
theorem check_zero {W : Int} {l : List Ln} (h : (checkV W l).2 = 0) : checkV W l = (0, 0) := by
  unfold checkV at *
  split at h
  · exact absurd h (by decide)
  · rename_i h0
    rw [if_neg h0]
    split at h
    · rename_i h1; exact absurd h h1
    · rename_i h1
      rw [if_neg h1]
      split at h
      · exact absurd h (by decide)
      · rename_i h2
        rw [if_neg h2]
theorem Good.last {W : Int} {l : List Ln} (h : Good W l) : 1 ≤ (lastL l).2.2 ∧ 0 ≤ (lastL l).1 ∧ (lastL l).1 < 16 ∧ 0 ≤ (lastL l).2.1 ∧ (lastL l).2.1 + (lastL l).2.2 ≤ 256 := by
  obtain ⟨k, hk⟩ : ∃ k, l.length = k + 1 := ⟨l.length - 1, by have := h.pos; omega⟩
  rw [lastL_at hk]
  exact h.chain.all k (by omega)

def spotsV (W : Int) (l : List Ln) : Int := if (checkV W l).2 = 0 then (lastL l).2.1 + (lastL l).2.2 else 0
def rulesV (W : Int) (l : List Ln) : Int := if (checkV W l).2 = 0 then (lastL l).1 + 1 else 0

set_option maxRecDepth 100000 in
set_option maxHeartbeats 1000000 in
theorem last_p (W : Int) (v : Value) (l : List Ln) (w : World) (hv : Lanes w v l) (h : 0 < l.length) : Calls Try.prog 47 #[.agg #[.int .i64 W, v]] w fun e w' => e = .returned (.agg #[.int .i64 (lastL l).1, .int .i64 (lastL l).2.1, .int .i64 (lastL l).2.2]) ∧ Below w.heap.size w w' := by
  obtain ⟨a, cap, rfl⟩ := hv.form
  have hm := Row.max hv
  obtain ⟨k, hk⟩ : ∃ k, l.length = k + 1 := ⟨l.length - 1, by omega⟩
  obtain ⟨g, o, rfl, hg, c0, c1, c2⟩ := hv.at (i := k) (by omega)
  rw [← lastL_at hk] at c0 c1 c2
  clear hv h
  rw [hk] at hm ⊢
  generalize (lastL l).1 = x at *
  generalize (lastL l).2.1 = f at *
  generalize (lastL l).2.2 = m at *
  clear hk
  go_enter Try.func47, Try.ntmps47
  go_wp2_with fail
  exact bodyPost_ret (v := .agg #[.int .i64 x, .int .i64 f, .int .i64 m]) (by simp [results, Try.results47, go_sem]) rfl ⟨rfl, ((Below.refl _ _).alloc (Nat.le_refl _) _).alloc (by simp) _⟩

@[go_sem] theorem run_fld0 (a b c : Int) (w : World) : (Instr.field 55 (.agg #[.int .i64 a, .int .i64 b, .int .i64 c]) 0).run Try.prog w = .ok (.int .i64 a) w := by kernel_rfl
@[go_sem] theorem run_fld1 (a b c : Int) (w : World) : (Instr.field 55 (.agg #[.int .i64 a, .int .i64 b, .int .i64 c]) 1).run Try.prog w = .ok (.int .i64 b) w := by kernel_rfl
@[go_sem] theorem run_fld2 (a b c : Int) (w : World) : (Instr.field 55 (.agg #[.int .i64 a, .int .i64 b, .int .i64 c]) 2).run Try.prog w = .ok (.int .i64 c) w := by kernel_rfl
set_option maxRecDepth 100000 in
set_option maxHeartbeats 2000000 in
theorem spots_p (W : Int) (v : Value) (l : List Ln) (w : World) (hv : Lanes w v l) : Calls Try.prog 19 #[.agg #[.int .i64 W, v]] w fun e w' => e = .returned (.tuple #[.int .i64 (spotsV W l), .int .i64 (checkV W l).2]) ∧ Below w.heap.size w w' := by
  have K1 := Lib.hid (fun w h => check_p W v l w h)
  have K2 := Lib.hid (fun w h h0 => last_p W v l w h h0)
  have HM := Lib.hid (ChkM.start w W v)
  have HV := Lib.hid hv
  obtain ⟨a, cap, rfl⟩ := hv.form
  clear hv
  by_cases h0 : (checkV W l).2 = 0
  · have hG := good_of h0
    rw [show spotsV W l = (lastL l).2.1 + (lastL l).2.2 by unfold spotsV; rw [if_pos h0], h0]
    rw [check_zero h0] at K1
    obtain ⟨m1, m2, m3, m4, m5⟩ := hG.last
    have HP := Lib.hid hG.pos
    clear h0 hG
    generalize (lastL l).1 = x at *
    generalize (lastL l).2.1 = f at *
    generalize (lastL l).2.2 = m at *
    obtain ⟨c0, c1⟩ := HM.out.plan.cells
    go_enter Try.func19, Try.ntmps19
    go_wp2_with fail
    refine (K1.out _ (HV.out.below HM.out.bel)).mono ?_
    rintro e w1 ⟨rfl, hb⟩
    have HM1 := Lib.hid (HM.out.keep hb rfl)
    clear c0 c1 hb
    obtain ⟨c0, c1⟩ := HM1.out.plan.cells
    have g0 := fun d os => cell_regrown c0 d os
    have g1 := fun d os => cell_regrown c1 d os
    have HC := Lib.hid (fun d os => Calls.regrown_of (d := d) (os := os) (K2.out _ ((HV.out.below HM1.out.bel).below (below_regrown w1 d os)) HP.out))
    have w1' : IntKind.i64.wrap (f + m) = f + m := IntWalk.i64_in _ (by omega)
    go_wp2_with fail
    refine wp_region_quiet_below (by kernel_rfl) (by kernel_rfl) ?_
    repeat (go_big_quiet_step ((go_at_call 47; exact HC.out _ _)))
    refine wpQuiet_nil ?_
    intro _ hw'
    obtain ⟨⟨dq, osq⟩, hw''⟩ := hw'
    subst hw''
    clear g0 g1 w1'
    go_wp2_with fail
    go_ret2
    exact ⟨rfl, next HM1.out.bel (below_regrown _ _ _)⟩
  · rw [show spotsV W l = 0 by unfold spotsV; rw [if_neg h0]]
    have e1 : ((checkV W l).2 != 0) = true := bne_iff_ne.2 h0
    generalize checkV W l = V at *
    obtain ⟨c0, c1⟩ := HM.out.plan.cells
    clear h0
    go_enter Try.func19, Try.ntmps19
    go_wp2_with fail
    refine (K1.out _ (HV.out.below HM.out.bel)).mono ?_
    rintro e w1 ⟨rfl, hb⟩
    have HM1 := Lib.hid (HM.out.keep hb rfl)
    clear c0 c1 hb
    go_wp2_with fail
    go_ret2
    exact ⟨rfl, HM1.out.bel⟩
end Go.Proofs.Ytghdgenlkbocmaa
