/- Layer 3: Sub of both; Meet of the program. -/
import Derived.Test.YtllkohjmghoipaaPaMinus
import Derived.Test.YtllkohjmghoipaaPEq
import Derived.Test.YtllkohjmghoipaaHasP
import Derived.Shelf.Abstract
import Derived.Lib.QuietBelow
import Derived.BigQuiet
namespace Go.Proofs.Ytllkohjmghoipaa
open Go.RowKit Go.Shelf

set_option maxRecDepth 100000 in
set_option maxHeartbeats 1000000 in
theorem sub_r (s t : CSet) (w : World) : Calls Try.prog 45 #[setV s, setV t] w fun e w' => e = .returned (.bool (decide (s &&& ~~~t = 0#256))) ∧ Below w.heap.size w w' := by
  unfold setV setC
  go_enter Try.func45, Try.ntmps45
  go_wp2_with fail
  refine (minus_r s t _).mono ?_
  rintro e w1 ⟨rfl, hb1⟩
  have HB1 := Lib.hid hb1
  clear hb1
  have heq := eq_none w1 (s &&& ~~~t)
  unfold setV setC
  go_wp2_with fail
  go_ret
  exact ⟨rfl, (((Below.refl _ _).alloc (Nat.le_refl _) _).alloc (by simp) _).trans (HB1.out.mono (by simp; omega))⟩
def fullS : CSet := BitVec.allOnes 256
theorem hasB_full (b : Nat) (hb : b < 256) : hasB fullS b = true := by simp only [fullS, hasB, BitVec.getLsbD_allOnes, hb, decide_true]
theorem SetAt.wordAt {w : World} {B k : Nat} {s : CSet} (h : SetAt w B s) (hk : k < 4) : w.cell? ⟨B, k, none⟩ = some (.int .u64 (word s k : Int)) := by
  obtain ⟨c0, c1, c2, c3⟩ := h.cells
  match k, hk with
  | 0, _ => exact c0
  | 1, _ => exact c1
  | 2, _ => exact c2
  | 3, _ => exact c3
theorem SetAt.freeAt {w : World} {B k : Nat} {s : CSet} (h : SetAt w B s) (hk : k < 4) : w.frozen? ⟨B, k, none⟩ = false := by
  obtain ⟨c0, c1, c2, c3⟩ := h.free
  match k, hk with
  | 0, _ => exact c0
  | 1, _ => exact c1
  | 2, _ => exact c2
  | 3, _ => exact c3
theorem SetAt.setw {w : World} {B k v : Nat} {s s' : CSet} (h : SetAt w B s) (hk : k < 4) (hv : word s' k = v) (ho : ∀ i, i < 4 → i ≠ k → word s' i = word s i) : SetAt (w.setCell ⟨B, k, none⟩ (.int .u64 (v : Int))) B s' := by
  unfold SetAt
  rw [heap_setCell_at _ h]
  subst hv
  match k, hk with
  | 0, _ => simp [setC, ho 1 (by decide) (by decide), ho 2 (by decide) (by decide), ho 3 (by decide) (by decide)]
  | 1, _ => simp [setC, ho 0 (by decide) (by decide), ho 2 (by decide) (by decide), ho 3 (by decide) (by decide)]
  | 2, _ => simp [setC, ho 0 (by decide) (by decide), ho 1 (by decide) (by decide), ho 3 (by decide) (by decide)]
  | 3, _ => simp [setC, ho 0 (by decide) (by decide), ho 1 (by decide) (by decide), ho 2 (by decide) (by decide)]
theorem SetAt.off {w : World} {B B' k : Nat} {s : CSet} (h : SetAt w B s) (hB : B ≠ B') (v : Value) : SetAt (w.setCell ⟨B', k, none⟩ v) B s := by
  unfold SetAt
  rw [Below.heap_setCell _ _ _ _ hB]
  exact h
set_option maxRecDepth 100000 in
set_option maxHeartbeats 1000000 in
theorem each_p (fid : FuncId) (hent : ∀ args w, (callFunc fid args).run Try.prog w = .ok (.enter fid args) w) (F : Nat → Nat → Nat) (s t : CSet) (M : Nat → CSet) (h0 : M 0 = s) (hk : ∀ k, k < 4 → word (M k) k = word s k ∧ word (M (k + 1)) k = F (word s k) (word t k) ∧ ∀ i, i < 4 → i ≠ k → word (M (k + 1)) i = word (M k) i)
    (hf : ∀ k, k < 4 → ∀ w, Calls Try.prog fid #[.int .u64 (word s k : Int), .int .u64 (word t k : Int)] w fun e w' => e = .returned (.int .u64 (F (word s k) (word t k) : Int)) ∧ w = w') (w : World) :
    Calls Try.prog 58 #[setV s, setV t, .func (.func fid) #[] #[]] w fun e w' => e = .returned (setV (M 4)) ∧ Below w.heap.size w w' := by
  have a0 := ((SetAt.new w s).alloc (.cells (setC t) 45)).alloc (.cells #[.int .u64 0, .int .u64 0, .int .u64 0, .int .u64 0] 45)
  have a1 := (SetAt.new (w.alloc (.cells (setC s) 45)) t).alloc (.cells #[.int .u64 0, .int .u64 0, .int .u64 0, .int .u64 0] 45)
  rw [World.size_alloc] at a1
  have a2 := SetAt.zero ((w.alloc (.cells (setC s) 45)).alloc (.cells (setC t) 45))
  rw [World.size_alloc, World.size_alloc] at a2
  have hB0 : Below w.heap.size w (((w.alloc (.cells (setC s) 45)).alloc (.cells (setC t) 45)).alloc (.cells #[.int .u64 0, .int .u64 0, .int .u64 0, .int .u64 0] 45)) := (((Below.refl _ _).alloc (Nat.le_refl _) _).alloc (by simp) _).alloc (by simp; omega) _
  have A0 := Lib.hid a0
  have A1 := Lib.hid a1
  have A2 := Lib.hid a2
  have HB0 := Lib.hid hB0
  have HK := Lib.hid hk
  have HF := Lib.hid hf
  have H0 := Lib.hid h0
  clear a0 a1 a2 hB0 hk hf h0
  unfold setV setC
  go_enter Try.func58, Try.ntmps58
  go_wp2_with fail
  go_loopw [8] (fun iv wr => ∃ k : Nat, k ≤ 4 ∧ iv = .int .i64 (k : Nat) ∧ SetAt wr w.heap.size (M k) ∧ SetAt wr (w.heap.size + 1) t ∧ SetAt wr (w.heap.size + 1 + 1) 0#256 ∧ Below w.heap.size w wr) (fun iv _ => 4 - (intOf iv).toNat)
  case atStart => exact ⟨0, by omega, rfl, by rw [H0.out]; exact A0.out, A1.out, A2.out, HB0.out⟩
  case round =>
    obtain ⟨k, hk, rfl, h0, h1, h2, hB⟩ := hrel
    have l0 := h0.lt
    have l1 := h1.lt
    have l2 := h2.lt
    by_cases hlt : k < 4
    · obtain ⟨e1, e2, e3⟩ := HK.out k hlt
      have c0 := h0.wordAt hlt
      rw [e1] at c0
      have c1 := h1.wordAt hlt
      have f0 := h0.freeAt hlt
      have HS := Lib.hid (fun (W : World) (hW : SetAt W w.heap.size (M k)) => SetAt.setw hW hlt e2 e3)
      have hc := HF.out k hlt
      have i1 : (0 : Int) ≤ (k : Int) := by omega
      have i2 : (k : Int) < 4 := by omega
      generalize F (word s k) (word t k) = v at *
      generalize word s k = x at *
      generalize word t k = y at *
      clear e1 e2 e3
      go_wp2_with fail
      go_region_with (first
        | (go_at_fn fid; refine (hc _).mono ?_; rintro e w2 ⟨rfl, rfl⟩))
      all_goals
        go_wp2_with fail
        exact ⟨⟨k + 1, by omega, by go_num, HS.out _ h0, h1.off (by omega) _, h2.off (by omega) _, (hB.setCell (p := ⟨w.heap.size, k, none⟩) (Nat.le_refl _) _).drew⟩, by simp [intOf]; omega⟩
    · obtain rfl : k = 4 := by omega
      obtain ⟨c0, c1, c2, c3⟩ := h0.cells
      obtain ⟨d0, d1, d2, d3⟩ := h2.cells
      obtain ⟨f0, f1, f2, f3⟩ := h2.free
      go_wp2_with fail
      obtain ⟨q0, q1, q2, q3⟩ := (h2.put (M 4)).cells
      show bodyPost _ _ _ _ _ (putSet wr (w.heap.size + 1 + 1) (M 4))
      exact bodyPost_ret (v := .agg #[.int .u64 _, .int .u64 _, .int .u64 _, .int .u64 _]) (by simp [results, Try.results58, go_sem, q0, q1, q2, q3]) rfl ⟨rfl, below_put hB (by omega) _⟩
def mixS (s u : CSet) (k : Nat) : CSet := low u (64 * k) ||| (s &&& ~~~(low fullS (64 * k)))
theorem hasB_mix (s u : CSet) (k b : Nat) (hb : b < 256) : hasB (mixS s u k) b = if b < 64 * k then hasB u b else hasB s b := by
  unfold mixS
  rw [hasB_or, hasB_and, hasB_not _ _ hb, hasB_low, hasB_low, hasB_full _ hb]
  by_cases h : b < 64 * k <;> simp [h]
theorem word_mix (s u : CSet) (k i : Nat) (hi : i < 4) : word (mixS s u k) i = if i < k then word u i else word s i := by
  apply Nat.eq_of_testBit_eq
  intro j
  by_cases hj : j < 64
  · have hm := hasB_mix s u k (64 * i + j) (by omega)
    rw [word_testBit _ _ _ hj]
    show hasB _ _ = _
    rw [hm]
    by_cases h : i < k
    · rw [if_pos (by omega), if_pos h, word_testBit _ _ _ hj]; rfl
    · rw [if_neg (by omega), if_neg h, word_testBit _ _ _ hj]; rfl
  · rw [word_testBit_ge _ _ _ (by omega)]
    split <;> rw [word_testBit_ge _ _ _ (by omega)]
theorem mix_zero (s u : CSet) : mixS s u 0 = s := by
  apply set_ext; intro b hb; rw [hasB_mix _ _ _ _ hb, if_neg (by omega)]
theorem mix_all (s u : CSet) : mixS s u 4 = u := by
  apply set_ext; intro b hb; rw [hasB_mix _ _ _ _ hb, if_pos (by omega)]
theorem mix_step (s t u : CSet) (F : Nat → Nat → Nat) (hu : ∀ i, i < 4 → word u i = F (word s i) (word t i)) (k : Nat) (hk : k < 4) :
    word (mixS s u k) k = word s k ∧ word (mixS s u (k + 1)) k = F (word s k) (word t k) ∧ ∀ i, i < 4 → i ≠ k → word (mixS s u (k + 1)) i = word (mixS s u k) i := by
  refine ⟨by rw [word_mix _ _ _ _ hk, if_neg (by omega)], by rw [word_mix _ _ _ _ hk, if_pos (by omega), hu k hk], fun i hi hne => ?_⟩
  rw [word_mix _ _ _ _ hi, word_mix _ _ _ _ hi]
  by_cases h : i < k
  · rw [if_pos h, if_pos (by omega)]
  · rw [if_neg h, if_neg (by omega)]
theorem meetF_p (x y : Nat) (hx : x < 18446744073709551616) (hy : y < 18446744073709551616) (w : World) : Calls Try.prog 59 #[.int .u64 (x : Int), .int .u64 (y : Int)] w fun e w' => e = .returned (.int .u64 ((x &&& y : Nat) : Int)) ∧ w = w' := by
  have h := u64_and_nat x y hx hy
  go_enter Try.func59, Try.ntmps59
  go_wp2
  go_ret
  first | exact ⟨rfl, rfl⟩ | exact ⟨by rw [← h]; rfl, rfl⟩
set_option maxRecDepth 100000 in
set_option maxHeartbeats 1000000 in
theorem meet_p (s t : CSet) (w : World) : Calls Try.prog 52 #[setV s, setV t] w fun e w' => e = .returned (setV (s &&& t)) ∧ Below w.heap.size w w' := by
  have a2 := SetAt.zero ((w.alloc (.cells (setC s) 45)).alloc (.cells (setC t) 45))
  rw [World.size_alloc, World.size_alloc] at a2
  have hB0 : Below w.heap.size w (((w.alloc (.cells (setC s) 45)).alloc (.cells (setC t) 45)).alloc (.cells #[.int .u64 0, .int .u64 0, .int .u64 0, .int .u64 0] 45)) := (((Below.refl _ _).alloc (Nat.le_refl _) _).alloc (by simp) _).alloc (by simp; omega) _
  have A2 := Lib.hid a2
  have HB0 := Lib.hid hB0
  clear a2 hB0
  have hc := fun w => each_p 59 (enters_of Try.func59 (by kernel_rfl) rfl) (fun x y => x &&& y) s t (mixS s (s &&& t)) (mix_zero _ _) (mix_step s t (s &&& t) _ fun i _ => word_and s t i) (fun k _ w => meetF_p _ _ (word_lt _ _) (word_lt _ _) w) w
  rw [mix_all] at hc
  have HC := Lib.hid hc
  clear hc
  unfold setV setC
  go_enter Try.func52, Try.ntmps52
  go_wp2_with fail
  refine (HC.out _).mono ?_
  rintro e w1 ⟨rfl, hb1⟩
  have h2 := A2.out.below hb1 (by simp <;> omega)
  have HB1 := Lib.hid (next HB0.out hb1)
  obtain ⟨d0, d1, d2, d3⟩ := h2.cells
  obtain ⟨f0, f1, f2, f3⟩ := h2.free
  clear hb1
  unfold setV setC
  go_wp2_with fail
  obtain ⟨q0, q1, q2, q3⟩ := (h2.put (s &&& t)).cells
  show bodyPost _ _ _ _ _ (putSet w1 (w.heap.size + 1 + 1) (s &&& t))
  exact bodyPost_ret (v := .agg #[.int .u64 _, .int .u64 _, .int .u64 _, .int .u64 _]) (by simp [results, Try.results52, go_sem, q0, q1, q2, q3]) rfl ⟨rfl, below_put HB1.out (by omega) _⟩
theorem and_eq_self (s t : CSet) : (s &&& t = s) ↔ (s &&& ~~~t = 0#256) := by
  constructor
  · intro h
    apply set_ext
    intro b hb
    have := congrArg (fun x => hasB x b) h
    simp only [hasB_and] at this
    rw [hasB_and, hasB_not _ _ hb, show hasB 0#256 b = false by simp [hasB]]
    cases h1 : hasB s b <;> cases h2 : hasB t b <;> simp_all
  · intro h
    apply set_ext
    intro b hb
    have := congrArg (fun x => hasB x b) h
    simp only [hasB_and, hasB_not _ _ hb, show hasB 0#256 b = false by simp [hasB]] at this
    rw [hasB_and]
    cases h1 : hasB s b <;> cases h2 : hasB t b <;> simp_all
set_option maxRecDepth 100000 in
set_option maxHeartbeats 1000000 in
theorem sub_p (s t : CSet) (w : World) : Calls Try.prog 44 #[setV s, setV t] w fun e w' => e = .returned (.bool (decide (s &&& ~~~t = 0#256))) ∧ Below w.heap.size w w' := by
  have hd : decide (s &&& ~~~t = 0#256) = decide (s &&& t = s) := by rw [decide_eq_decide]; exact (and_eq_self s t).symm
  rw [hd]
  have M := Lib.hid (fun w => meet_p s t w)
  have q0 := SetAt.new (w.alloc (.cells (setC s) 45)) t
  rw [World.size_alloc] at q0
  have q1 := (SetAt.new w s).alloc (.cells (setC t) 45)
  obtain ⟨c0, c1, c2, c3⟩ := q1.cells
  obtain ⟨e0, e1, e2, e3⟩ := q0.cells
  have hb : Below w.heap.size w ((w.alloc (.cells (setC s) 45)).alloc (.cells (setC t) 45)) := ((Below.refl _ _).alloc (Nat.le_refl _) _).alloc (by simp) _
  have HB := Lib.hid hb
  have req := run_eq_set (s := s &&& t) (t := s)
  clear hd q0 q1 hb
  unfold setV setC at *
  go_enter Try.func44, Try.ntmps44
  go_wp2_with fail
  generalize (w.alloc (.cells #[.int .u64 (word s 0 : Int), .int .u64 (word s 1 : Int), .int .u64 (word s 2 : Int), .int .u64 (word s 3 : Int)] 45)).alloc (.cells #[.int .u64 (word t 0 : Int), .int .u64 (word t 1 : Int), .int .u64 (word t 2 : Int), .int .u64 (word t 3 : Int)] 45) = W at *
  have g0 := fun d os => cell_regrown c0 d os
  have g1 := fun d os => cell_regrown c1 d os
  have g2 := fun d os => cell_regrown c2 d os
  have g3 := fun d os => cell_regrown c3 d os
  have g4 := fun d os => cell_regrown e0 d os
  have g5 := fun d os => cell_regrown e1 d os
  have g6 := fun d os => cell_regrown e2 d os
  have g7 := fun d os => cell_regrown e3 d os
  clear c0 c1 c2 c3 e0 e1 e2 e3
  refine wp_region_quiet_below (by kernel_rfl) (by kernel_rfl) ?_
  repeat (go_big_quiet_step ((go_at_call 52; exact Calls.regrown_of (M.out _))))
  refine wpQuiet_nil ?_
  intro _ hw'
  obtain ⟨⟨dq, osq⟩, hw''⟩ := hw'
  subst hw''
  clear g0 g1 g2 g3 g4 g5 g6 g7
  go_wp2_with fail
  go_ret
  exact ⟨rfl, next HB.out (below_regrown _ _ _)⟩
end Go.Proofs.Ytllkohjmghoipaa
