/- classes.each. -/
import Derived.Test.YtooiegejchcbhaaDoorRefE
import Derived.Test.YtooiegejchcbhaaDoorHasP
import Derived.Shelf.Abstract
namespace Go.Proofs.YtooiegejchcbhaaDoor
open Go.RowKit Go.Shelf

theorem SetAt.wordAt {w : World} {B k : Nat} {s : CSet} (h : SetAt w B s) (hk : k < 4) : w.cell? ⟨B, k, none⟩ = some (.int .u64 (word s k : Int)) := by
  obtain ⟨c0, c1, c2, c3⟩ := h.cells
  match k, hk with
  | 0, _ => exact c0
  | 1, _ => exact c1
  | 2, _ => exact c2
  | 3, _ => exact c3
theorem SetAt.freeAt {w : World} {B k : Nat} {s : CSet} (h : SetAt w B s) (hk : k < 4) : w.frozen? ⟨B, k, none⟩ = false := by
  obtain ⟨c0, c1, c2, c3⟩ := h.free
  match k, hk with
  | 0, _ => exact c0
  | 1, _ => exact c1
  | 2, _ => exact c2
  | 3, _ => exact c3
theorem SetAt.setw {w : World} {B k v : Nat} {s s' : CSet} (h : SetAt w B s) (hk : k < 4) (hv : word s' k = v) (ho : ∀ i, i < 4 → i ≠ k → word s' i = word s i) : SetAt (w.setCell ⟨B, k, none⟩ (.int .u64 (v : Int))) B s' := by
  unfold SetAt
  rw [heap_setCell_at _ h]
  subst hv
  match k, hk with
  | 0, _ => simp [setC, ho 1 (by decide) (by decide), ho 2 (by decide) (by decide), ho 3 (by decide) (by decide)]
  | 1, _ => simp [setC, ho 0 (by decide) (by decide), ho 2 (by decide) (by decide), ho 3 (by decide) (by decide)]
  | 2, _ => simp [setC, ho 0 (by decide) (by decide), ho 1 (by decide) (by decide), ho 3 (by decide) (by decide)]
  | 3, _ => simp [setC, ho 0 (by decide) (by decide), ho 1 (by decide) (by decide), ho 2 (by decide) (by decide)]
theorem SetAt.off {w : World} {B B' k : Nat} {s : CSet} (h : SetAt w B s) (hB : B ≠ B') (v : Value) : SetAt (w.setCell ⟨B', k, none⟩ v) B s := by
  unfold SetAt
  rw [Below.heap_setCell _ _ _ _ hB]
  exact h

set_option maxRecDepth 100000 in
set_option maxHeartbeats 1000000 in
theorem each_p (fid : FuncId) (hent : ∀ args w, (callFunc fid args).run Tryd.prog w = .ok (.enter fid args) w) (F : Nat → Nat → Nat) (s t : CSet) (M : Nat → CSet) (h0 : M 0 = s) (hk : ∀ k, k < 4 → word (M k) k = word s k ∧ word (M (k + 1)) k = F (word s k) (word t k) ∧ ∀ i, i < 4 → i ≠ k → word (M (k + 1)) i = word (M k) i)
    (hf : ∀ k, k < 4 → ∀ w, Calls Tryd.prog fid #[.int .u64 (word s k : Int), .int .u64 (word t k : Int)] w fun e w' => e = .returned (.int .u64 (F (word s k) (word t k) : Int)) ∧ w = w') (w : World) :
    Calls Tryd.prog 47 #[setV s, setV t, .func (.func fid) #[] #[]] w fun e w' => e = .returned (setV (M 4)) ∧ Below w.heap.size w w' := by
  have a0 := ((SetAt.new w s).alloc (.cells (setC t) 24)).alloc (.cells #[.int .u64 0, .int .u64 0, .int .u64 0, .int .u64 0] 24)
  have a1 := (SetAt.new (w.alloc (.cells (setC s) 24)) t).alloc (.cells #[.int .u64 0, .int .u64 0, .int .u64 0, .int .u64 0] 24)
  rw [World.size_alloc] at a1
  have a2 := SetAt.zero ((w.alloc (.cells (setC s) 24)).alloc (.cells (setC t) 24))
  rw [World.size_alloc, World.size_alloc] at a2
  have hB0 : Below w.heap.size w (((w.alloc (.cells (setC s) 24)).alloc (.cells (setC t) 24)).alloc (.cells #[.int .u64 0, .int .u64 0, .int .u64 0, .int .u64 0] 24)) := (((Below.refl _ _).alloc (Nat.le_refl _) _).alloc (by simp) _).alloc (by simp; omega) _
  have A0 := Lib.hid a0
  have A1 := Lib.hid a1
  have A2 := Lib.hid a2
  have HB0 := Lib.hid hB0
  have HK := Lib.hid hk
  have HF := Lib.hid hf
  have H0 := Lib.hid h0
  clear a0 a1 a2 hB0 hk hf h0
  unfold setV setC
  go_enter Tryd.func47, Tryd.ntmps47
  go_wp2_with fail
  go_loopw [8] (fun iv wr => ∃ k : Nat, k ≤ 4 ∧ iv = .int .i64 (k : Nat) ∧ SetAt wr w.heap.size (M k) ∧ SetAt wr (w.heap.size + 1) t ∧ SetAt wr (w.heap.size + 1 + 1) 0#256 ∧ Below w.heap.size w wr) (fun iv _ => 4 - (intOf iv).toNat)
  case atStart => exact ⟨0, by omega, rfl, by rw [H0.out]; exact A0.out, A1.out, A2.out, HB0.out⟩
  case round =>
    obtain ⟨k, hk, rfl, h0, h1, h2, hB⟩ := hrel
    have l0 := h0.lt
    have l1 := h1.lt
    have l2 := h2.lt
    by_cases hlt : k < 4
    · obtain ⟨e1, e2, e3⟩ := HK.out k hlt
      have c0 := h0.wordAt hlt
      rw [e1] at c0
      have c1 := h1.wordAt hlt
      have f0 := h0.freeAt hlt
      have HS := Lib.hid (fun (W : World) (hW : SetAt W w.heap.size (M k)) => SetAt.setw hW hlt e2 e3)
      have hc := HF.out k hlt
      have i1 : (0 : Int) ≤ (k : Int) := by omega
      have i2 : (k : Int) < 4 := by omega
      generalize F (word s k) (word t k) = v at *
      generalize word s k = x at *
      generalize word t k = y at *
      clear e1 e2 e3
      go_wp2_with fail
      go_region_with (first
        | (go_at_fn fid; refine (hc _).mono ?_; rintro e w2 ⟨rfl, rfl⟩))
      all_goals
        go_wp2_with fail
        exact ⟨⟨k + 1, by omega, by go_num, HS.out _ h0, h1.off (by omega) _, h2.off (by omega) _, (hB.setCell (p := ⟨w.heap.size, k, none⟩) (Nat.le_refl _) _).drew⟩, by simp [intOf]; omega⟩
    · obtain rfl : k = 4 := by omega
      obtain ⟨c0, c1, c2, c3⟩ := h0.cells
      obtain ⟨d0, d1, d2, d3⟩ := h2.cells
      obtain ⟨f0, f1, f2, f3⟩ := h2.free
      go_wp2_with fail
      obtain ⟨q0, q1, q2, q3⟩ := (h2.put (M 4)).cells
      show bodyPost _ _ _ _ _ (putSet wr (w.heap.size + 1 + 1) (M 4))
      exact bodyPost_ret (v := .agg #[.int .u64 _, .int .u64 _, .int .u64 _, .int .u64 _]) (by simp [results, Tryd.results47, go_sem, q0, q1, q2, q3]) rfl ⟨rfl, below_put hB (by omega) _⟩

def mixS (s u : CSet) (k : Nat) : CSet := low u (64 * k) ||| (s &&& ~~~(low fullS (64 * k)))
theorem hasB_mix (s u : CSet) (k b : Nat) (hb : b < 256) : hasB (mixS s u k) b = if b < 64 * k then hasB u b else hasB s b := by
  unfold mixS
  rw [hasB_or, hasB_and, hasB_not _ _ hb, hasB_low, hasB_low, hasB_full _ hb]
  by_cases h : b < 64 * k <;> simp [h]
theorem word_mix (s u : CSet) (k i : Nat) (hi : i < 4) : word (mixS s u k) i = if i < k then word u i else word s i := by
  apply Nat.eq_of_testBit_eq
  intro j
  by_cases hj : j < 64
  · have hm := hasB_mix s u k (64 * i + j) (by omega)
    rw [word_testBit _ _ _ hj]
    show hasB _ _ = _
    rw [hm]
    by_cases h : i < k
    · rw [if_pos (by omega), if_pos h, word_testBit _ _ _ hj]; rfl
    · rw [if_neg (by omega), if_neg h, word_testBit _ _ _ hj]; rfl
  · rw [word_testBit_ge _ _ _ (by omega)]
    split <;> rw [word_testBit_ge _ _ _ (by omega)]
theorem mix_zero (s u : CSet) : mixS s u 0 = s := by
  apply set_ext; intro b hb; rw [hasB_mix _ _ _ _ hb, if_neg (by omega)]
theorem mix_all (s u : CSet) : mixS s u 4 = u := by
  apply set_ext; intro b hb; rw [hasB_mix _ _ _ _ hb, if_pos (by omega)]
theorem mix_step (s t u : CSet) (F : Nat → Nat → Nat) (hu : ∀ i, i < 4 → word u i = F (word s i) (word t i)) (k : Nat) (hk : k < 4) :
    word (mixS s u k) k = word s k ∧ word (mixS s u (k + 1)) k = F (word s k) (word t k) ∧ ∀ i, i < 4 → i ≠ k → word (mixS s u (k + 1)) i = word (mixS s u k) i := by
  refine ⟨by rw [word_mix _ _ _ _ hk, if_neg (by omega)], by rw [word_mix _ _ _ _ hk, if_pos (by omega), hu k hk], fun i hi hne => ?_⟩
  rw [word_mix _ _ _ _ hi, word_mix _ _ _ _ hi]
  by_cases h : i < k
  · rw [if_pos h, if_pos (by omega)]
  · rw [if_neg h, if_neg (by omega)]

theorem unionF_p (x y : Nat) (hx : x < 18446744073709551616) (hy : y < 18446744073709551616) (w : World) : Calls Tryd.prog 48 #[.int .u64 (x : Int), .int .u64 (y : Int)] w fun e w' => e = .returned (.int .u64 ((x ||| y : Nat) : Int)) ∧ w = w' := by
  have h := u64_or_nat x y hx hy
  go_enter Tryd.func48, Tryd.ntmps48
  go_wp2
  go_ret
  first | exact ⟨rfl, rfl⟩ | exact ⟨by rw [← h]; rfl, rfl⟩
theorem meetF_p (x y : Nat) (hx : x < 18446744073709551616) (hy : y < 18446744073709551616) (w : World) : Calls Tryd.prog 49 #[.int .u64 (x : Int), .int .u64 (y : Int)] w fun e w' => e = .returned (.int .u64 ((x &&& y : Nat) : Int)) ∧ w = w' := by
  have h := u64_and_nat x y hx hy
  go_enter Tryd.func49, Tryd.ntmps49
  go_wp2
  go_ret
  first | exact ⟨rfl, rfl⟩ | exact ⟨by rw [← h]; rfl, rfl⟩

end Go.Proofs.YtooiegejchcbhaaDoor
