/- Layer 31: plain laws of the numbers of steps: sums, growth, bounds. -/
import Derived.Test.YtdfofojlnkhjjaaCAwake
namespace Go.Proofs.Ytdfofojlnkhjjaa
open Go.RowKit

theorem moves_step : ∀ n : Fin 288, movesV (n.val : Int) ≤ movesV ((n.val : Int) + 1) := by decide +kernel
theorem moves_mono_nat {a : Nat} : ∀ {d : Nat}, a + d ≤ 288 → movesV (a : Int) ≤ movesV ((a + d : Nat) : Int)
  | 0, _ => Int.le_refl _
  | d + 1, h => by
    have h1 := moves_mono_nat (a := a) (d := d) (by omega)
    have h2 := moves_step ⟨a + d, by omega⟩
    have e : ((a + (d + 1) : Nat) : Int) = ((a + d : Nat) : Int) + 1 := by omega
    rw [e]
    exact Int.le_trans h1 h2
theorem moves_mono {a c : Int} (h0 : 0 ≤ a) (h1 : a ≤ c) (h2 : c ≤ 288) : movesV a ≤ movesV c := by
  have := moves_mono_nat (a := a.toNat) (d := (c - a).toNat) (by omega)
  rwa [show ((a.toNat : Nat) : Int) = a by omega, show ((a.toNat + (c - a).toNat : Nat) : Int) = c by omega] at this

/-- the number of blocks of two pieces, of which the first one has a multiple of the size -/
theorem many_sum {n m b : Int} (hb : okB b = true) (hn : 0 ≤ n) (hm : 0 ≤ m) (h : n + m ≤ 1000) (hd : n = n / b * b) :
    manyV (n + m) b = manyV n b + manyV m b := by
  have b1 : 1 ≤ b := by rcases okB_cases hb with rfl | rfl | rfl | rfl | rfl <;> omega
  rw [manyV_ok (lenE_ok hb (by omega) h), manyV_ok (lenE_ok hb hn (by omega)), manyV_ok (lenE_ok hb hm (by omega))]
  have e1 : n + m + b - 1 = (m + b - 1) + n / b * b := by omega
  have e2 : n + b - 1 = (b - 1) + n / b * b := by omega
  have e0 : (b - 1) / b = 0 := Int.ediv_eq_zero_of_lt (by omega) (by omega)
  rw [e1, e2, Int.add_mul_ediv_right _ _ (by omega), Int.add_mul_ediv_right _ _ (by omega), e0]
  omega
theorem many_pos {n b : Int} (h : lenE n b = 0) (hn : 0 < n) : 1 ≤ manyV n b := by
  obtain ⟨hb, h1, h2⟩ := lenE_zero h
  have b1 : 1 ≤ b := by rcases okB_cases hb with rfl | rfl | rfl | rfl | rfl <;> omega
  rw [manyV_ok h]
  exact Int.le_ediv_of_mul_le (by omega) (by omega)
theorem many_up {n b : Int} (h : lenE n b = 0) : n ≤ manyV n b * b ∧ manyV n b * b < n + b := by
  obtain ⟨hb, h1, h2⟩ := lenE_zero h
  have b1 : 1 ≤ b := by rcases okB_cases hb with rfl | rfl | rfl | rfl | rfl <;> omega
  rw [manyV_ok h]
  have e1 := Int.emod_add_mul_ediv (n + b - 1) b
  have e2 := Int.emod_nonneg (n + b - 1) (b := b) (by omega)
  have e3 := Int.emod_lt_of_pos (n + b - 1) (b := b) (by omega)
  rw [Int.mul_comm] at e1
  constructor <;> omega

theorem fd_sum {b k s r q M1 M2 : Int} : feedV b k s r q M1 + feedV b k s r q M2 = feedV b k s r q (M1 + M2) + (6 * k + 10) := by
  unfold feedV; rw [Int.add_mul]; omega
theorem fd_le {b k s r q M1 M2 : Int} (h : 0 ≤ blockV b s r q) (h2 : M1 ≤ M2) : feedV b k s r q M1 ≤ feedV b k s r q M2 := by
  unfold feedV
  have := Int.mul_le_mul_of_nonneg_right h2 h
  omega

/-- with a greater block, or more kept, there are more steps -/
theorem fd_more {b k s r q k' s' r' q' M : Int} (hM : 0 ≤ M) (hk : k ≤ k') (hV : blockV b s r q ≤ blockV b s' r' q') (hs : k < k' ∨ blockV b s r q < blockV b s' r' q') :
    feedV b k s r q M ≤ feedV b k' s' r' q' M ∧ (0 < M → feedV b k s r q M ≠ feedV b k' s' r' q' M) := by
  unfold feedV
  have h1 := Int.mul_le_mul_of_nonneg_left hV hM
  refine ⟨by omega, fun h => ?_⟩
  rcases hs with hs | hs
  · omega
  · have h2 := Int.mul_lt_mul_of_pos_left hs h
    omega
theorem block_keep {b s r q q' : Int} (q0 : 0 ≤ q) (h : q ≤ q') (h2 : q' ≤ 288) : blockV b s r q ≤ blockV b s r q' := by
  have := moves_mono q0 h h2
  unfold blockV
  omega
theorem block_word {b s r q : Int} (b1 : 1 ≤ b) (r1 : 1 ≤ r) : blockV b s r q < blockV b (s + 1) r q := by
  unfold blockV
  have e : b * (261 * (s + 1) + r * (2 * (s + 1) + 5)) = b * (261 * s + r * (2 * s + 5)) + b * (261 + r * 2) := by
    rw [← Int.mul_add, show 2 * (s + 1) + 5 = (2 * s + 5) + 2 by omega, Int.mul_add r]
    congr 1; omega
  have h : 0 < b * (261 + r * 2) := Int.mul_pos (by omega) (by omega)
  omega
theorem block_rule {b s r q q' : Int} (b1 : 1 ≤ b) (s1 : 1 ≤ s) (q0 : 0 ≤ q) (h : q ≤ q') (h2 : q' ≤ 288) : blockV b s r q < blockV b s (r + 1) q' := by
  have := moves_mono q0 h h2
  unfold blockV
  have e : b * (261 * s + (r + 1) * (2 * s + 5)) = b * (261 * s + r * (2 * s + 5)) + b * (2 * s + 5) := by
    rw [← Int.mul_add, Int.add_mul r, Int.one_mul]
    congr 1; omega
  have h : 0 < b * (2 * s + 5) := Int.mul_pos (by omega) (by omega)
  omega

/-- what the law asks of a Feed with one more -/
theorem one_more {b k l s r m k' s' r' : Int} (F : slotOk b k l s r = true) (hm : 0 ≤ m) (hm2 : m ≤ 1000)
    (h : k' = k + 1 ∧ s' = s ∧ r' = r ∨ k' = k ∧ s' = s + 1 ∧ r' = r ∨ k' = k ∧ s' = s ∧ r' = r + 1) (he : fdE b k' l s' r' m = 0) :
    ¬ fdV b k' l s' r' m < fdV b k l s r m ∧ (0 < m → fdV b k' l s' r' m ≠ fdV b k l s r m) := by
  obtain ⟨b1, b2, bb, k1, k2, l1, l2, s1, s2, r1, r2, m1, m2⟩ := fine F
  obtain ⟨F', hL⟩ := fdE_zero he
  obtain ⟨_, _, _, k1', k2', _, _, s1', s2', r1', r2', m1', m2'⟩ := fine F'
  have e1 : fdE b k l s r m = 0 := by unfold fdE; rw [if_pos F]; exact hL
  have hp := many_pos hL
  obtain ⟨hM1, hM2⟩ := manyV_bd m b
  unfold fdV
  rw [if_pos e1, if_pos he]
  have hbr : b * (r + 1) = b * r + b := by rw [Int.mul_add, Int.mul_one]
  have key : feedV b k s r (k + b * r) (manyV m b) ≤ feedV b k' s' r' (k' + b * r') (manyV m b) ∧ (0 < manyV m b → feedV b k s r (k + b * r) (manyV m b) ≠ feedV b k' s' r' (k' + b * r') (manyV m b)) := by
    rcases h with ⟨rfl, rfl, rfl⟩ | ⟨rfl, rfl, rfl⟩ | ⟨rfl, rfl, rfl⟩
    · exact fd_more hM1 (by omega) (block_keep (by omega) (by omega) (by omega)) (.inl (by omega))
    · have := block_word (b := b) (s := s) (r := r') (q := k' + b * r') b1 r1
      exact fd_more hM1 (by omega) (Int.le_of_lt this) (.inr this)
    · have := block_rule (b := b) (s := s') (r := r) (q := k' + b * r) (q' := k' + b * (r + 1)) b1 s1 (by omega) (by omega) (by omega)
      exact fd_more hM1 (by omega) (Int.le_of_lt this) (.inr this)
  exact ⟨by omega, fun h0 => Ne.symm (key.2 (by have := hp h0; omega))⟩

/-- a Feed makes at most as many steps as its bound -/
theorem moves_le : ∀ n : Fin 289, movesV (n.val : Int) ≤ (n.val : Int) * (rnd (n.val : Int) : Int) := by decide +kernel
theorem rnd_pos {q : Int} (h : 2 ≤ q) : 1 ≤ rnd q := by unfold rnd; rw [if_neg (by omega)]; (repeat' split) <;> omega
theorem fd_bound {b k l s r n : Int} (h : fdE b k l s r n = 0) : fdV b k l s r n ≤ bndV b k l s r n := by
  obtain ⟨F, hL⟩ := fdE_zero h
  obtain ⟨b1, b2, bb, k1, k2, l1, l2, s1, s2, r1, r2, m1, m2⟩ := fine F
  unfold fdV bndV
  rw [if_pos h, if_pos h]
  obtain ⟨hM1, hM2⟩ := manyV_bd n b
  have hq : k + b * r ≤ 288 := by omega
  have hq2 : 2 ≤ k + b * r := by omega
  have hmv := moves_le ⟨(k + b * r).toNat, by omega⟩
  simp only [show (((k + b * r).toNat : Nat) : Int) = k + b * r by omega] at hmv
  have hr := rnd_pos hq2
  have hqr : (k + b * r) * 1 ≤ (k + b * r) * (rnd (k + b * r) : Int) := Int.mul_le_mul_of_nonneg_left (by omega) (by omega)
  -- the rules' line
  have hs1 : r * (2 * s + 5) ≤ r * (7 * s) := Int.mul_le_mul_of_nonneg_left (by omega) (by omega)
  have hs2 : r * (7 * s) ≤ 16 * (7 * s) := Int.mul_le_mul_of_nonneg_right r2 (by omega)
  have hb1 : b * (261 * s + r * (2 * s + 5)) ≤ b * (373 * s) := Int.mul_le_mul_of_nonneg_left (by omega) (by omega)
  have hb2 : b * (373 * s) = 373 * (b * s) := by rw [← Int.mul_assoc, Int.mul_comm b, Int.mul_assoc]
  have hbs : 1 * 1 ≤ b * s := Int.mul_le_mul b1 s1 (by omega) (by omega)
  have hV : blockV b s r (k + b * r) ≤ 26 * (256 * (b * s) + (k + b * r) * (rnd (k + b * r) : Int)) := by unfold blockV; omega
  have hMV := Int.mul_le_mul_of_nonneg_left hV hM1
  have e : 26 * manyV n b * (256 * (b * s) + (k + b * r) * (rnd (k + b * r) : Int)) = manyV n b * (26 * (256 * (b * s) + (k + b * r) * (rnd (k + b * r) : Int))) := by
    rw [Int.mul_comm 26, Int.mul_assoc]
  rw [e]
  unfold feedV
  omega
end Go.Proofs.Ytdfofojlnkhjjaa
