/- Layer 31: Most, Kept: plain Lean, the reference's, the closure of cost.Kept. -/
import Derived.Test.YtdfofojlnkhjjaaCSearch
import Derived.Lib.QuietBelow
import Derived.BigQuiet
import Derived.Deep.QuietTactic
namespace Go.Proofs.Ytdfofojlnkhjjaa
open Go.RowKit Go.Shelf

/-- the steps of a Feed of 1000 bytes with k kept -/
def stepsAt (b s r : Int) (k : Int) : Int := feedV b k s r (k + b * r) (manyV 1000 b)
def keptN (F : Int → Int) (st : Int) : Nat → Nat
  | 0 => 0
  | k + 1 => if F ((k : Int) + 1) ≤ st then k + 1 else keptN F st k
theorem keptN_le (F : Int → Int) (st : Int) : ∀ n, keptN F st n ≤ n
  | 0 => Nat.le_refl _
  | n + 1 => by unfold keptN; split; exact Nat.le_refl _; exact Nat.le_succ_of_le (keptN_le F st n)
theorem keptN_is {F : Int → Int} {st : Int} {i : Nat} : ∀ {n : Nat}, i ≤ n → (∀ h : Nat, i ≤ h → h < n → ¬ F ((h : Int) + 1) ≤ st) → (i = 0 ∨ F (i : Int) ≤ st) → keptN F st n = i
  | 0, h, _, _ => by simp at h; subst h; rfl
  | n + 1, h, h1, h2 => by
    by_cases e : i = n + 1
    · subst e
      unfold keptN
      rcases h2 with h2 | h2
      · omega
      · rw [if_pos (by simpa using h2)]
    · unfold keptN
      rw [if_neg (h1 n (by omega) (by omega))]
      exact keptN_is (by omega) (fun h a b => h1 h a (by omega)) h2
theorem keptN_spec (F : Int → Int) (st : Int) : ∀ n, keptN F st n ≠ 0 → F (keptN F st n : Int) ≤ st
  | 0 => fun h => absurd rfl h
  | n + 1 => by
    unfold keptN
    split
    · intro _; simpa using ‹_›
    · exact keptN_spec F st n
theorem keptN_next (F : Int → Int) (st : Int) : ∀ n, keptN F st n < n → (∀ h : Nat, h < n → F (h : Int) ≤ F ((h : Int) + 1)) → ¬ F ((keptN F st n : Int) + 1) ≤ st
  | 0 => fun h => absurd h (Nat.not_lt_zero _)
  | n + 1 => by
    unfold keptN
    split
    · intro h; omega
    · intro _ hm
      by_cases e : keptN F st n = n
      · rw [e]; assumption
      · exact keptN_next F st n (by have := keptN_le F st n; omega) fun h hh => hm h (by omega)

theorem steps_up {b k l s r : Int} (F : Fine b k l s r) {h : Int} (h1 : 0 ≤ h) (h2 : h ≤ 31) : stepsAt b s r h < stepsAt b s r (h + 1) := by
  obtain ⟨b1, b2, bb, k1, k2, l1, l2, s1, s2, r1, r2, m1, m2⟩ := F
  have hb := block_keep (b := b) (s := s) (r := r) (q := h + b * r) (q' := h + 1 + b * r) (by omega) (by omega) (by omega)
  obtain ⟨M1, M2⟩ := manyV_bd 1000 b
  have := Int.mul_le_mul_of_nonneg_left hb M1
  unfold stepsAt feedV
  omega
theorem steps_mono {b k l s r : Int} (F : Fine b k l s r) {a : Nat} : ∀ {d : Nat}, a + d ≤ 32 → stepsAt b s r (a : Int) ≤ stepsAt b s r ((a + d : Nat) : Int)
  | 0, _ => Int.le_refl _
  | d + 1, h => by
    have h1 := steps_mono F (a := a) (d := d) (by omega)
    have h2 := steps_up F (h := ((a + d : Nat) : Int)) (by omega) (by omega)
    have e : ((a + (d + 1) : Nat) : Int) = ((a + d : Nat) : Int) + 1 := by omega
    rw [e]; omega
theorem steps_bd {b k l s r : Int} (F : Fine b k l s r) {h : Int} (h1 : 1 ≤ h) (h2 : h ≤ 32) : 0 ≤ stepsAt b s r h ∧ stepsAt b s r h ≤ 100001000 := by
  obtain ⟨b1, b2, bb, k1, k2, l1, l2, s1, s2, r1, r2, m1, m2⟩ := F
  obtain ⟨B1, B2⟩ := block_bd b1 b2 s1 s2 r1 r2 (show 1 ≤ h + b * r by omega) (show h + b * r ≤ 288 by omega)
  obtain ⟨M1, M2⟩ := manyV_bd 1000 b
  obtain ⟨z1, z2⟩ := mB_bd M1 M2 B1 B2
  unfold stepsAt feedV
  omega
/-- a Feed of 1000 bytes, whatever is kept -/
theorem fd1000 {b k l s r : Int} (hz : slotOk b k l s r = true) {h : Int} (h1 : 1 ≤ h) (h2 : h ≤ 32) : fdE b h l s r 1000 = 0 ∧ fdV b h l s r 1000 = stepsAt b s r h := by
  have hz' : slotOk b h l s r = true := by
    unfold slotOk cfgOk at hz ⊢
    simp only [Bool.and_eq_true, decide_eq_true_eq] at hz ⊢
    exact ⟨⟨⟨⟨⟨hz.1.1.1.1.1, h1⟩, h2⟩, hz.1.1.2⟩, hz.1.2⟩, hz.2⟩
  have hb : okB b = true := by rcases (fine hz).bb with rfl | rfl | rfl | rfl | rfl <;> rfl
  have e : fdE b h l s r 1000 = 0 := by unfold fdE; rw [if_pos hz']; exact lenE_ok hb (by omega) (by omega)
  refine ⟨e, ?_⟩
  unfold fdV stepsAt
  rw [if_pos e]

def mostV (b k l s r : Int) : Int := if fdE b k l s r 1 = 0 then l * fdV b k l s r 1 else 0
def kpE (b k l s r st : Int) : Int := if slotOk b k l s r then (if st < 0 then 7 else if keptN (stepsAt b s r) st 32 = 0 then 4 else 0) else 7
def kpV (b k l s r st : Int) : Int := if slotOk b k l s r ∧ 0 ≤ st then (keptN (stepsAt b s r) st 32 : Int) else 0

theorem fdV_bd (b k l s r n : Int) : 0 ≤ fdV b k l s r n ∧ fdV b k l s r n ≤ 100001000 := by
  unfold fdV
  split
  · obtain ⟨hz, hL⟩ := fdE_zero ‹_›
    obtain ⟨b1, b2, bb, k1, k2, l1, l2, s1, s2, r1, r2, m1, m2⟩ := fine hz
    obtain ⟨B1, B2⟩ := block_bd b1 b2 s1 s2 r1 r2 (show 1 ≤ k + b * r by omega) (show k + b * r ≤ 288 by omega)
    obtain ⟨M1, M2⟩ := manyV_bd n b
    obtain ⟨z1, z2⟩ := mB_bd M1 M2 B1 B2
    unfold feedV
    omega
  · omega

/-- the memory of a call with a configuration and a shape -/
structure Plain (w : World) (B : Nat) (b k l s r : Int) (W : World) : Prop where
  cfg : W.heap[B]? = some (.cells #[.int .i64 b, .int .i64 k, .int .i64 l] 23 (0, 0))
  shp : W.heap[B + 1]? = some (.cells #[.int .i64 s, .int .i64 r] 25 (0, 0))
  base : w.heap.size ≤ B
  bel : Below w.heap.size w W
theorem Plain.start (w : World) (b k l s r : Int) : Plain w w.heap.size b k l s r ((w.alloc (.cells #[.int .i64 b, .int .i64 k, .int .i64 l] 23)).alloc (.cells #[.int .i64 s, .int .i64 r] 25)) := by
  obtain ⟨a1, a2, hB⟩ := two w (.cells #[.int .i64 b, .int .i64 k, .int .i64 l] 23) (.cells #[.int .i64 s, .int .i64 r] 25)
  exact ⟨a1, a2, Nat.le_refl _, hB⟩
theorem Plain.keep {w W W' : World} {B n : Nat} {b k l s r : Int} (h : Plain w B b k l s r W) (hb : Below n W W') (hn : n = W.heap.size) : Plain w B b k l s r W' := by
  subst hn
  exact ⟨later h.cfg hb, later h.shp hb, h.base, next h.bel hb⟩
theorem Plain.put {w W : World} {B : Nat} {b k l s r : Int} (h : Plain w B b k l s r W) (k' : Int) : Plain w B b k' l s r (W.setCell ⟨B, 1, none⟩ (.int .i64 k')) := by
  refine ⟨?_, ?_, h.base, h.bel.setCell (p := ⟨B, 1, none⟩) h.base _⟩
  · rw [heap_setCell_at _ h.cfg]; simp
  · rw [Below.heap_setCell _ _ _ _ (by simp)]; exact h.shp
theorem Plain.cells {w W : World} {B : Nat} {b k l s r : Int} (h : Plain w B b k l s r W) :
    (W.cell? ⟨B, 0, none⟩ = some (.int .i64 b) ∧ W.cell? ⟨B, 1, none⟩ = some (.int .i64 k) ∧ W.cell? ⟨B, 2, none⟩ = some (.int .i64 l)) ∧ (W.cell? ⟨B + 1, 0, none⟩ = some (.int .i64 s) ∧ W.cell? ⟨B + 1, 1, none⟩ = some (.int .i64 r)) ∧ W.frozen? ⟨B, 1, none⟩ = false :=
  ⟨c3 h.cfg, c2 h.shp, by simp [World.frozen?, h.cfg]⟩

set_option maxRecDepth 100000 in
set_option maxHeartbeats 1000000 in
theorem most_p (b k l s r : Int) (w : World) :
    Calls Try.prog 23 #[cfgV b k l, shpV s r] w fun e w' => e = .returned (.tuple #[.int .i64 (mostV b k l s r), .int .i64 (fdE b k l s r 1)]) ∧ Below w.heap.size w w' := by
  have C1 := Lib.hid (fun w => feed_p b k l s r 1 w)
  have HP := Lib.hid (Plain.start w b k l s r)
  obtain ⟨v1, v2⟩ := fdV_bd b k l s r 1
  unfold mostV
  generalize hV : fdV b k l s r 1 = V at *
  by_cases h0 : fdE b k l s r 1 = 0
  · obtain ⟨hz, _⟩ := fdE_zero h0
    obtain ⟨_, _, _, _, _, l1, l2, _⟩ := fine hz
    rw [h0] at C1 ⊢
    rw [if_pos rfl]
    have p1 : 0 ≤ l * V := Int.mul_nonneg l1 v1
    have p2 : l * V ≤ 1000000 * 100001000 := Int.mul_le_mul l2 v2 v1 (by omega)
    clear h0 hz hV
    obtain ⟨⟨d0, d1, d2⟩, ⟨d3, d4⟩, _⟩ := HP.out.cells
    unfold cfgV shpV at *
    go_enter Try.func23, Try.ntmps23
    go_wp2_with fail
    refine (C1.out _).mono ?_
    rintro e w1 ⟨rfl, hb1⟩
    have HP1 := Lib.hid (HP.out.keep hb1 rfl)
    clear d0 d1 d2 d3 d4 hb1
    obtain ⟨⟨d0, d1, d2⟩, _⟩ := HP1.out.cells
    have w1 : IntKind.i64.wrap (l * V) = l * V := IntWalk.i64_in _ (by omega)
    go_wp2_with fail
    go_ret2
    exact ⟨rfl, HP1.out.bel⟩
  · rw [if_neg h0]
    generalize fdE b k l s r 1 = e0 at *
    have he : (e0 != 0) = true := bne_iff_ne.2 h0
    clear h0 hV
    obtain ⟨⟨d0, d1, d2⟩, ⟨d3, d4⟩, _⟩ := HP.out.cells
    unfold cfgV shpV at *
    go_enter Try.func23, Try.ntmps23
    go_wp2_with fail
    refine (C1.out _).mono ?_
    rintro e w1 ⟨rfl, hb1⟩
    have HP1 := Lib.hid (HP.out.keep hb1 rfl)
    clear d0 d1 d2 d3 d4 hb1
    go_wp2_with fail
    go_ret2
    exact ⟨rfl, HP1.out.bel⟩

set_option maxRecDepth 100000 in
set_option maxHeartbeats 1000000 in
theorem most_r (b k l s r : Int) (w : World) :
    Calls Try.prog 24 #[cfgV b k l, shpV s r] w fun e w' => e = .returned (.tuple #[.int .i64 (mostV b k l s r), .int .i64 (fdE b k l s r 1)]) ∧ Below w.heap.size w w' := by
  have C1 := Lib.hid (fun w => feed_r b k l s r 1 w)
  have HP := Lib.hid (Plain.start w b k l s r)
  obtain ⟨v1, v2⟩ := fdV_bd b k l s r 1
  unfold mostV
  generalize hV : fdV b k l s r 1 = V at *
  by_cases h0 : fdE b k l s r 1 = 0
  · obtain ⟨hz, _⟩ := fdE_zero h0
    obtain ⟨_, _, _, _, _, l1, l2, _⟩ := fine hz
    rw [h0] at C1 ⊢
    rw [if_pos rfl]
    have p1 : 0 ≤ l * V := Int.mul_nonneg l1 v1
    have p2 : l * V ≤ 1000000 * 100001000 := Int.mul_le_mul l2 v2 v1 (by omega)
    clear h0 hz hV
    obtain ⟨⟨d0, d1, d2⟩, ⟨d3, d4⟩, _⟩ := HP.out.cells
    unfold cfgV shpV at *
    go_enter Try.func24, Try.ntmps24
    go_wp2_with fail
    refine (C1.out _).mono ?_
    rintro e w1 ⟨rfl, hb1⟩
    have HP1 := Lib.hid (HP.out.keep hb1 rfl)
    clear d0 d1 d2 d3 d4 hb1
    obtain ⟨⟨d0, d1, d2⟩, _⟩ := HP1.out.cells
    have w1 : IntKind.i64.wrap (l * V) = l * V := IntWalk.i64_in _ (by omega)
    go_wp2_with fail
    go_ret2
    exact ⟨rfl, HP1.out.bel⟩
  · rw [if_neg h0]
    generalize fdE b k l s r 1 = e0 at *
    have he : (e0 != 0) = true := bne_iff_ne.2 h0
    clear h0 hV
    obtain ⟨⟨d0, d1, d2⟩, ⟨d3, d4⟩, _⟩ := HP.out.cells
    unfold cfgV shpV at *
    go_enter Try.func24, Try.ntmps24
    go_wp2_with fail
    refine (C1.out _).mono ?_
    rintro e w1 ⟨rfl, hb1⟩
    have HP1 := Lib.hid (HP.out.keep hb1 rfl)
    clear d0 d1 d2 d3 d4 hb1
    go_wp2_with fail
    go_ret2
    exact ⟨rfl, HP1.out.bel⟩

end Go.Proofs.Ytdfofojlnkhjjaa
