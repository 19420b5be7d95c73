/- Layer 31: rounds and moves of slots: program (a goto) and reference compute the same plain Lean functions. -/
import Derived.Test.YtdfofojlnkhjjaaCSlotR
import Derived.ScopeJumps
import Derived.WalkMore
import Derived.Laws.Shifts
namespace Go.Proofs.Ytdfofojlnkhjjaa
open Go.RowKit

/-- the rounds of 1 to 288 slots -/
def rnd (q : Int) : Nat := if q ≤ 1 then 0 else if q ≤ 2 then 1 else if q ≤ 4 then 2 else if q ≤ 8 then 3 else if q ≤ 16 then 4 else if q ≤ 32 then 5 else if q ≤ 64 then 6 else if q ≤ 128 then 7 else if q ≤ 256 then 8 else 9
def pow2 (r : Nat) : Int := ((2 ^ r : Nat) : Int)
def movesV (q : Int) : Int := q * rnd q - pow2 (rnd q) + 1
theorem ten {r : Nat} (h : r ≤ 9) : r = 0 ∨ r = 1 ∨ r = 2 ∨ r = 3 ∨ r = 4 ∨ r = 5 ∨ r = 6 ∨ r = 7 ∨ r = 8 ∨ r = 9 := by omega
theorem rnd_done {q : Int} {r : Nat} (h : r ≤ 9) (hq : q ≤ 288) (h1 : q ≤ pow2 r) (h2 : r = 0 ∨ pow2 (r - 1) < q) : rnd q = r := by
  rcases ten h with rfl | rfl | rfl | rfl | rfl | rfl | rfl | rfl | rfl | rfl <;> simp [pow2] at h1 h2 <;> unfold rnd <;> (repeat' split) <;> omega
theorem pow2_succ (r : Nat) : pow2 (r + 1) = pow2 r * 2 := by simp [pow2, Nat.pow_succ]
theorem pow2_bd {r : Nat} (h : r ≤ 9) : 1 ≤ pow2 r ∧ pow2 r ≤ 512 := by
  rcases ten h with rfl | rfl | rfl | rfl | rfl | rfl | rfl | rfl | rfl | rfl <;> simp [pow2]
theorem pow2_less {r : Nat} {q : Int} (h : r ≤ 9) (hq : q ≤ 288) (h1 : pow2 r < q) : r ≤ 8 := by
  rcases ten h with rfl | rfl | rfl | rfl | rfl | rfl | rfl | rfl | rfl | rfl <;> simp [pow2] at h1 <;> omega
theorem rnd_bd (q : Int) : rnd q ≤ 9 := by unfold rnd; (repeat' split) <;> omega

set_option maxRecDepth 100000 in
set_option maxHeartbeats 1000000 in
theorem rounds_p (q : Int) (h1 : 1 ≤ q) (h2 : q ≤ 288) (w : World) :
    Calls Try.prog 43 #[.int .i64 q] w fun e w' => e = .returned (.tuple #[.int .i64 (rnd q : Int), .int .i64 (pow2 (rnd q))]) ∧ w = w' := by
  go_enter Try.func43, Try.ntmps43
  go_wp2
  refine wp_scope_jumps 0 (fun a' w' => w' = w ∧ ∃ (r : Nat) (u4 u5 u6 u7 u8 u9 u10 : Value), r ≤ 9 ∧ (r = 0 ∨ pow2 (r - 1) < q) ∧ a' = { tmps := #[.int .i64 q, undef, .int .i64 (r : Int), .int .i64 (pow2 r), u4, u5, u6, u7, u8, u9, u10, undef, undef], defers := [] }) (fun a' _ => 9 - (intOf (a'.tmps.getD 2 undef)).toNat) (by rfl) ?_ ?_
  · go_wp2
    go_step3
    go_wp2
    · have hlt : (1 : Int) < q := by assumption
      go_step3
      exact ⟨rfl, rfl, 1, _, _, _, _, _, _, _, by omega, .inr hlt, rfl⟩
    · have hge : q ≤ 1 := by omega
      simp only [Exit.jump]
      go_ret2
      have e : rnd q = 0 := rnd_done (by omega) h2 hge (.inl rfl)
      rw [e]
      exact ⟨rfl, rfl⟩
  · rintro a' w' ⟨rfl, r, u4, u5, u6, u7, u8, u9, u10, hr, hp, rfl⟩
    obtain ⟨p1, p2⟩ := pow2_bd hr
    by_cases hlt : pow2 r < q
    · have h8 := pow2_less hr h2 hlt
      have HS := Lib.hid (pow2_succ r)
      go_wp2
      go_step3
      refine ⟨rfl, ⟨rfl, r + 1, ?_⟩, by simp [intOf]; omega⟩
      rw [HS.out]
      exact ⟨_, _, _, _, _, _, _, by omega, .inr (by simpa using hlt), rfl⟩
    · go_wp2
      simp only [Exit.jump]
      go_ret2
      have e : rnd q = r := rnd_done hr h2 (by omega) hp
      rw [e]
      exact ⟨rfl, rfl⟩

set_option maxRecDepth 100000 in
set_option maxHeartbeats 1000000 in
theorem moves_p (q : Int) (h1 : 1 ≤ q) (h2 : q ≤ 288) (w : World) :
    Calls Try.prog 35 #[.int .i64 q] w fun e w' => e = .returned (.int .i64 (movesV q)) ∧ w = w' := by
  have hc := fun w => rounds_p q h1 h2 w
  have hr := rnd_bd q
  obtain ⟨p1, p2⟩ := pow2_bd hr
  have hm : 0 ≤ q * (rnd q : Int) ∧ q * (rnd q : Int) ≤ 288 * 9 := ⟨Int.mul_nonneg (by omega) (by omega), Int.mul_le_mul h2 (by omega) (by omega) (by omega)⟩
  obtain ⟨m1, m2⟩ := hm
  go_enter Try.func35, Try.ntmps35
  go_wp2_with (go_at_call 43; refine (hc _).mono ?_; rintro e w' ⟨rfl, rfl⟩)
  go_ret
  exact ⟨rfl, rfl⟩

end Go.Proofs.Ytdfofojlnkhjjaa
