/- Layer 31: the reference's rounds and moves. -/
import Derived.Test.YtdfofojlnkhjjaaCMove
namespace Go.Proofs.Ytdfofojlnkhjjaa
open Go.RowKit

set_option maxRecDepth 100000 in
set_option maxHeartbeats 1000000 in
theorem rounds_r (q : Int) (h1 : 1 ≤ q) (h2 : q ≤ 288) (w : World) :
    Calls Try.prog 44 #[.int .i64 q] w fun e w' => e = .returned (.int .i64 (rnd q : Int)) ∧ w = w' := by
  go_enter Try.func44, Try.ntmps44
  go_wp2
  go_loop [3, 4] (fun rv pv => ∃ r : Nat, r ≤ 9 ∧ (r = 0 ∨ pow2 (r - 1) < q) ∧ rv = .int .i64 (r : Int) ∧ pv = .int .i64 (pow2 r)) (fun rv _ => 9 - (intOf rv).toNat)
  case atStart => exact ⟨0, by omega, .inl rfl, rfl, rfl⟩
  case round =>
    obtain ⟨r, hr, hp, rfl, rfl⟩ := hrel
    obtain ⟨p1, p2⟩ := pow2_bd hr
    by_cases hlt : pow2 r < q
    · have h8 := pow2_less hr h2 hlt
      have HS := Lib.hid (pow2_succ r)
      go_wp2
      go_round
      case rel => exact ⟨r + 1, by omega, .inr (by simpa using hlt), by go_num, by rw [HS.out]; first | rfl | (rw [Int.mul_comm])⟩
      case measure => simp [intOf]; omega
    · have e : rnd q = r := rnd_done hr h2 (by omega) hp
      have E := Lib.hid e
      clear e
      go_wp2
      go_ret
      rw [E.out]
      exact ⟨rfl, rfl⟩

set_option maxRecDepth 100000 in
set_option maxHeartbeats 1000000 in
theorem moves_r (q : Int) (h1 : 1 ≤ q) (h2 : q ≤ 288) (w : World) :
    Calls Try.prog 36 #[.int .i64 q] w fun e w' => e = .returned (.int .i64 (movesV q)) ∧ w = w' := by
  have hc := fun w => rounds_r q h1 h2 w
  have hr := rnd_bd q
  have hm : 0 ≤ q * (rnd q : Int) ∧ q * (rnd q : Int) ≤ 288 * 9 := ⟨Int.mul_nonneg (by omega) (by omega), Int.mul_le_mul h2 (by omega) (by omega) (by omega)⟩
  obtain ⟨m1, m2⟩ := hm
  unfold movesV
  generalize rnd q = R at *
  go_enter Try.func36, Try.ntmps36
  go_wp2_with (go_at_call 44; refine (hc _).mono ?_; rintro e w' ⟨rfl, rfl⟩)
  go_loop [4, 5] (fun pv iv => ∃ k : Nat, k ≤ R ∧ iv = .int .i64 (k : Int) ∧ pv = .int .i64 (pow2 k)) (fun _ iv => R - (intOf iv).toNat)
  case atStart => exact ⟨0, by omega, rfl, rfl⟩
  case round =>
    obtain ⟨k, hk, rfl, rfl⟩ := hrel
    obtain ⟨p1, p2⟩ := pow2_bd (show k ≤ 9 by omega)
    by_cases hlt : k < R
    · have HS := Lib.hid (pow2_succ k)
      go_wp2
      go_round
      case rel => exact ⟨k + 1, by omega, by go_num, by rw [HS.out]; first | rfl | (rw [Int.mul_comm])⟩
      case measure => simp [intOf]; omega
    · obtain rfl : R = k := by omega
      go_wp2
      go_ret
      exact ⟨rfl, rfl⟩

end Go.Proofs.Ytdfofojlnkhjjaa
