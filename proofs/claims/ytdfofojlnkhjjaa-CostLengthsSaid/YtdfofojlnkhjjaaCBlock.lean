/- Layer 31: the steps of a block: plan.block and the reference's block. -/
import Derived.Test.YtdfofojlnkhjjaaCMoveR
import Derived.BigQuiet
import Derived.Deep.QuietTactic
namespace Go.Proofs.Ytdfofojlnkhjjaa
open Go.RowKit

theorem quiet_left {P : Program} {f : FuncId} {args : Array Value} {w : World} {n : Nat} {v : Value}
    (h : Calls P f args (w.drewN n) fun e w' => e = .returned v ∧ w.drewN n = w') : Calls P f args (w.drewN n) fun e w'' => e = .returned v ∧ ∃ m, w'' = w.drewN m :=
  h.mono fun _ _ ⟨he, hm⟩ => ⟨he, n, hm.symm⟩

/-- the steps of a block of b bytes, s words, r rules, q slots -/
def blockV (b s r q : Int) : Int := b * (261 * s + r * (2 * s + 5)) + 8 * q + 4 + 16 * movesV q

theorem moves_all : ∀ n : Fin 289, 0 ≤ movesV (n.val : Int) ∧ movesV (n.val : Int) ≤ 2592 := by decide +kernel
theorem moves_bd {q : Int} (h1 : 1 ≤ q) (h2 : q ≤ 288) : 0 ≤ movesV q ∧ movesV q ≤ 2592 := by
  have := moves_all ⟨q.toNat, by omega⟩
  simp only [show ((q.toNat : Nat) : Int) = q by omega] at this
  omega
theorem line_bd {s r : Int} (s1 : 1 ≤ s) (s2 : s ≤ 4) (r1 : 1 ≤ r) (r2 : r ≤ 16) : 0 ≤ r * (2 * s + 5) ∧ r * (2 * s + 5) ≤ 208 := by
  have h1 : 0 ≤ r * (2 * s + 5) := Int.mul_nonneg (by omega) (by omega)
  have h2 : r * (2 * s + 5) ≤ 16 * 13 := Int.mul_le_mul r2 (by omega) (by omega) (by omega)
  omega
theorem mulb_bd {b X : Int} (b1 : 1 ≤ b) (b2 : b ≤ 16) (x1 : 0 ≤ X) (x2 : X ≤ 1252) : 0 ≤ b * X ∧ b * X ≤ 20032 := by
  have h1 : 0 ≤ b * X := Int.mul_nonneg (by omega) x1
  have h2 : b * X ≤ 16 * 1252 := Int.mul_le_mul b2 x2 x1 (by omega)
  omega

set_option maxRecDepth 100000 in
set_option maxHeartbeats 2000000 in
theorem block_p (b k l s r q : Int) (b1 : 1 ≤ b) (b2 : b ≤ 16) (s1 : 1 ≤ s) (s2 : s ≤ 4) (r1 : 1 ≤ r) (r2 : r ≤ 16) (q1 : 1 ≤ q) (q2 : q ≤ 288) (w : World) :
    Calls Try.prog 38 #[planV b k l s r q] w fun e w' => e = .returned (.int .i64 (blockV b s r q)) ∧ Below w.heap.size w w' := by
  have hc := fun w => moves_p q q1 q2 w
  obtain ⟨m1, m2⟩ := moves_bd q1 q2
  obtain ⟨l1, l2⟩ := line_bd s1 s2 r1 r2
  obtain ⟨x1, x2⟩ := mulb_bd (X := 261 * s + r * (2 * s + 5)) b1 b2 (by omega) (by omega)
  unfold blockV
  generalize movesV q = M at *
  unfold planV
  go_enter Try.func38, Try.ntmps38
  go_wp2_with fail
  generalize hX : 261 * s + r * (2 * s + 5) = X at *
  have HX := Lib.hid hX
  clear hX
  have w1 : IntKind.i64.wrap (b * X) = b * X := IntWalk.i64_in _ (by omega)
  have w2 : IntKind.i64.wrap (8 * q) = 8 * q := IntWalk.i64_in _ (by omega)
  have w3 : IntKind.i64.wrap (b * X + 8 * q) = b * X + 8 * q := IntWalk.i64_in _ (by omega)
  have w4 : IntKind.i64.wrap (b * X + 8 * q + 4) = b * X + 8 * q + 4 := IntWalk.i64_in _ (by omega)
  have w5 : IntKind.i64.wrap (16 * M) = 16 * M := IntWalk.i64_in _ (by omega)
  have w6 : IntKind.i64.wrap (b * X + 8 * q + 4 + 16 * M) = b * X + 8 * q + 4 + 16 * M := IntWalk.i64_in _ (by omega)
  go_quiet ((go_at_call 35; exact quiet_left (hc _)))
  clear w1 w2 w3 w4 w5 w6
  go_wp2_with fail
  go_ret
  exact ⟨by rw [HX.out]; rfl, ((Below.refl _ _).alloc (Nat.le_refl _) _).trans ⟨rfl, rfl, rfl, Nat.le_refl _, fun _ _ => rfl⟩⟩

end Go.Proofs.Ytdfofojlnkhjjaa
