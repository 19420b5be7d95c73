/- What lies behind a place of a row. -/
import Derived.Test.YtomjefplacgoeaaDoorArArg
namespace Go.Proofs.YtomjefplacgoeaaDoor
open Go.RowKit

theorem owns_from {w : World} {base : Nat} {e : TypeId} {s n cap : Nat} {a : Option Addr} {xs : List Value} (h : w.ownsRow base e s (.slice a n cap) n xs) {i : Nat} (hi : i ≤ n) (hn : n ≤ maxLen) :
    Row w s (.slice (if cap = i then a else a.map (·.add (i * s))) (n - i) (cap - i)) (n - i) (xs.drop (i * s)) := by
  obtain ⟨hl, h2⟩ := h
  have hmul : i * s ≤ n * s := Nat.mul_le_mul_right _ hi
  have hlen : (xs.drop (i * s)).length = (n - i) * s := by rw [List.length_drop, hl, Nat.sub_mul]
  rcases h2 with ⟨hv, h0⟩ | ⟨g, cap', cur, hv, hb, hg, hnc, hc, hs, ht⟩
  · injection hv with e1 e2 e3
    subst e1; subst e3
    exact ⟨hlen, by omega, _, _, rfl, fun _ => by omega, .inl (by omega)⟩
  · injection hv with e1 e2 e3
    subst e1; subst e3
    refine ⟨hlen, by omega, _, _, rfl, fun h => ?_, ?_⟩
    · split at h <;> simp at h
    · by_cases h0 : n - i = 0
      · exact .inl h0
      · right
        rw [if_neg (by omega)]
        refine ⟨g, i * s, by simp [Addr.add]; first | done | (intro h; exact h.symm) | (rw [eq_comm]) | (split <;> simp_all), fun j hj => ?_⟩
        have hj2 : i * s + j < n * s := by
          rw [Nat.sub_mul] at hj; omega
        rw [List.getElem?_drop, ← ht, List.getElem?_take_of_lt hj2, Array.getElem?_toList]
        simp only [World.cell?, hg, Option.isSome_none, Bool.false_eq_true, if_false]
theorem slice_from {w : World} {base : Nat} {s n cap : Nat} {a : Option Addr} {xs : List Value} (h : w.ownsRow base 54 2 (.slice a n cap) n xs) (i : Nat) (hi : i ≤ n) (hn : n ≤ maxLen) (hs : s = 2) :
    ∃ V, (∀ w', (Instr.slice 49 (.slice a n cap) (some (.int .i64 (i : Int))) none none).run Tryd.prog w' = .ok V w') ∧ Row w 2 V (n - i) (xs.drop (i * 2)) := by
  refine ⟨_, fun w' => ?_, owns_from h hi hn⟩
  subst hs
  have hsz : ∀ w', (sizeOf (Tryd.prog.elem 49)).run Tryd.prog w' = .ok 2 w' := fun w' => by kernel_rfl
  rw [run_slice_l (P := Tryd.prog) w' 49 a n cap (by kernel_rfl) .i64 (i : Int) (by omega) (by omega), hsz]
  simp only [Result.andThen, sliced, Int.toNat_natCast]
theorem ecells_drop (l : List Ev) (i : Nat) : (ecells l).drop (i * 2) = ecells (l.drop i) := by
  induction l generalizing i with
  | nil => simp [ecells]
  | cons e l ih =>
    cases i with
    | zero => simp
    | succ i =>
      rw [List.drop_succ_cons, ← ih, Nat.add_mul]
      rfl
end Go.Proofs.YtomjefplacgoeaaDoor
