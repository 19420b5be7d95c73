/- Layer 27: End of package blocks. -/
import Derived.Test.YtfmngphmmhjicaaDoorDSplit
namespace Go.Proofs.YtfmngphmmhjicaaDoor
open Go.RowKit

def endE (p : Part) (i : Int) : Int := if p.2.2 < 0 ∨ 1000000000 < p.2.2 then 7 else if i < 0 ∨ min p.2.1 (p.1.length : Int) ≤ i then 4 else 0
def endV (p : Part) (i : Int) : Int := if endE p i = 0 then p.2.2 + i + 1 else 0

theorem end_range {p : Part} {i : Int} (h : p.2.2 < 0 ∨ 1000000000 < p.2.2) : endE p i = 7 ∧ endV p i = 0 := by
  have e : endE p i = 7 := by unfold endE; rw [if_pos h]
  exact ⟨e, by unfold endV; rw [e]; rfl⟩
theorem end_none {p : Part} {i : Int} (h : ¬ (p.2.2 < 0 ∨ 1000000000 < p.2.2)) (h2 : i < 0 ∨ min p.2.1 (p.1.length : Int) ≤ i) : endE p i = 4 ∧ endV p i = 0 := by
  have e : endE p i = 4 := by unfold endE; rw [if_neg h, if_pos h2]
  exact ⟨e, by unfold endV; rw [e]; rfl⟩
theorem end_ok {p : Part} {i : Int} (h : ¬ (p.2.2 < 0 ∨ 1000000000 < p.2.2)) (h2 : ¬ (i < 0 ∨ min p.2.1 (p.1.length : Int) ≤ i)) : endE p i = 0 ∧ endV p i = p.2.2 + i + 1 := by
  have e : endE p i = 0 := by unfold endE; rw [if_neg h, if_neg h2]
  exact ⟨e, by unfold endV; rw [e]; rfl⟩

set_option maxHeartbeats 400000 in
theorem end_p (p : Part) (i : Int) (w : World) (hl : p.1.length ≤ 1000000) :
    Calls Tryd.prog 11 #[.agg #[.string (str p.1), .int .i64 p.2.1, .int .i64 p.2.2], .int .i64 i] w fun e w' =>
      e = .returned (.tuple #[.int .i64 (endV p i), .int .i64 (endE p i)]) ∧ Below w.heap.size w w' := by
  obtain ⟨bs, real, before⟩ := p
  have hss := size_str bs
  by_cases h : before < 0 ∨ 1000000000 < before
  · obtain ⟨e1, e2⟩ := end_range (p := (bs, real, before)) (i := i) h
    rw [e1, e2]; clear e1 e2
    rcases h with h | h
    · go_enter Tryd.func11, Tryd.ntmps11
      go_wp2
      go_ret2
      exact ⟨rfl, (Below.refl _ _).alloc (Nat.le_refl _) _⟩
    · have h' : ¬ before < 0 := by omega
      go_enter Tryd.func11, Tryd.ntmps11
      go_wp2
      go_ret2
      exact ⟨rfl, (Below.refl _ _).alloc (Nat.le_refl _) _⟩
  · have k1 : 0 ≤ before := by omega
    have k2 : before ≤ 1000000000 := by omega
    by_cases h2 : i < 0 ∨ min real (bs.length : Int) ≤ i
    · obtain ⟨e1, e2⟩ := end_none (p := (bs, real, before)) (i := i) h h2
      rw [e1, e2]; clear e1 e2 h
      rcases h2 with h2 | h2
      · go_enter Tryd.func11, Tryd.ntmps11
        go_wp2
        go_ret2
        exact ⟨rfl, (Below.refl _ _).alloc (Nat.le_refl _) _⟩
      · by_cases h3 : i < 0
        · clear h2
          go_enter Tryd.func11, Tryd.ntmps11
          go_wp2
          go_ret2
          exact ⟨rfl, (Below.refl _ _).alloc (Nat.le_refl _) _⟩
        · go_enter Tryd.func11, Tryd.ntmps11
          go_wp2
          all_goals
            go_ret2
            exact ⟨rfl, (Below.refl _ _).alloc (Nat.le_refl _) _⟩
    · obtain ⟨e1, e2⟩ := end_ok (p := (bs, real, before)) (i := i) h h2
      rw [e1, e2]; clear e1 e2 h
      have k3 : ¬ i < 0 := by omega
      have k4 : i < min real (bs.length : Int) := by omega
      have k5 : i < (bs.length : Int) := by omega
      have k6 : (bs.length : Int) ≤ 1000000 := by simp at hl; omega
      have k7 : i < real := by omega
      clear h2
      go_enter Tryd.func11, Tryd.ntmps11
      go_wp2
      all_goals
        go_ret2
        exact ⟨rfl, (Below.refl _ _).alloc (Nat.le_refl _) _⟩

end Go.Proofs.YtfmngphmmhjicaaDoor
