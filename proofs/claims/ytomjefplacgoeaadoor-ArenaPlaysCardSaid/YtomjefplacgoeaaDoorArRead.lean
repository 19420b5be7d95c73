/- Has, Room, Steps, Forget of an arena. -/
import Derived.Test.YtomjefplacgoeaaDoorArRep
namespace Go.Proofs.YtomjefplacgoeaaDoor
open Go.RowKit

def hasE (n : Nat) (f k : Int) : Int := if f < 0 ∨ (n : Int) < f ∨ k < 0 ∨ (n : Int) - f < k then 7 else 0
def roomE (n : Nat) (k : Int) : Int := if k < 0 then 7 else if 8388608 - (n : Int) < k then 3 else 0

section
variable {W : World} {base : Nat} {F : List Nat} {A : Nat} {cs : List Nat} {rs : List Reg} {ev : List Ev}

set_option maxRecDepth 100000 in
set_option maxHeartbeats 1000000 in
theorem has_p (f k : Int) (h : ArenaAt W base F A cs rs ev) :
    Calls Tryd.prog 23 #[.pointer (some ⟨A, 0, none⟩), .int .i64 f, .int .i64 k] W fun e w' => e = .returned (.int .i64 (hasE cs.length f k)) ∧ W = w' := by
  have KN := Lib.hid (none_p h)
  obtain ⟨pv, rv, C, PL, h⟩ := h
  obtain ⟨c0, c1, c2, c3, c4⟩ := h.cells
  have hl := h.lc.2.1
  clear h c0 c1 c3 c4
  generalize cs.length = n at *
  by_cases h1 : f < 0
  · have e : hasE n f k = 7 := by unfold hasE; rw [if_pos (by omega)]
    rw [e]; clear e
    go_enter Tryd.func23, Tryd.ntmps23
    go_wp2_with fail
    refine KN.out.mono ?_
    rintro e w1 ⟨rfl, rfl⟩
    go_wp2_with fail
    go_ret
    exact ⟨rfl, rfl⟩
  · by_cases h2 : (n : Int) < f
    · have e : hasE n f k = 7 := by unfold hasE; rw [if_pos (by omega)]
      rw [e]; clear e
      go_enter Tryd.func23, Tryd.ntmps23
      go_wp2_with fail
      refine KN.out.mono ?_
      rintro e w1 ⟨rfl, rfl⟩
      go_wp2_with fail
      go_ret
      exact ⟨rfl, rfl⟩
    · by_cases h3 : k < 0
      · have e : hasE n f k = 7 := by unfold hasE; rw [if_pos (by omega)]
        rw [e]; clear e
        go_enter Tryd.func23, Tryd.ntmps23
        go_wp2_with fail
        refine KN.out.mono ?_
        rintro e w1 ⟨rfl, rfl⟩
        go_wp2_with fail
        go_ret
        exact ⟨rfl, rfl⟩
      · have wn : IntKind.i64.wrap ((n : Int) - f) = (n : Int) - f := IntWalk.i64_in _ (by omega)
        by_cases h4 : (n : Int) - f < k
        · have e : hasE n f k = 7 := by unfold hasE; rw [if_pos (by omega)]
          rw [e]; clear e
          go_enter Tryd.func23, Tryd.ntmps23
          go_wp2_with fail
          refine KN.out.mono ?_
          rintro e w1 ⟨rfl, rfl⟩
          go_wp2_with fail
          go_ret
          exact ⟨rfl, rfl⟩
        · have e : hasE n f k = 0 := by unfold hasE; rw [if_neg (by omega)]
          rw [e]; clear e
          go_enter Tryd.func23, Tryd.ntmps23
          go_wp2_with fail
          refine KN.out.mono ?_
          rintro e w1 ⟨rfl, rfl⟩
          go_wp2_with fail
          go_ret
          exact ⟨rfl, rfl⟩

set_option maxRecDepth 100000 in
set_option maxHeartbeats 1000000 in
theorem room_p (k : Int) (h : ArenaAt W base F A cs rs ev) :
    Calls Tryd.prog 24 #[.pointer (some ⟨A, 0, none⟩), .int .i64 k] W fun e w' => e = .returned (.int .i64 (roomE ev.length k)) ∧ W = w' := by
  have KN := Lib.hid (none_p h)
  obtain ⟨pv, rv, C, PL, h⟩ := h
  obtain ⟨c0, c1, c2, c3, c4⟩ := h.cells
  have hl := h.le.1
  clear h c0 c2 c3 c4
  generalize ev.length = n at *
  by_cases h1 : k < 0
  · have e : roomE n k = 7 := by unfold roomE; rw [if_pos h1]
    rw [e]; clear e
    go_enter Tryd.func24, Tryd.ntmps24
    go_wp2_with fail
    refine KN.out.mono ?_
    rintro e w1 ⟨rfl, rfl⟩
    go_wp2_with fail
    go_ret
    exact ⟨rfl, rfl⟩
  · have wn : IntKind.i64.wrap (8388608 - (n : Int)) = 8388608 - (n : Int) := IntWalk.i64_in _ (by omega)
    by_cases h2 : 8388608 - (n : Int) < k
    · have e : roomE n k = 3 := by unfold roomE; rw [if_neg h1, if_pos h2]
      rw [e]; clear e
      go_enter Tryd.func24, Tryd.ntmps24
      go_wp2_with fail
      refine KN.out.mono ?_
      rintro e w1 ⟨rfl, rfl⟩
      go_wp2_with fail
      go_ret
      exact ⟨rfl, rfl⟩
    · have e : roomE n k = 0 := by unfold roomE; rw [if_neg h1, if_neg h2]
      rw [e]; clear e
      go_enter Tryd.func24, Tryd.ntmps24
      go_wp2_with fail
      refine KN.out.mono ?_
      rintro e w1 ⟨rfl, rfl⟩
      go_wp2_with fail
      go_ret
      exact ⟨rfl, rfl⟩

set_option maxRecDepth 100000 in
set_option maxHeartbeats 1000000 in
theorem steps_p (h : ArenaAt W base F A cs rs ev) :
    Calls Tryd.prog 20 #[.pointer (some ⟨A, 0, none⟩)] W fun e w' => e = .returned (.int .i64 (ev.length : Int)) ∧ W = w' := by
  have KN := Lib.hid (none_p h)
  obtain ⟨pv, rv, C, PL, h⟩ := h
  obtain ⟨c0, c1, c2, c3, c4⟩ := h.cells
  clear h c0 c2 c3 c4
  go_enter Tryd.func20, Tryd.ntmps20
  go_wp2_with fail
  refine KN.out.mono ?_
  rintro e w1 ⟨rfl, rfl⟩
  go_wp2_with fail
  go_ret
  exact ⟨rfl, rfl⟩

theorem nodup_part {a c : Nat} {l1 l2 l3 : List Nat} (h : (a :: c :: (l1 ++ l2 ++ l3)).Nodup) : (a :: c :: ([] ++ [] ++ l3)).Nodup := by
  refine h.sublist ?_
  simp
theorem ArenaIn.forget {pv rv : Value} {C : Nat} {PL : List Nat} {m : Nat} (h : ArenaIn W base F A cs rs ev pv rv C PL m) :
    ArenaIn ((W.setCell ⟨A, 0, none⟩ (.slice none 0 0)).setCell ⟨A, 1, none⟩ (.int .i64 0)) base F A cs rs [] (.slice none 0 0) rv C [] 0 := by
  have hA : ∀ k, k ≠ A → ((W.setCell ⟨A, 0, none⟩ (.slice none 0 0)).setCell ⟨A, 1, none⟩ (.int .i64 0)).heap[k]? = W.heap[k]? := fun k hk => by
    rw [Below.heap_setCell _ _ _ _ hk, Below.heap_setCell _ _ _ _ hk]
  have hnd := h.nd
  rw [List.nodup_cons] at hnd
  have hne : ∀ k ∈ C :: (PL ++ blockOf pv ++ blockOf rv), k ≠ A := fun k hk e => hnd.1 (e ▸ hk)
  refine ⟨?_, (hA C (hne C (by simp))).trans h.c, World.ownsRow_nil _ _ _ _, owns_keep h.r (fun k hk => hA k (hne k (by simp [hk]))), by simp, fun i p hp => by simp at hp, nodup_part h.nd, fun k hk => ?_, h.lc, ⟨by simp, fun e he => by simp at he⟩, h.lr⟩
  · rw [heap_setCell_at _ (heap_setCell_at _ h.a)]; rfl
  · have := h.own k (by simp [blockOf, Value.ownBlock] at hk ⊢; rcases hk with h | h | h <;> simp [h])
    exact ⟨this.1, this.2.1, by simpa [World.size_setCell] using this.2.2⟩
theorem ArenaIn.free {pv rv : Value} {C : Nat} {PL : List Nat} {m : Nat} (h : ArenaIn W base F A cs rs ev pv rv C PL m) : ∀ i, W.frozen? ⟨A, i, none⟩ = false := fun i => by
  unfold World.frozen?; rw [h.a]; simp

set_option maxRecDepth 100000 in
set_option maxHeartbeats 1000000 in
theorem forget_p (h : ArenaAt W base F A cs rs ev) :
    Calls Tryd.prog 25 #[.pointer (some ⟨A, 0, none⟩)] W fun e w' => e = .returned (.int .i64 0) ∧ ArenaAt w' base F A cs rs [] ∧ Fr F W w' := by
  have KN := Lib.hid (none_p h)
  obtain ⟨pv, rv, C, PL, h⟩ := h
  obtain ⟨c0, c1, c2, c3, c4⟩ := h.cells
  have f0 := h.free 0
  have f1 := h.free 1
  have HF := Lib.hid h.forget
  have HA := Lib.hid ((h.own A (by simp)).1)
  clear h c2 c3 c4
  go_enter Tryd.func25, Tryd.ntmps25
  go_wp2_with fail
  refine KN.out.mono ?_
  rintro e w1 ⟨rfl, rfl⟩
  go_wp2_with fail
  go_ret
  refine ⟨rfl, ⟨_, _, _, _, HF.out⟩, rfl, rfl, rfl, by simp [World.size_setCell], fun k hk hn => ?_⟩
  have hk : k ≠ A := fun e => hn (e ▸ HA.out)
  rw [Below.heap_setCell _ _ _ _ hk, Below.heap_setCell _ _ _ _ hk]
end
end Go.Proofs.YtomjefplacgoeaaDoor
