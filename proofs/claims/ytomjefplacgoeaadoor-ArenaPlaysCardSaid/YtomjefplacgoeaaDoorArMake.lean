/- New. -/
import Derived.Test.YtomjefplacgoeaaDoorArSince
namespace Go.Proofs.YtomjefplacgoeaaDoor
open Go.RowKit

def NewP (W : World) (base n : Nat) (e : Ending) (w' : World) : Prop :=
  ∃ A F, e = .returned (.tuple #[.pointer (some ⟨A, 0, none⟩), .int .i64 0]) ∧ ArenaAt w' base F A (List.replicate n 0) [] [] ∧ (∀ k ∈ F, W.heap.size ≤ k) ∧ Below W.heap.size W w'

section
variable {W : World}
theorem made (n base : Nat) (h1 : 1 ≤ n) (h2 : n ≤ 65536) (hb : base ≤ W.heap.size) {w1 : World} (hown : w1.ownsRow W.heap.size 31 1 (.slice (some ⟨W.heap.size, 0, none⟩) n n) n (madeCells #[.int .u64 0] (n * 1)).toList) (hgrow : W.grownBy w1 none) :
    ArenaAt (w1.alloc (.cells #[.slice none 0 0, .int .i64 0, .slice (some ⟨W.heap.size, 0, none⟩) n n, .slice none 0 0, .func (.func 34) #[.pointer (some ⟨w1.heap.size, 0, none⟩)] #[]] 70)) base [w1.heap.size, W.heap.size] w1.heap.size (List.replicate n 0) [] [] := by
  rw [Nat.mul_one, toList_madeCells_one] at hown
  rcases hown.2 with ⟨_, h0⟩ | ⟨g, cap, cur, he, hgb, hg, _, _, hs, ht⟩
  · omega
  · injection he with e1 e2 e3
    injection e1 with e1
    injection e1 with e1
    subst e1
    subst e3
    have hlt : W.heap.size < w1.heap.size := (Array.getElem?_eq_some_iff.1 hg).1
    have hcur : cur = (ccells (List.replicate n 0)).toArray := by
      apply Array.ext'
      rw [Nat.mul_one, List.take_of_length_le (by rw [Array.length_toList]; omega)] at ht
      rw [ht]; simp [ccells]
    refine ⟨.slice none 0 0, .slice none 0 0, W.heap.size, [], ⟨?_, ?_, World.ownsRow_nil _ _ _ _, World.ownsRow_nil _ _ _ _, rfl, fun i p hp => by simp at hp, ?_, fun k hk => ?_, ?_, ⟨by simp, fun e he => by simp at he⟩, by simp⟩⟩
    · rw [heap_alloc_new]; simp
    · rw [Below.heap_alloc _ _ _ hlt, hg, hcur]
    · simp [blockOf, Value.ownBlock]; omega
    · simp [blockOf, Value.ownBlock] at hk
      rcases hk with rfl | rfl
      · exact ⟨by simp, by omega, by simp⟩
      · exact ⟨by simp, by omega, by simp; omega⟩
    · refine ⟨by simpa using h1, by simpa using h2, fun x hx => ?_⟩
      rw [List.mem_replicate] at hx
      omega
set_option maxRecDepth 100000 in
set_option maxHeartbeats 2000000 in
theorem new_bad (n : Int) (hn : n < 1 ∨ 65536 < n) :
    Calls Tryd.prog 12 #[.int .i64 n] W fun e w' => e = .returned (.tuple #[.pointer none, .int .i64 7]) ∧ W = w' := by
  by_cases h1 : n < 1
  · clear hn
    go_enter Tryd.func12, Tryd.ntmps12
    go_wp2_with fail
    go_ret2
    exact ⟨rfl, rfl⟩
  · have h2 : 65536 < n := by omega
    clear hn
    go_enter Tryd.func12, Tryd.ntmps12
    go_wp2_with fail
    go_ret2
    exact ⟨rfl, rfl⟩
set_option maxRecDepth 100000 in
set_option maxHeartbeats 2000000 in
theorem new_p (n base : Nat) (h1 : 1 ≤ n) (h2 : n ≤ 65536) (hb : base ≤ W.heap.size) :
    Calls Tryd.prog 12 #[.int .i64 (n : Int)] W (NewP W base n) := by
  obtain ⟨i0, hi, hz0, hz1, hz2⟩ := info_parts infoU64
  have t1 : ¬ (n : Int) < 1 := by omega
  have t2 : ¬ 65536 < (n : Int) := by omega
  go_enter Tryd.func12, Tryd.ntmps12
  go_wp2_with (first | (at_make; refine wpList_make_full _ rfl _ _ 30 rfl W.heap.size 31 i0 _ 1 Tryd.underlying30 hi hz0 hz1 _ _ _ _ n rfl rfl rfl rfl (by rw [hz2]; omega) (by unfold maxLen; omega) (Nat.le_refl _) ?_; intro w1 hown hgrow))
  have HO := Lib.hid (made n base h1 h2 hb hown hgrow)
  have hb1 : Below W.heap.size W w1 := (Below.refl _ _).grown hgrow (Nat.le_refl _) (fun q e => by cases e)
  have HB := Lib.hid (hb1.alloc hb1.size (.cells #[.slice none 0 0, .int .i64 0, .slice (some ⟨W.heap.size, 0, none⟩) n n, .slice none 0 0, .func (.func 34) #[.pointer (some ⟨w1.heap.size, 0, none⟩)] #[]] 70))
  have hs := hb1.size
  go_ret2
  refine show NewP _ _ _ _ _ from ⟨w1.heap.size, [w1.heap.size, W.heap.size], rfl, HO.out, fun k hk => ?_, HB.out⟩
  simp at hk
  rcases hk with rfl | rfl <;> omega
end
end Go.Proofs.YtomjefplacgoeaaDoor
