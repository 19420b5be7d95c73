/- classes.Union, classes.Meet. -/
import Derived.Test.YtooiegejchcbhaaDoorKEach
namespace Go.Proofs.YtooiegejchcbhaaDoor
open Go.RowKit Go.Shelf

set_option maxRecDepth 100000 in
set_option maxHeartbeats 1000000 in
theorem union_p (s t : CSet) (w : World) : Calls Tryd.prog 15 #[setV s, setV t] w fun e w' => e = .returned (setV (s ||| t)) ∧ Below w.heap.size w w' := by
  have a2 := SetAt.zero ((w.alloc (.cells (setC s) 24)).alloc (.cells (setC t) 24))
  rw [World.size_alloc, World.size_alloc] at a2
  have hB0 : Below w.heap.size w (((w.alloc (.cells (setC s) 24)).alloc (.cells (setC t) 24)).alloc (.cells #[.int .u64 0, .int .u64 0, .int .u64 0, .int .u64 0] 24)) := (((Below.refl _ _).alloc (Nat.le_refl _) _).alloc (by simp) _).alloc (by simp; omega) _
  have A2 := Lib.hid a2
  have HB0 := Lib.hid hB0
  clear a2 hB0
  have hc := fun w => each_p 48 (enters_of Tryd.func48 (by kernel_rfl) rfl) (fun x y => x ||| y) s t (mixS s (s ||| t)) (mix_zero _ _) (mix_step s t (s ||| t) _ fun i _ => word_or s t i) (fun k _ w => unionF_p _ _ (word_lt _ _) (word_lt _ _) w) w
  rw [mix_all] at hc
  have HC := Lib.hid hc
  clear hc
  unfold setV setC
  go_enter Tryd.func15, Tryd.ntmps15
  go_wp2_with fail
  refine (HC.out _).mono ?_
  rintro e w1 ⟨rfl, hb1⟩
  have h2 := A2.out.below hb1 (by simp <;> omega)
  have HB1 := Lib.hid (next HB0.out hb1)
  obtain ⟨d0, d1, d2, d3⟩ := h2.cells
  obtain ⟨f0, f1, f2, f3⟩ := h2.free
  clear hb1
  unfold setV setC
  go_wp2_with fail
  obtain ⟨q0, q1, q2, q3⟩ := (h2.put (s ||| t)).cells
  show bodyPost _ _ _ _ _ (putSet w1 (w.heap.size + 1 + 1) (s ||| t))
  exact bodyPost_ret (v := .agg #[.int .u64 _, .int .u64 _, .int .u64 _, .int .u64 _]) (by simp [results, Tryd.results15, go_sem, q0, q1, q2, q3]) rfl ⟨rfl, below_put HB1.out (by omega) _⟩

set_option maxRecDepth 100000 in
set_option maxHeartbeats 1000000 in
theorem meet_p (s t : CSet) (w : World) : Calls Tryd.prog 25 #[setV s, setV t] w fun e w' => e = .returned (setV (s &&& t)) ∧ Below w.heap.size w w' := by
  have a2 := SetAt.zero ((w.alloc (.cells (setC s) 24)).alloc (.cells (setC t) 24))
  rw [World.size_alloc, World.size_alloc] at a2
  have hB0 : Below w.heap.size w (((w.alloc (.cells (setC s) 24)).alloc (.cells (setC t) 24)).alloc (.cells #[.int .u64 0, .int .u64 0, .int .u64 0, .int .u64 0] 24)) := (((Below.refl _ _).alloc (Nat.le_refl _) _).alloc (by simp) _).alloc (by simp; omega) _
  have A2 := Lib.hid a2
  have HB0 := Lib.hid hB0
  clear a2 hB0
  have hc := fun w => each_p 49 (enters_of Tryd.func49 (by kernel_rfl) rfl) (fun x y => x &&& y) s t (mixS s (s &&& t)) (mix_zero _ _) (mix_step s t (s &&& t) _ fun i _ => word_and s t i) (fun k _ w => meetF_p _ _ (word_lt _ _) (word_lt _ _) w) w
  rw [mix_all] at hc
  have HC := Lib.hid hc
  clear hc
  unfold setV setC
  go_enter Tryd.func25, Tryd.ntmps25
  go_wp2_with fail
  refine (HC.out _).mono ?_
  rintro e w1 ⟨rfl, hb1⟩
  have h2 := A2.out.below hb1 (by simp <;> omega)
  have HB1 := Lib.hid (next HB0.out hb1)
  obtain ⟨d0, d1, d2, d3⟩ := h2.cells
  obtain ⟨f0, f1, f2, f3⟩ := h2.free
  clear hb1
  unfold setV setC
  go_wp2_with fail
  obtain ⟨q0, q1, q2, q3⟩ := (h2.put (s &&& t)).cells
  show bodyPost _ _ _ _ _ (putSet w1 (w.heap.size + 1 + 1) (s &&& t))
  exact bodyPost_ret (v := .agg #[.int .u64 _, .int .u64 _, .int .u64 _, .int .u64 _]) (by simp [results, Tryd.results25, go_sem, q0, q1, q2, q3]) rfl ⟨rfl, below_put HB1.out (by omega) _⟩

end Go.Proofs.YtooiegejchcbhaaDoor
