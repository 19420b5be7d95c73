/- Layer 3's reference: Range, All, Not, Sub, List, Of. -/
import Derived.Test.YtooiegejchcbhaaDoorRefB
import Derived.Deep.RegionHeld3
namespace Go.Proofs.YtooiegejchcbhaaDoor
open Go.RowKit

theorem setC_zero : setC 0#256 = #[.int .u64 0, .int .u64 0, .int .u64 0, .int .u64 0] := rfl
theorem SetAt.zero (w : World) : SetAt (w.alloc (.cells #[.int .u64 0, .int .u64 0, .int .u64 0, .int .u64 0] 24)) w.heap.size 0#256 := SetAt.new w 0#256

set_option maxRecDepth 100000 in
set_option maxHeartbeats 1000000 in
theorem range_r (l h : Int) (w : World) :
    Calls Tryd.prog 18 #[.int .i64 l, .int .i64 h] w fun e w' => e = .returned (.tuple #[setV (rangeS l h), .int .i64 (rangeE l h)]) ∧ Below w.heap.size w w' := by
  have a0 := SetAt.zero w
  have hB0 : Below w.heap.size w (w.alloc (.cells #[.int .u64 0, .int .u64 0, .int .u64 0, .int .u64 0] 24)) := (Below.refl _ _).alloc (Nat.le_refl _) _
  have A0 := Lib.hid a0
  have HB0 := Lib.hid hB0
  clear a0 hB0
  by_cases hbad : l < 0 ∨ 255 < h ∨ h < l
  · have e1 : rangeE l h = 7 := by unfold rangeE; rw [if_pos hbad]
    have e2 : rangeS l h = 0#256 := by unfold rangeS; rw [e1]; rfl
    rw [e1, e2]; clear e1 e2
    have fin : ∀ W a, SetAt W w.heap.size 0#256 → Below w.heap.size w W → a.tmps[4]?.getD undef = .pointer (some ⟨w.heap.size, 0, none⟩) → a.tmps[5]?.getD undef = .int .i64 7 → a.defers = [] →
        bodyPost Tryd.prog Tryd.f18 (fun e w' => e = .returned (.tuple #[setV 0#256, .int .i64 7]) ∧ Below w.heap.size w w') .ret a W := by
      intro W a hW hB h4 h5 hd
      obtain ⟨q0, q1, q2, q3⟩ := hW.cells
      exact bodyPost_ret (v := .tuple #[setV 0#256, .int .i64 7]) (by simp [results, Tryd.results18, go_sem, h4, h5, q0, q1, q2, q3, setV, setC]) hd ⟨rfl, hB⟩
    have FIN := Lib.hid fin
    clear fin
    obtain ⟨f0, f1, f2, f3⟩ := A0.out.free
    by_cases g1 : l < 0
    · clear hbad
      go_enter Tryd.func18, Tryd.ntmps18
      go_wp2_with fail
      exact FIN.out _ _ A0.out HB0.out rfl rfl rfl
    · by_cases g2 : 255 < h
      · clear hbad
        go_enter Tryd.func18, Tryd.ntmps18
        go_wp2_with fail
        exact FIN.out _ _ A0.out HB0.out rfl rfl rfl
      · have g3 : h < l := by omega
        clear hbad
        go_enter Tryd.func18, Tryd.ntmps18
        go_wp2_with fail
        exact FIN.out _ _ A0.out HB0.out rfl rfl rfl
  · have e1 : rangeE l h = 0 := by unfold rangeE; rw [if_neg hbad]
    have e2 : rangeS l h = spanS l (h + 1) := by unfold rangeS; rw [e1]; rfl
    rw [e1, e2]; clear e1 e2
    obtain ⟨l', rfl⟩ : ∃ l' : Nat, l = l' := ⟨l.toNat, by omega⟩
    obtain ⟨h', rfl⟩ : ∃ h' : Nat, h = h' := ⟨h.toNat, by omega⟩
    have g1 : l' ≤ h' := by omega
    have g2 : h' ≤ 255 := by omega
    have t1 : ¬ (l' : Int) < 0 := by omega
    have t2 : ¬ (255 : Int) < (h' : Int) := by omega
    have t3 : ¬ h' < l' := by omega
    clear hbad
    have a1 := SetAt.zero (w.alloc (.cells #[.int .u64 0, .int .u64 0, .int .u64 0, .int .u64 0] 24))
    rw [World.size_alloc] at a1
    have A1 := Lib.hid a1
    clear a1
    go_enter Tryd.func18, Tryd.ntmps18
    go_wp2_with fail
    go_loopw [7] (fun i wr => ∃ k : Nat, l' ≤ k ∧ k ≤ h' + 1 ∧ i = .int .i64 (k : Nat) ∧ SetAt wr w.heap.size 0#256 ∧ SetAt wr (w.heap.size + 1) (spanS l' k) ∧ Below w.heap.size w wr) (fun i _ => h' + 1 - (intOf i).toNat)
    case atStart => exact ⟨l', by omega, by omega, rfl, A0.out.alloc _, by rw [span_none]; exact A1.out, HB0.out.alloc (by simp) _⟩
    case round =>
      obtain ⟨k, hk0, hk, rfl, h0, h1, hB⟩ := hrel
      have l0 := h0.lt
      have l1 := h1.lt
      have hz := hB.size
      by_cases hlt : k ≤ h'
      · have i0 : (0 : Int) ≤ (k : Int) := by omega
        have i1 : (k : Int) ≤ 255 := by omega
        obtain ⟨d0, d1, d2, d3⟩ := h1.cells
        go_wp2_with fail
        refine (add_r (spanS l' k) k (by omega) _).mono ?_
        rintro e w1 ⟨rfl, hb1⟩
        clear d0 d1 d2 d3
        have h0' := h0.below hb1 l0
        have h1' := h1.below hb1 l1
        obtain ⟨d0, d1, d2, d3⟩ := h1'.cells
        obtain ⟨f0, f1, f2, f3⟩ := h1'.free
        have hB1 := Lib.hid (next hB hb1)
        clear hb1
        unfold setV setC
        go_wp2_with fail
        refine ⟨?_, by simp [intOf]; omega⟩
        exact ⟨k + 1, by omega, by omega, by go_num, h0'.other (by omega) _, by rw [show ((k + 1 : Nat) : Int) = (k : Int) + 1 from rfl, span_succ (by omega) (by omega)]; exact h1'.put _, below_put hB1.out (by omega) _⟩
      · obtain rfl : k = h' + 1 := by omega
        rw [show ((h' + 1 : Nat) : Int) = (h' : Int) + 1 from rfl] at h1
        obtain ⟨S, hS⟩ : ∃ S, S = spanS (l' : Int) ((h' : Int) + 1) := ⟨_, rfl⟩
        rw [← hS] at h1
        have HS := Lib.hid hS
        clear hS
        obtain ⟨d0, d1, d2, d3⟩ := h1.cells
        obtain ⟨e0, e1, e2, e3⟩ := h0.cells
        obtain ⟨f0, f1, f2, f3⟩ := h0.free
        go_wp2_with fail
        obtain ⟨q0, q1, q2, q3⟩ := (h0.put S).cells
        show bodyPost _ _ _ _ _ (putSet wr w.heap.size S)
        exact bodyPost_ret (v := .tuple #[setV S, .int .i64 0]) (by simp [results, Tryd.results18, go_sem, q0, q1, q2, q3, setV, setC]) rfl ⟨by rw [HS.out], below_put hB (Nat.le_refl _) _⟩

end Go.Proofs.YtooiegejchcbhaaDoor
