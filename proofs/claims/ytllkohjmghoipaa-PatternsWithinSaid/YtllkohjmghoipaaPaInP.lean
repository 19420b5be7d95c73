/- Within of patterns. -/
import Derived.Test.YtllkohjmghoipaaPaIn
namespace Go.Proofs.Ytllkohjmghoipaa
open Go.RowKit Go.Sort

set_option maxRecDepth 100000 in
set_option maxHeartbeats 20000000 in
theorem within_p (v u : Value) (p q : List El) (w : World) (h : Pats w v p) (hq : Pats w u q) :
    Calls Try.prog 26 #[v, u] w fun e w' => e = .returned (.tuple #[.bool (withinV p q), .int .i64 (pairE p q)]) ∧ Below w.heap.size w w' := by
  obtain ⟨va, vc, rfl⟩ := Row.form2 h
  obtain ⟨ua, uc, rfl⟩ := Row.form2 hq
  have hpm : p.length ≤ maxLen := h.2.1
  have hqm : q.length ≤ maxLen := hq.2.1
  have HP := Lib.hid h
  have HQ := Lib.hid hq
  have HW := Lib.hid (show Below w.heap.size w (w.alloc (.cells #[.slice va p.length vc, .slice ua q.length uc] 22)) from (Below.refl _ _).alloc (Nat.le_refl _) _)
  have HC := Lib.hid (show ∀ wr, Below (w.heap.size + 1) (w.alloc (.cells #[.slice va p.length vc, .slice ua q.length uc] 22)) wr → wr.cell? ⟨w.heap.size, 0, none⟩ = some (.slice va p.length vc) ∧ wr.cell? ⟨w.heap.size, 1, none⟩ = some (.slice ua q.length uc) from fun wr hb => by
    have e := (hb.block w.heap.size (by omega)).trans (heap_alloc_new w _)
    exact ⟨cell_in e rfl, cell_in e rfl⟩)
  clear h hq
  go_enter Try.func26, Try.ntmps26
  go_wp2_with fail
  go_loopw [14] (fun iv wr => ∃ i : Nat, i ≤ 2 ∧ iv = .int .i64 (i : Nat) ∧ (1 ≤ i → (checkV p).2 = 0) ∧ (2 ≤ i → (checkV q).2 = 0) ∧ Below (w.heap.size + 1) (w.alloc (.cells #[.slice va p.length vc, .slice ua q.length uc] 22)) wr) (fun iv _ => 2 - (intOf iv).toNat)
  case atStart => exact ⟨0, by omega, rfl, fun h => absurd h (by decide), fun h => absurd h (by decide), Below.refl _ _⟩
  case round =>
    obtain ⟨i, hi, rfl, hp0, hq0, hB⟩ := hrel
    have HB := Lib.hid hB
    have HBW := Lib.hid (next HW.out (hB.mono (by simp)))
    obtain ⟨c0, c1⟩ := HC.out wr hB
    clear hB
    have hcase : i = 0 ∨ i = 1 ∨ i = 2 := by omega
    rcases hcase with rfl | rfl | rfl
    · have K := Lib.hid (check_p _ p wr (Row.below HP.out HBW.out))
      by_cases h0 : (checkV p).2 = 0
      · rw [checkV_ok h0] at K
        clear hp0 hq0 c1
        go_wp2_with fail
        refine K.out.mono ?_
        rintro e w1 ⟨rfl, hb1⟩
        have HB1 := Lib.hid (HB.out.trans (hb1.mono (by have := HB.out.size; simp at this; omega)))
        clear hb1
        go_wp2_with fail
        exact ⟨⟨1, by omega, rfl, fun _ => h0, fun h => absurd h (by decide), HB1.out⟩, by simp [intOf]⟩
      · have HE := Lib.hid (show pairE p q = (checkV p).2 by unfold pairE; rw [if_neg h0])
        have HV := Lib.hid (show withinV p q = false by unfold withinV; rw [if_neg (by rw [HE.out]; exact h0)])
        have t1 : ((checkV p).2 != 0) = true := bne_iff_ne.2 h0
        clear hp0 hq0 c1 h0
        generalize (checkV p).2 = E at *
        generalize (checkV p).1 = E' at *
        go_wp2_with fail
        refine K.out.mono ?_
        rintro e w1 ⟨rfl, hb1⟩
        have HB1 := Lib.hid (next HBW.out hb1)
        clear hb1
        go_wp2_with fail
        go_ret2
        exact ⟨by rw [HV.out, HE.out]; rfl, HB1.out⟩
    · have K := Lib.hid (check_p _ q wr (Row.below HQ.out HBW.out))
      have h00 := hp0 (by omega)
      by_cases h0 : (checkV q).2 = 0
      · rw [checkV_ok h0] at K
        clear hp0 hq0 c0
        go_wp2_with fail
        refine K.out.mono ?_
        rintro e w1 ⟨rfl, hb1⟩
        have HB1 := Lib.hid (HB.out.trans (hb1.mono (by have := HB.out.size; simp at this; omega)))
        clear hb1
        go_wp2_with fail
        exact ⟨⟨2, by omega, rfl, fun _ => h00, fun _ => h0, HB1.out⟩, by simp [intOf]⟩
      · have HE := Lib.hid (show pairE p q = (checkV q).2 by unfold pairE; rw [if_pos h00])
        have HV := Lib.hid (show withinV p q = false by unfold withinV; rw [if_neg (by rw [HE.out]; exact h0)])
        have t1 : ((checkV q).2 != 0) = true := bne_iff_ne.2 h0
        clear hp0 hq0 c0 h0 h00
        generalize (checkV q).2 = E at *
        generalize (checkV q).1 = E' at *
        go_wp2_with fail
        refine K.out.mono ?_
        rintro e w1 ⟨rfl, hb1⟩
        have HB1 := Lib.hid (next HBW.out hb1)
        clear hb1
        go_wp2_with fail
        go_ret2
        exact ⟨by rw [HV.out, HE.out]; rfl, HB1.out⟩
    · have h0 := hp0 (by omega)
      have h1 := hq0 (by omega)
      have HE := Lib.hid (show pairE p q = 0 by unfold pairE; rw [if_pos h0, h1])
      have HV := Lib.hid (show withinV p q = inL p q by unfold withinV; rw [if_pos HE.out])
      have K := Lib.hid (eqf_p _ _ p q wr (Row.below HP.out HBW.out) (Row.below HQ.out HBW.out) (by have := (okP_of h0).le; omega) (by have := (okP_of h1).le; omega))
      clear hp0 hq0 c0 c1 h0 h1
      go_wp2_with fail
      refine K.out.mono ?_
      rintro e w1 ⟨rfl, hb1⟩
      have HB1 := Lib.hid (next HBW.out hb1)
      clear hb1
      go_wp2_with fail
      go_ret2
      exact ⟨by rw [HV.out, HE.out]; rfl, HB1.out⟩
end Go.Proofs.Ytllkohjmghoipaa
