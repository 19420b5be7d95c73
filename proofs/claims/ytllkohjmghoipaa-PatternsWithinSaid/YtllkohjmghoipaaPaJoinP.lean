/- Join of patterns. -/
import Derived.Test.YtllkohjmghoipaaPaClone
import Derived.Test.YtllkohjmghoipaaPaChkR
namespace Go.Proofs.Ytllkohjmghoipaa
open Go.RowKit Go.Sort

set_option maxRecDepth 100000 in
set_option maxHeartbeats 20000000 in
theorem join_p (v u : Value) (p q : List El) (low high : Int) (w : World) (h : Pats w v p) (hq : Pats w u q) :
    Calls Try.prog 22 #[v, u, .int .i64 low, .int .i64 high] w (PatP w (joinV p q low high) (joinE p q low high)) := by
  obtain ⟨va, vc, rfl⟩ := Row.form2 h
  obtain ⟨ua, uc, rfl⟩ := Row.form2 hq
  have hpm : p.length ≤ maxLen := h.2.1
  have hqm : q.length ≤ maxLen := hq.2.1
  have HP := Lib.hid h
  have HQ := Lib.hid hq
  have HW := Lib.hid (show Below w.heap.size w (w.alloc (.cells #[.slice va p.length vc, .slice ua q.length uc] 22)) from (Below.refl _ _).alloc (Nat.le_refl _) _)
  have HC := Lib.hid (show ∀ wr, Below (w.heap.size + 1) (w.alloc (.cells #[.slice va p.length vc, .slice ua q.length uc] 22)) wr → wr.cell? ⟨w.heap.size, 0, none⟩ = some (.slice va p.length vc) ∧ wr.cell? ⟨w.heap.size, 1, none⟩ = some (.slice ua q.length uc) from fun wr hb => by
    have e := (hb.block w.heap.size (by omega)).trans (heap_alloc_new w _)
    exact ⟨cell_in e rfl, cell_in e rfl⟩)
  clear h hq
  go_enter Try.func22, Try.ntmps22
  go_wp2_with fail
  go_loopw [19] (fun iv wr => ∃ i : Nat, i ≤ 2 ∧ iv = .int .i64 (i : Nat) ∧ (1 ≤ i → (checkV p).2 = 0) ∧ (2 ≤ i → (checkV q).2 = 0) ∧ Below (w.heap.size + 1) (w.alloc (.cells #[.slice va p.length vc, .slice ua q.length uc] 22)) wr) (fun iv _ => 2 - (intOf iv).toNat)
  case atStart => exact ⟨0, by omega, rfl, fun h => absurd h (by decide), fun h => absurd h (by decide), Below.refl _ _⟩
  case round =>
    obtain ⟨i, hi, rfl, hp0, hq0, hB⟩ := hrel
    have HB := Lib.hid hB
    have HBW := Lib.hid (next HW.out (hB.mono (by simp)))
    obtain ⟨c0, c1⟩ := HC.out wr hB
    clear hB
    have hcase : i = 0 ∨ i = 1 ∨ i = 2 := by omega
    rcases hcase with rfl | rfl | rfl
    · have K := Lib.hid (check_p _ p wr (Row.below HP.out HBW.out))
      by_cases h0 : (checkV p).2 = 0
      · rw [checkV_ok h0] at K
        clear hp0 hq0 c1
        go_wp2_with fail
        refine K.out.mono ?_
        rintro e w1 ⟨rfl, hb1⟩
        have HB1 := Lib.hid (HB.out.trans (hb1.mono (by have := HB.out.size; simp at this; omega)))
        clear hb1
        go_wp2_with fail
        exact ⟨⟨1, by omega, rfl, fun _ => h0, fun h => absurd h (by decide), HB1.out⟩, by simp [intOf]⟩
      · have HE := Lib.hid (show joinE p q low high = (checkV p).2 by unfold joinE; rw [if_neg h0])
        have HV := Lib.hid (joinV_bad HE.out h0)
        have t1 : ((checkV p).2 != 0) = true := bne_iff_ne.2 h0
        clear hp0 hq0 c1 h0
        generalize (checkV p).2 = E at *
        generalize (checkV p).1 = E' at *
        go_wp2_with fail
        refine K.out.mono ?_
        rintro e w1 ⟨rfl, hb1⟩
        have HB1 := Lib.hid (next HBW.out hb1)
        clear hb1
        go_wp2_with fail
        go_ret2
        exact show PatP _ _ _ _ _ from (by rw [HV.out, HE.out]; exact ⟨_, rfl, World.ownsRow_nil _ _ _ _, HB1.out⟩)
    · have K := Lib.hid (check_p _ q wr (Row.below HQ.out HBW.out))
      have h00 := hp0 (by omega)
      by_cases h0 : (checkV q).2 = 0
      · rw [checkV_ok h0] at K
        clear hp0 hq0 c0
        go_wp2_with fail
        refine K.out.mono ?_
        rintro e w1 ⟨rfl, hb1⟩
        have HB1 := Lib.hid (HB.out.trans (hb1.mono (by have := HB.out.size; simp at this; omega)))
        clear hb1
        go_wp2_with fail
        exact ⟨⟨2, by omega, rfl, fun _ => h00, fun _ => h0, HB1.out⟩, by simp [intOf]⟩
      · have HE := Lib.hid (show joinE p q low high = (checkV q).2 by unfold joinE; rw [if_pos h00, if_neg h0])
        have HV := Lib.hid (joinV_bad HE.out h0)
        have t1 : ((checkV q).2 != 0) = true := bne_iff_ne.2 h0
        clear hp0 hq0 c0 h0 h00
        generalize (checkV q).2 = E at *
        generalize (checkV q).1 = E' at *
        go_wp2_with fail
        refine K.out.mono ?_
        rintro e w1 ⟨rfl, hb1⟩
        have HB1 := Lib.hid (next HBW.out hb1)
        clear hb1
        go_wp2_with fail
        go_ret2
        exact show PatP _ _ _ _ _ from (by rw [HV.out, HE.out]; exact ⟨_, rfl, World.ownsRow_nil _ _ _ _, HB1.out⟩)
    · have h0 := hp0 (by omega)
      have h1 := hq0 (by omega)
      clear hp0 hq0 c0 c1
      by_cases hr : low < 0 ∨ high < low ∨ 16 < high
      · have HE := Lib.hid (show joinE p q low high = 7 by unfold joinE; rw [if_pos h0, if_pos h1, if_pos hr])
        have HV := Lib.hid (joinV_bad HE.out (by decide))
        clear h0 h1
        by_cases r1 : low < 0
        · go_wp2_with fail
          go_ret2
          exact show PatP _ _ _ _ _ from (by rw [HV.out, HE.out]; exact ⟨_, rfl, World.ownsRow_nil _ _ _ _, HBW.out⟩)
        · by_cases r2 : high < low
          · go_wp2_with fail
            go_ret2
            exact show PatP _ _ _ _ _ from (by rw [HV.out, HE.out]; exact ⟨_, rfl, World.ownsRow_nil _ _ _ _, HBW.out⟩)
          · have r3 : 16 < high := by omega
            clear hr
            go_wp2_with fail
            go_ret2
            exact show PatP _ _ _ _ _ from (by rw [HV.out, HE.out]; exact ⟨_, rfl, World.ownsRow_nil _ _ _ _, HBW.out⟩)
      · have r1 : ¬ low < 0 := fun e => hr (.inl e)
        have r2 : ¬ high < low := fun e => hr (.inr (.inl e))
        have r3 : ¬ 16 < high := fun e => hr (.inr (.inr e))
        have HE := Lib.hid (show joinE p q low high = if 512 < (joinL p q low high).length then 3 else 0 by unfold joinE; rw [if_pos h0, if_pos h1, if_neg hr])
        have HL := Lib.hid (okP_of h1).le
        have K := Lib.hid (clone_p _ p wr (Row.below HP.out HBW.out) (okP_of h0).pos (by have := (okP_of h0).le; omega))
        have HL0 := Lib.hid (okP_of h0).le
        clear hr h0 h1
        go_wp2_with fail
        refine K.out.mono ?_
        rintro e w2 ⟨c, rfl, hoa, hba⟩
        obtain ⟨ca, cc, rfl⟩ := Row.form2 (Row.of_owns hoa)
        have HB2 := Lib.hid (next HBW.out hba)
        have HL0' := HL0.out
        have HL' := HL.out
        have hW2 : wr.heap.size ≤ w2.heap.size := hba.size
        clear hba K
        have tok1 : True := trivial
        by_cases hh : 0 < high
        · have hlen : (joinL p q low high).length = p.length + 1 + q.length := by unfold joinL; rw [if_pos hh]; simp; omega
          have alB : Below wr.heap.size w2 (w2.alloc (.cells (gcell low high) 47)) := (Below.refl _ _).alloc hW2 _
          obtain ⟨ab, cb, wb, hrb, hob, hbb⟩ := app_el (hoa.alloc (.cells (gcell low high) 47)) (lit_gap w2 low high) (by simp; omega) (Nat.le_trans hW2 alB.size)
          have hBB := alB.trans hbb
          obtain ⟨ac, cc, wc, hrc, hoc, hbc⟩ := app_el hob (Row.below HQ.out (HB2.out.trans (hBB.mono (by have := HBW.out.size; omega)))) (by simp; omega) (Nat.le_trans hW2 hBB.size)
          have hl1 : (p ++ [gapV low high]).length = p.length + 1 := by simp
          rw [hl1] at hrb hrc
          have HRB := Lib.hid hrb
          have HRC := Lib.hid hrc
          have hBC := hBB.trans hbc
          have HBC := Lib.hid (HB2.out.trans (hBC.mono (by have := HBW.out.size; omega)))
          have HOC := Lib.hid hoc
          have HJ := Lib.hid (show p ++ [gapV low high] ++ q = joinL p q low high by unfold joinL; rw [if_pos hh])
          rw [HJ.out] at HRC HOC
          clear hoc hBC hbc hrc hob hBB hbb hrb alB hoa hW2 HJ HL HL0 HB hl1
          by_cases h5 : 512 < (joinL p q low high).length
          · rw [if_pos h5] at HE
            have HV := Lib.hid (joinV_bad HE.out (by decide))
            have h5' : (512 : Int) < ((joinL p q low high).length : Int) := by omega
            clear hlen h5
            go_wp2_with (first | (have _t := tok1; at_builtin; refine wpList_append_run rfl rfl rfl rfl HRB.out ?_; clear tok1 _t; have tok2 : True := trivial) | (have _t := tok2; at_builtin; refine wpList_append_run rfl rfl rfl rfl HRC.out ?_; clear tok2 _t; have tok3 : True := trivial))
            go_ret2
            exact show PatP _ _ _ _ _ from (by rw [HV.out, HE.out]; exact ⟨_, rfl, World.ownsRow_nil _ _ _ _, HBC.out⟩)
          · rw [if_neg h5] at HE
            have HV := Lib.hid (joinV_ok HE.out)
            have h5' : ¬ (512 : Int) < ((joinL p q low high).length : Int) := by omega
            clear hlen h5
            go_wp2_with (first | (have _t := tok1; at_builtin; refine wpList_append_run rfl rfl rfl rfl HRB.out ?_; clear tok1 _t; have tok2 : True := trivial) | (have _t := tok2; at_builtin; refine wpList_append_run rfl rfl rfl rfl HRC.out ?_; clear tok2 _t; have tok3 : True := trivial))
            go_ret2
            exact show PatP _ _ _ _ _ from (by rw [HV.out, HE.out]; exact ⟨_, rfl, ownsRow_base HOC.out HBW.out.size, HBC.out⟩)
        · have hlen : (joinL p q low high).length = p.length + q.length := by unfold joinL; rw [if_neg hh]; simp
          obtain ⟨ac, cc, wc, hrc, hoc, hbc⟩ := app_el hoa (Row.below HQ.out HB2.out) (by omega) hW2
          have HRC := Lib.hid hrc
          have HBC := Lib.hid (HB2.out.trans (hbc.mono (by have := HBW.out.size; omega)))
          have HOC := Lib.hid hoc
          have HJ := Lib.hid (show p ++ q = joinL p q low high by unfold joinL; rw [if_neg hh]; simp)
          rw [HJ.out] at HRC HOC
          clear hoc hbc hrc hoa hW2 HJ HL HL0 HB
          by_cases h5 : 512 < (joinL p q low high).length
          · rw [if_pos h5] at HE
            have HV := Lib.hid (joinV_bad HE.out (by decide))
            have h5' : (512 : Int) < ((joinL p q low high).length : Int) := by omega
            clear hlen h5
            go_wp2_with (first | (have _t := tok1; at_builtin; refine wpList_append_run rfl rfl rfl rfl HRC.out ?_; clear tok1 _t; have tok2 : True := trivial))
            go_ret2
            exact show PatP _ _ _ _ _ from (by rw [HV.out, HE.out]; exact ⟨_, rfl, World.ownsRow_nil _ _ _ _, HBC.out⟩)
          · rw [if_neg h5] at HE
            have HV := Lib.hid (joinV_ok HE.out)
            have h5' : ¬ (512 : Int) < ((joinL p q low high).length : Int) := by omega
            clear hlen h5
            go_wp2_with (first | (have _t := tok1; at_builtin; refine wpList_append_run rfl rfl rfl rfl HRC.out ?_; clear tok1 _t; have tok2 : True := trivial))
            go_ret2
            exact show PatP _ _ _ _ _ from (by rw [HV.out, HE.out]; exact ⟨_, rfl, ownsRow_base HOC.out HBW.out.size, HBC.out⟩)
end Go.Proofs.Ytllkohjmghoipaa
