/- Join of the reference. -/
import Derived.Test.YtllkohjmghoipaaPaRevR
namespace Go.Proofs.Ytllkohjmghoipaa
open Go.RowKit Go.Sort

set_option maxRecDepth 100000 in
set_option maxHeartbeats 20000000 in
theorem join_r (v u : Value) (p q : List El) (low high : Int) (w : World) (h : Pats w v p) (hq : Pats w u q) :
    Calls Try.prog 28 #[v, u, .int .i64 low, .int .i64 high] w (PatP w (joinV p q low high) (joinE p q low high)) := by
  have KP := Lib.hid (check_r v p w h)
  have KQ := Lib.hid (fun w1 (hb : Below w.heap.size w w1) => check_r u q w1 (Row.below hq hb))
  have HP := Lib.hid h
  have HQ := Lib.hid hq
  clear h hq
  by_cases h0 : (checkV p).2 = 0
  · have hl : p.length ≤ 512 := (okP_of h0).le
    rw [checkV_ok h0] at KP
    by_cases h1 : (checkV q).2 = 0
    · have hl1 : q.length ≤ 512 := (okP_of h1).le
      rw [checkV_ok h1] at KQ
      by_cases hr : low < 0 ∨ high < low ∨ 16 < high
      · have HE := Lib.hid (show joinE p q low high = 7 by unfold joinE; rw [if_pos h0, if_pos h1, if_pos hr])
        rw [joinV_bad HE.out (by decide), HE.out]
        clear h0 h1 HE
        by_cases r1 : low < 0
        · go_enter Try.func28, Try.ntmps28
          go_wp2_with fail
          refine KP.out.mono ?_
          rintro e w1 ⟨rfl, hb1⟩
          have K := Lib.hid (KQ.out w1 hb1)
          have HB := Lib.hid hb1
          clear hb1 KP
          go_wp2_with fail
          refine K.out.mono ?_
          rintro e w2 ⟨rfl, hb2⟩
          have HB2 := Lib.hid (next HB.out hb2)
          clear hb2 K KQ
          go_wp2_with fail
          go_ret2
          exact show PatP _ _ _ _ _ from ⟨_, rfl, World.ownsRow_nil _ _ _ _, HB2.out⟩
        · by_cases r2 : high < low
          · go_enter Try.func28, Try.ntmps28
            go_wp2_with fail
            refine KP.out.mono ?_
            rintro e w1 ⟨rfl, hb1⟩
            have K := Lib.hid (KQ.out w1 hb1)
            have HB := Lib.hid hb1
            clear hb1 KP
            go_wp2_with fail
            refine K.out.mono ?_
            rintro e w2 ⟨rfl, hb2⟩
            have HB2 := Lib.hid (next HB.out hb2)
            clear hb2 K KQ
            go_wp2_with fail
            go_ret2
            exact show PatP _ _ _ _ _ from ⟨_, rfl, World.ownsRow_nil _ _ _ _, HB2.out⟩
          · have r3 : 16 < high := by omega
            go_enter Try.func28, Try.ntmps28
            go_wp2_with fail
            refine KP.out.mono ?_
            rintro e w1 ⟨rfl, hb1⟩
            have K := Lib.hid (KQ.out w1 hb1)
            have HB := Lib.hid hb1
            clear hb1 KP
            go_wp2_with fail
            refine K.out.mono ?_
            rintro e w2 ⟨rfl, hb2⟩
            have HB2 := Lib.hid (next HB.out hb2)
            clear hb2 K KQ
            go_wp2_with fail
            go_ret2
            exact show PatP _ _ _ _ _ from ⟨_, rfl, World.ownsRow_nil _ _ _ _, HB2.out⟩
      · have r1 : ¬ low < 0 := fun e => hr (.inl e)
        have r2 : ¬ high < low := fun e => hr (.inr (.inl e))
        have r3 : ¬ 16 < high := fun e => hr (.inr (.inr e))
        have HE := Lib.hid (show joinE p q low high = if 512 < (joinL p q low high).length then 3 else 0 by unfold joinE; rw [if_pos h0, if_pos h1, if_neg hr])
        clear hr h0 h1
        go_enter Try.func28, Try.ntmps28
        go_wp2_with fail
        refine KP.out.mono ?_
        rintro e w1 ⟨rfl, hb1⟩
        have K := Lib.hid (KQ.out w1 hb1)
        have HB := Lib.hid hb1
        clear hb1 KP
        go_wp2_with fail
        refine K.out.mono ?_
        rintro e w2 ⟨rfl, hb2⟩
        have HB2 := Lib.hid (next HB.out hb2)
        clear hb2 K KQ
        have o0 : (w2.alloc (.cells #[] 47)).ownsRow w2.heap.size 47 7 (.slice (some ⟨w2.heap.size, 0, none⟩) 0 0) ([] : List El).length (pcells []) := World.ownsRow_lit w2 #[] 0 (Nat.le_refl _) (by decide) rfl
        have al : Below w2.heap.size w2 (w2.alloc (.cells #[] 47)) := (Below.refl _ _).alloc (Nat.le_refl _) _
        obtain ⟨aa, ca, wa, hra, hoa, hba⟩ := app_el o0 (Row.below (Row.below HP.out HB2.out) al) (by simp; omega) al.size
        rw [List.nil_append] at hra hoa
        have HRA := Lib.hid hra
        have hBA := al.trans hba
        have HBA := Lib.hid hBA
        have hsA := hBA.size
        by_cases hh : 0 < high
        · have hlen : (joinL p q low high).length = p.length + 1 + q.length := by unfold joinL; rw [if_pos hh]; simp; omega
          have alB : Below w2.heap.size wa (wa.alloc (.cells (gcell low high) 47)) := (Below.refl _ _).alloc hsA _
          obtain ⟨ab, cb, wb, hrb, hob, hbb⟩ := app_el (hoa.alloc (.cells (gcell low high) 47)) (lit_gap wa low high) (by simp; omega) (hBA.trans alB).size
          have hBB := (hBA.trans alB).trans hbb
          obtain ⟨ac, cc, wc, hrc, hoc, hbc⟩ := app_el hob (Row.below (Row.below HQ.out HB2.out) hBB) (by simp; omega) hBB.size
          have hl1 : (p ++ [gapV low high]).length = p.length + 1 := by simp
          rw [hl1] at hrb hrc
          have HRB := Lib.hid hrb
          have HRC := Lib.hid hrc
          have hBC := hBB.trans hbc
          have HBC := Lib.hid hBC
          have HOC := Lib.hid hoc
          have HJ := Lib.hid (show p ++ [gapV low high] ++ q = joinL p q low high by unfold joinL; rw [if_pos hh])
          rw [HJ.out] at HRC HOC
          clear hoc hBC hbc hrc hob hBB hbb hrb alB hoa hBA hba hra al o0 hl1
          have tok1 : True := trivial
          by_cases h5 : 512 < (joinL p q low high).length
          · rw [if_pos h5] at HE
            have HV := Lib.hid (joinV_bad HE.out (by decide))
            have h5' : (512 : Int) < ((joinL p q low high).length : Int) := by omega
            clear hlen
            go_wp2_with (first | (have _t := tok1; at_builtin; refine wpList_append_run rfl rfl rfl rfl HRA.out ?_; clear tok1 _t; have tok2 : True := trivial) | (have _t := tok2; at_builtin; refine wpList_append_run rfl rfl rfl rfl HRB.out ?_; clear tok2 _t; have tok3 : True := trivial) | (have _t := tok3; at_builtin; refine wpList_append_run rfl rfl rfl rfl HRC.out ?_; clear tok3 _t; have tok4 : True := trivial))
            go_ret2
            exact show PatP _ _ _ _ _ from (by rw [HV.out, HE.out]; exact ⟨_, rfl, World.ownsRow_nil _ _ _ _, next HB2.out HBC.out⟩)
          · rw [if_neg h5] at HE
            have HV := Lib.hid (joinV_ok HE.out)
            have h5' : ¬ (512 : Int) < ((joinL p q low high).length : Int) := by omega
            clear hlen
            go_wp2_with (first | (have _t := tok1; at_builtin; refine wpList_append_run rfl rfl rfl rfl HRA.out ?_; clear tok1 _t; have tok2 : True := trivial) | (have _t := tok2; at_builtin; refine wpList_append_run rfl rfl rfl rfl HRB.out ?_; clear tok2 _t; have tok3 : True := trivial) | (have _t := tok3; at_builtin; refine wpList_append_run rfl rfl rfl rfl HRC.out ?_; clear tok3 _t; have tok4 : True := trivial))
            go_ret2
            exact show PatP _ _ _ _ _ from (by rw [HV.out, HE.out]; exact ⟨_, rfl, ownsRow_base HOC.out HB2.out.size, next HB2.out HBC.out⟩)
        · obtain ⟨ac, cc, wc, hrc, hoc, hbc⟩ := app_el hoa (Row.below (Row.below HQ.out HB2.out) hBA) (by omega) hBA.size
          have HRC := Lib.hid hrc
          have hBC := hBA.trans hbc
          have HBC := Lib.hid hBC
          have HOC := Lib.hid hoc
          have HJ := Lib.hid (show p ++ q = joinL p q low high by unfold joinL; rw [if_neg hh]; simp)
          rw [HJ.out] at HRC HOC
          clear hoc hBC hbc hrc hoa hBA hba hra al o0
          have tok1 : True := trivial
          by_cases h5 : 512 < (joinL p q low high).length
          · rw [if_pos h5] at HE
            have HV := Lib.hid (joinV_bad HE.out (by decide))
            have h5' : (512 : Int) < ((joinL p q low high).length : Int) := by omega
            go_wp2_with (first | (have _t := tok1; at_builtin; refine wpList_append_run rfl rfl rfl rfl HRA.out ?_; clear tok1 _t; have tok2 : True := trivial) | (have _t := tok2; at_builtin; refine wpList_append_run rfl rfl rfl rfl HRC.out ?_; clear tok2 _t; have tok3 : True := trivial))
            go_ret2
            exact show PatP _ _ _ _ _ from (by rw [HV.out, HE.out]; exact ⟨_, rfl, World.ownsRow_nil _ _ _ _, next HB2.out HBC.out⟩)
          · rw [if_neg h5] at HE
            have HV := Lib.hid (joinV_ok HE.out)
            have h5' : ¬ (512 : Int) < ((joinL p q low high).length : Int) := by omega
            go_wp2_with (first | (have _t := tok1; at_builtin; refine wpList_append_run rfl rfl rfl rfl HRA.out ?_; clear tok1 _t; have tok2 : True := trivial) | (have _t := tok2; at_builtin; refine wpList_append_run rfl rfl rfl rfl HRC.out ?_; clear tok2 _t; have tok3 : True := trivial))
            go_ret2
            exact show PatP _ _ _ _ _ from (by rw [HV.out, HE.out]; exact ⟨_, rfl, ownsRow_base HOC.out HB2.out.size, next HB2.out HBC.out⟩)
    · have HE := Lib.hid (show joinE p q low high = (checkV q).2 by unfold joinE; rw [if_pos h0, if_neg h1])
      rw [joinV_bad HE.out h1, HE.out]
      have t1 : ((checkV q).2 != 0) = true := bne_iff_ne.2 h1
      have t2 : ((checkV q).2 == 0) = false := beq_eq_false_iff_ne.2 h1
      clear HE h0 h1
      generalize (checkV q).2 = E at *
      generalize (checkV q).1 = E' at *
      go_enter Try.func28, Try.ntmps28
      go_wp2_with fail
      refine KP.out.mono ?_
      rintro e w1 ⟨rfl, hb1⟩
      have K := Lib.hid (KQ.out w1 hb1)
      have HB := Lib.hid hb1
      clear hb1 KP
      go_wp2_with fail
      refine K.out.mono ?_
      rintro e w2 ⟨rfl, hb2⟩
      have HB2 := Lib.hid (next HB.out hb2)
      clear hb2 K KQ
      go_wp2_with fail
      go_ret2
      exact show PatP _ _ _ _ _ from ⟨_, rfl, World.ownsRow_nil _ _ _ _, HB2.out⟩
  · have HE := Lib.hid (show joinE p q low high = (checkV p).2 by unfold joinE; rw [if_neg h0])
    rw [joinV_bad HE.out h0, HE.out]
    have t1 : ((checkV p).2 != 0) = true := bne_iff_ne.2 h0
    have t2 : ((checkV p).2 == 0) = false := beq_eq_false_iff_ne.2 h0
    clear HE h0
    generalize (checkV p).2 = E at *
    generalize (checkV p).1 = E' at *
    go_enter Try.func28, Try.ntmps28
    go_wp2_with fail
    refine KP.out.mono ?_
    rintro e w1 ⟨rfl, hb1⟩
    have HB1 := Lib.hid hb1
    clear hb1
    go_wp2_with fail
    go_ret2
    exact show PatP _ _ _ _ _ from ⟨_, rfl, World.ownsRow_nil _ _ _ _, HB1.out⟩
end Go.Proofs.Ytllkohjmghoipaa
