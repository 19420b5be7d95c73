/- Check of patterns, the reference. -/
import Derived.Test.YtllkohjmghoipaaPaChk
namespace Go.Proofs.Ytllkohjmghoipaa
open Go.RowKit Go.Sort

set_option maxRecDepth 100000 in
set_option maxHeartbeats 20000000 in
theorem check_r (v : Value) (p : List El) (w : World) (h : Pats w v p) :
    Calls Try.prog 14 #[v] w fun e w' => e = .returned (.tuple #[.int .i64 (checkV p).1, .int .i64 (checkV p).2]) ∧ Below w.heap.size w w' := by
  have HP := Lib.hid h
  have hmax : p.length ≤ maxLen := h.2.1
  unfold maxLen at hmax
  obtain ⟨a, cap, rfl⟩ := Row.form2 h
  clear h
  by_cases h0 : p.length = 0
  · have e : checkV p = (0, 6) := by unfold checkV; rw [if_pos h0]
    rw [e]
    have t0 : ((p.length : Int) == 0) = true := beq_iff_eq.2 (by omega)
    clear h0 e
    go_enter Try.func14, Try.ntmps14
    go_wp2_with fail
    go_ret2
    exact ⟨rfl, Below.refl _ _⟩
  · have t0 : ((p.length : Int) == 0) = false := beq_eq_false_iff_ne.2 (by omega)
    by_cases h1 : 512 < p.length
    · have e : checkV p = (0, 3) := by unfold checkV; rw [if_neg h0, if_pos h1]
      rw [e]
      have t1 : (512 : Int) < (p.length : Int) := by omega
      clear h0 h1 e
      go_enter Try.func14, Try.ntmps14
      go_wp2_with fail
      go_ret2
      exact ⟨rfl, Below.refl _ _⟩
    · have e : checkV p = firstE p 0 p.length := by unfold checkV; rw [if_neg h0, if_neg h1]
      have HC := Lib.hid e
      have t1 : ¬ (512 : Int) < (p.length : Int) := by omega
      have hs : p.length ≤ 512 := by omega
      rw [e]
      clear h0 h1 e
      go_enter Try.func14, Try.ntmps14
      go_wp2_with fail
      go_loopw [4] (fun iv wr => ∃ i : Nat, i ≤ p.length ∧ iv = .int .i64 (i : Nat) ∧ firstE p 0 p.length = firstE p i (p.length - i) ∧ Below w.heap.size w wr) (fun iv _ => p.length - (intOf iv).toNat)
      case atStart => exact ⟨0, by omega, rfl, rfl, Below.refl _ _⟩
      case round =>
        obtain ⟨i, hi, rfl, hf, hB⟩ := hrel
        have HF := Lib.hid hf
        have HB := Lib.hid hB
        clear hf hB
        by_cases hlt : i < p.length
        · obtain ⟨g, o, hga, hg, d0, d1, d2, d3, d4, d5, d6⟩ := Pats.at (Row.below HP.out HB.out) hlt
          subst hga
          have i1 : (0 : Int) ≤ (i : Int) := by omega
          have i2 : (i : Int) < (p.length : Int) := by omega
          have wi1 : IntKind.i64.wrap ((i : Int) + 1) = (i : Int) + 1 := IntWalk.i64_in _ (by omega)
          have HE := Lib.hid (elemE_at hlt)
          have HBA := Lib.hid (HB.out.alloc HB.out.size (.cells #[.bool p[i].gap, .int .u64 (word p[i].cls 0 : Int), .int .u64 (word p[i].cls 1 : Int), .int .u64 (word p[i].cls 2 : Int), .int .u64 (word p[i].cls 3 : Int), .int .i64 p[i].low, .int .i64 p[i].high] 47))
          have HIT := Lib.hid (fun E (he : elemE p i = E) (h0 : E ≠ 0) => (show firstE p 0 p.length = ((i : Int), E) by rw [HF.out, show p.length - i = p.length - i - 1 + 1 by omega, firstE_hit (by rw [he]; exact h0), he]))
          have ON := Lib.hid (fun (he : elemE p i = 0) => (show firstE p 0 p.length = firstE p (i + 1) (p.length - (i + 1)) by rw [HF.out, show p.length - i = p.length - (i + 1) + 1 by omega, firstE_step he]))
          have hne := fun w => run_ne_zero w p[i].cls
          cases hg0 : p[i].gap
          · rw [hg0] at d0 HBA
            have he0 := HE.out
            rw [hg0, if_pos rfl] at he0
            by_cases h2 : p[i].low = 0
            · have tl : (p[i].low != 0) = false := by rw [h2]; rfl
              by_cases h3 : p[i].high = 0
              · have th : (p[i].high != 0) = false := by rw [h3]; rfl
                rw [if_neg (by simp [h2, h3])] at he0
                have ON2 := Lib.hid (ON.out he0)
                clear he0 h2 h3 hne HIT ON HE
                go_wp2_with fail
                exact ⟨⟨i + 1, by omega, by go_num, ON2.out, HBA.out⟩, by simp [intOf]; omega⟩
              · have th : (p[i].high != 0) = true := bne_iff_ne.2 h3
                rw [if_pos (.inr h3)] at he0
                have HH := Lib.hid (HIT.out 6 he0 (by decide))
                clear he0 h2 h3 hne HIT ON HE
                go_wp2_with fail
                go_ret2
                exact ⟨by rw [HH.out]; rfl, HBA.out⟩
            · have tl : (p[i].low != 0) = true := bne_iff_ne.2 h2
              rw [if_pos (.inl h2)] at he0
              have HH := Lib.hid (HIT.out 6 he0 (by decide))
              clear he0 h2 hne HIT ON HE
              go_wp2_with fail
              go_ret2
              exact ⟨by rw [HH.out]; rfl, HBA.out⟩
          · rw [hg0] at d0 HBA
            have he0 := HE.out
            rw [hg0, if_neg (by decide)] at he0
            by_cases h2 : p[i].cls = 0#256
            · rw [if_neg (by simp [h2])] at he0
              have hne2 : ∀ w, _ := hne
              rw [decide_eq_true h2] at hne2
              clear hne
              by_cases h3 : p[i].low < 0
              · rw [if_pos (.inl h3)] at he0
                have HH := Lib.hid (HIT.out 7 he0 (by decide))
                clear he0 h2 HIT ON HE
                go_wp2_with fail
                go_ret2
                exact ⟨by rw [HH.out]; rfl, HBA.out⟩
              · by_cases h4 : p[i].high < p[i].low
                · rw [if_pos (.inr (.inl h4))] at he0
                  have HH := Lib.hid (HIT.out 7 he0 (by decide))
                  clear he0 h2 HIT ON HE
                  go_wp2_with fail
                  go_ret2
                  exact ⟨by rw [HH.out]; rfl, HBA.out⟩
                · by_cases h5 : 16 < p[i].high
                  · rw [if_pos (.inr (.inr h5))] at he0
                    have HH := Lib.hid (HIT.out 7 he0 (by decide))
                    clear he0 h2 HIT ON HE
                    go_wp2_with fail
                    go_ret2
                    exact ⟨by rw [HH.out]; rfl, HBA.out⟩
                  · rw [if_neg (by omega)] at he0
                    have w1 : IntKind.i64.wrap ((p.length : Int) - 1) = (p.length : Int) - 1 := IntWalk.i64_in _ (by omega)
                    by_cases h6 : i = 0
                    · rw [if_pos (.inl h6)] at he0
                      have HH := Lib.hid (HIT.out 6 he0 (by decide))
                      have t6 : ((i : Int) == 0) = true := beq_iff_eq.2 (by omega)
                      clear he0 h2 HIT ON HE h6
                      go_wp2_with fail
                      go_ret2
                      exact ⟨by rw [HH.out]; rfl, HBA.out⟩
                    · have t6 : ((i : Int) == 0) = false := beq_eq_false_iff_ne.2 (by omega)
                      by_cases h7 : i + 1 = p.length
                      · rw [if_pos (.inr (.inl h7))] at he0
                        have HH := Lib.hid (HIT.out 6 he0 (by decide))
                        have t7 : ((i : Int) == (p.length : Int) - 1) = true := beq_iff_eq.2 (by omega)
                        clear he0 h2 HIT ON HE h6 h7
                        go_wp2_with fail
                        go_ret2
                        exact ⟨by rw [HH.out]; rfl, HBA.out⟩
                      · have t7 : ((i : Int) == (p.length : Int) - 1) = false := beq_eq_false_iff_ne.2 (by omega)
                        have hp1 : i - 1 < p.length := by omega
                        obtain ⟨_, c0, _⟩ := Pats.ats (Row.below HP.out HB.out) hp1
                        have wi : IntKind.i64.wrap ((i : Int) - 1) = ((i - 1 : Nat) : Int) := by rw [IntWalk.i64_in _ (by omega)]; omega
                        have j1 : (0 : Int) ≤ ((i - 1 : Nat) : Int) := by omega
                        have j2 : ((i - 1 : Nat) : Int) < (p.length : Int) := by omega
                        have hq : (p[i - 1]?.map El.gap) = some p[i - 1].gap := by rw [List.getElem?_eq_getElem hp1]; rfl
                        rw [hq] at he0
                        cases h8 : p[i - 1].gap
                        · rw [h8] at he0 c0
                          rw [if_neg (by simp [h6, h7])] at he0
                          have ON2 := Lib.hid (ON.out he0)
                          clear he0 h2 HIT ON HE h6 h7 hq h8
                          generalize i - 1 = q at *
                          go_wp2_with fail
                          exact ⟨⟨i + 1, by omega, by go_num, ON2.out, HBA.out⟩, by simp [intOf]; omega⟩
                        · rw [h8] at he0 c0
                          rw [if_pos (.inr (.inr rfl))] at he0
                          have HH := Lib.hid (HIT.out 6 he0 (by decide))
                          clear he0 h2 HIT ON HE h6 h7 hq h8
                          generalize i - 1 = q at *
                          go_wp2_with fail
                          go_ret2
                          exact ⟨by rw [HH.out]; rfl, HBA.out⟩
            · rw [if_pos h2] at he0
              have HH := Lib.hid (HIT.out 6 he0 (by decide))
              have hne2 : ∀ w, _ := hne
              rw [decide_eq_false h2] at hne2
              clear he0 h2 HIT ON HE hne
              go_wp2_with fail
              go_ret2
              exact ⟨by rw [HH.out]; rfl, HBA.out⟩
        · obtain rfl : p.length = i := by omega
          have i1 : ¬ ((p.length : Int) < (p.length : Int)) := by omega
          have HH := Lib.hid (show firstE p 0 p.length = (0, 0) by rw [HF.out, Nat.sub_self]; rfl)
          go_wp2_with fail
          go_ret2
          exact ⟨by rw [HH.out]; rfl, HB.out⟩
end Go.Proofs.Ytllkohjmghoipaa
