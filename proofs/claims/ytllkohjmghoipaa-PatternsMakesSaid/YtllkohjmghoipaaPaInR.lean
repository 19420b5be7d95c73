/- Within of the reference. -/
import Derived.Test.YtllkohjmghoipaaPaIn
namespace Go.Proofs.Ytllkohjmghoipaa
open Go.RowKit Go.Sort

theorem bcell {W w1 : World} (hb : Below W.heap.size W w1) : ∀ b o, b < W.heap.size → w1.cell? ⟨b, o, none⟩ = W.cell? ⟨b, o, none⟩ := fun b o h => hb.cell (p := ⟨b, o, none⟩) h

set_option maxRecDepth 100000 in
set_option maxHeartbeats 20000000 in
theorem within_r (v u : Value) (p q : List El) (w : World) (h : Pats w v p) (hq : Pats w u q) :
    Calls Try.prog 29 #[v, u] w fun e w' => e = .returned (.tuple #[.bool (withinV p q), .int .i64 (pairE p q)]) ∧ Below w.heap.size w w' := by
  have KP := Lib.hid (check_r v p w h)
  have KQ := Lib.hid (fun w1 (hb : Below w.heap.size w w1) => check_r u q w1 (Row.below hq hb))
  have HA := Lib.hid h
  have HB := Lib.hid hq
  obtain ⟨a, capa, rfl⟩ := Row.form2 h
  obtain ⟨b, capb, rfl⟩ := Row.form2 hq
  clear h hq
  by_cases h0 : (checkV p).2 = 0
  · have hl : p.length ≤ 512 := (okP_of h0).le
    rw [checkV_ok h0] at KP
    by_cases h1 : (checkV q).2 = 0
    · have hl1 : q.length ≤ 512 := (okP_of h1).le
      rw [checkV_ok h1] at KQ
      have HE := Lib.hid (show pairE p q = 0 by unfold pairE; rw [if_pos h0, h1])
      have HV := Lib.hid (show withinV p q = inL p q by unfold withinV; rw [if_pos HE.out])
      rw [HE.out, HV.out]
      clear h0 h1 HE HV
      by_cases hlen : p.length = q.length
      · have tl : ((p.length : Int) != (q.length : Int)) = false := by rw [hlen]; simp
        have hl2 : p.length ≤ q.length := by omega
        have hl3 : q.length ≤ p.length := by omega
        clear hlen
        go_enter Try.func29, Try.ntmps29
        go_wp2_with fail
        refine KP.out.mono ?_
        rintro e w1 ⟨rfl, hb1⟩
        have K := Lib.hid (KQ.out w1 hb1)
        have HB1 := Lib.hid hb1
        clear hb1 KP
        go_wp2_with fail
        refine K.out.mono ?_
        rintro e w2 ⟨rfl, hb2⟩
        have HB2 := Lib.hid (next HB1.out hb2)
        clear hb2 K KQ
        go_wp2_with fail
        go_loopw [8] (fun iv wr => ∃ k : Nat, k ≤ p.length ∧ iv = .int .i64 (k : Nat) ∧ inL p q = inL (p.drop k) (q.drop k) ∧ Below w.heap.size w wr) (fun iv _ => p.length - (intOf iv).toNat)
        case atStart => exact ⟨0, by omega, rfl, rfl, HB2.out⟩
        case round =>
          obtain ⟨k, hk, rfl, heq, hBl⟩ := hrel
          have HE := Lib.hid heq
          have HW := Lib.hid hBl
          clear heq hBl
          by_cases hlt : k < p.length
          · have hlt' : k < q.length := by omega
            obtain ⟨g, o, hga, hg, c0, c1, c2, c3, c4, c5, c6⟩ := Pats.at (Row.below HA.out HW.out) hlt
            obtain ⟨g2, o2, hgb, hg2, d0, d1, d2, d3, d4, d5, d6⟩ := Pats.at (Row.below HB.out HW.out) hlt'
            subst hga
            subst hgb
            have i1 : (0 : Int) ≤ (k : Int) := by omega
            have i2 : (k : Int) < (p.length : Int) := by omega
            have i3 : (k : Int) < (q.length : Int) := by omega
            have wi1 : IntKind.i64.wrap ((k : Int) + 1) = (k : Int) + 1 := IntWalk.i64_in _ (by omega)
            have HS := Lib.hid (inL_drop hlt hlt')
            have hws := HW.out.size
            generalize p[k] = x at *
            generalize q[k] = y at *
            have M := Lib.hid (fun w => sub_r x.cls y.cls w)
            unfold setV setC at M
            have HI := Lib.hid (show inE x y = ((x.gap == y.gap) && subB x.cls y.cls && decide (y.low ≤ x.low) && decide (x.high ≤ y.high)) from rfl)
            cases hx : x.gap
            · cases hy : y.gap
              · rw [hx] at c0
                rw [hy] at d0
                have HI2 := Lib.hid (show inE x y = (subB x.cls y.cls && decide (y.low ≤ x.low) && decide (x.high ≤ y.high)) by rw [HI.out, hx, hy]; simp)
                clear HI hx hy
                cases hs : subB x.cls y.cls
                · have hs' : decide (x.cls &&& ~~~y.cls = 0#256) = false := hs
                  rw [hs'] at M
                  have HN := Lib.hid (show inL p q = false by rw [HE.out, HS.out, HI2.out, hs]; simp)
                  clear HE HS HI2 hs hs'
                  go_wp2_with fail
                  go_region
                  all_goals
                    go_wp2_with fail
                    refine (M.out _).mono ?_
                    rintro e w3 ⟨rfl, hb3⟩
                    have HB3 := Lib.hid (next ((HW.out.alloc hws _).alloc (by simp; omega) _).drew hb3)
                    have hcc := bcell hb3
                    clear hb3
                    go_wp2_with fail
                    go_ret2
                    exact ⟨by rw [HN.out]; rfl, HB3.out⟩
                · have hs' : decide (x.cls &&& ~~~y.cls = 0#256) = true := hs
                  rw [hs'] at M
                  by_cases hlo : x.low < y.low
                  · have HN := Lib.hid (show inL p q = false by rw [HE.out, HS.out, HI2.out, decide_eq_false (show ¬ y.low ≤ x.low by omega)]; simp)
                    clear HE HS HI2 hs hs'
                    go_wp2_with fail
                    go_region
                    all_goals
                      go_wp2_with fail
                      refine (M.out _).mono ?_
                      rintro e w3 ⟨rfl, hb3⟩
                      have HB3 := Lib.hid (next ((HW.out.alloc hws _).alloc (by simp; omega) _).drew hb3)
                      have hcc := bcell hb3
                      clear hb3
                      go_wp2_with fail
                      go_ret2
                      exact ⟨by rw [HN.out]; rfl, HB3.out⟩
                  · by_cases hhi : y.high < x.high
                    · have HN := Lib.hid (show inL p q = false by rw [HE.out, HS.out, HI2.out, decide_eq_false (show ¬ x.high ≤ y.high by omega)]; simp)
                      clear HE HS HI2 hs hs'
                      go_wp2_with fail
                      go_region
                      all_goals
                        go_wp2_with fail
                        refine (M.out _).mono ?_
                        rintro e w3 ⟨rfl, hb3⟩
                        have HB3 := Lib.hid (next ((HW.out.alloc hws _).alloc (by simp; omega) _).drew hb3)
                        have hcc := bcell hb3
                        clear hb3
                        go_wp2_with fail
                        go_ret2
                        exact ⟨by rw [HN.out]; rfl, HB3.out⟩
                    · have HN := Lib.hid (show inL p q = inL (p.drop (k + 1)) (q.drop (k + 1)) by rw [HE.out, HS.out, HI2.out, hs, decide_eq_true (show x.high ≤ y.high by omega), decide_eq_true (show y.low ≤ x.low by omega)]; simp)
                      clear HE HS HI2 hs hs'
                      go_wp2_with fail
                      go_region
                      all_goals
                        go_wp2_with fail
                        refine (M.out _).mono ?_
                        rintro e w3 ⟨rfl, hb3⟩
                        have HB3 := Lib.hid (next ((HW.out.alloc hws _).alloc (by simp; omega) _).drew hb3)
                        have hcc := bcell hb3
                        clear hb3
                        go_wp2_with fail
                        exact ⟨⟨k + 1, by omega, by go_num, HN.out, HB3.out⟩, by simp [intOf]; omega⟩
              · have HN := Lib.hid (show inL p q = false by rw [HE.out, HS.out, HI.out, hx, hy]; rfl)
                rw [hx] at c0
                rw [hy] at d0
                clear HE HS HI hx hy M
                go_wp2_with fail
                go_region
                all_goals
                  go_wp2_with fail
                  go_ret2
                  exact ⟨by rw [HN.out]; rfl, ((HW.out.alloc hws _).alloc (by simp; omega) _).drew⟩
            · cases hy : y.gap
              · have HN := Lib.hid (show inL p q = false by rw [HE.out, HS.out, HI.out, hx, hy]; rfl)
                rw [hx] at c0
                rw [hy] at d0
                clear HE HS HI hx hy M
                go_wp2_with fail
                go_region
                all_goals
                  go_wp2_with fail
                  go_ret2
                  exact ⟨by rw [HN.out]; rfl, ((HW.out.alloc hws _).alloc (by simp; omega) _).drew⟩
              · rw [hx] at c0
                rw [hy] at d0
                have HI2 := Lib.hid (show inE x y = (subB x.cls y.cls && decide (y.low ≤ x.low) && decide (x.high ≤ y.high)) by rw [HI.out, hx, hy]; simp)
                clear HI hx hy
                cases hs : subB x.cls y.cls
                · have hs' : decide (x.cls &&& ~~~y.cls = 0#256) = false := hs
                  rw [hs'] at M
                  have HN := Lib.hid (show inL p q = false by rw [HE.out, HS.out, HI2.out, hs]; simp)
                  clear HE HS HI2 hs hs'
                  go_wp2_with fail
                  go_region
                  all_goals
                    go_wp2_with fail
                    refine (M.out _).mono ?_
                    rintro e w3 ⟨rfl, hb3⟩
                    have HB3 := Lib.hid (next ((HW.out.alloc hws _).alloc (by simp; omega) _).drew hb3)
                    have hcc := bcell hb3
                    clear hb3
                    go_wp2_with fail
                    go_ret2
                    exact ⟨by rw [HN.out]; rfl, HB3.out⟩
                · have hs' : decide (x.cls &&& ~~~y.cls = 0#256) = true := hs
                  rw [hs'] at M
                  by_cases hlo : x.low < y.low
                  · have HN := Lib.hid (show inL p q = false by rw [HE.out, HS.out, HI2.out, decide_eq_false (show ¬ y.low ≤ x.low by omega)]; simp)
                    clear HE HS HI2 hs hs'
                    go_wp2_with fail
                    go_region
                    all_goals
                      go_wp2_with fail
                      refine (M.out _).mono ?_
                      rintro e w3 ⟨rfl, hb3⟩
                      have HB3 := Lib.hid (next ((HW.out.alloc hws _).alloc (by simp; omega) _).drew hb3)
                      have hcc := bcell hb3
                      clear hb3
                      go_wp2_with fail
                      go_ret2
                      exact ⟨by rw [HN.out]; rfl, HB3.out⟩
                  · by_cases hhi : y.high < x.high
                    · have HN := Lib.hid (show inL p q = false by rw [HE.out, HS.out, HI2.out, decide_eq_false (show ¬ x.high ≤ y.high by omega)]; simp)
                      clear HE HS HI2 hs hs'
                      go_wp2_with fail
                      go_region
                      all_goals
                        go_wp2_with fail
                        refine (M.out _).mono ?_
                        rintro e w3 ⟨rfl, hb3⟩
                        have HB3 := Lib.hid (next ((HW.out.alloc hws _).alloc (by simp; omega) _).drew hb3)
                        have hcc := bcell hb3
                        clear hb3
                        go_wp2_with fail
                        go_ret2
                        exact ⟨by rw [HN.out]; rfl, HB3.out⟩
                    · have HN := Lib.hid (show inL p q = inL (p.drop (k + 1)) (q.drop (k + 1)) by rw [HE.out, HS.out, HI2.out, hs, decide_eq_true (show x.high ≤ y.high by omega), decide_eq_true (show y.low ≤ x.low by omega)]; simp)
                      clear HE HS HI2 hs hs'
                      go_wp2_with fail
                      go_region
                      all_goals
                        go_wp2_with fail
                        refine (M.out _).mono ?_
                        rintro e w3 ⟨rfl, hb3⟩
                        have HB3 := Lib.hid (next ((HW.out.alloc hws _).alloc (by simp; omega) _).drew hb3)
                        have hcc := bcell hb3
                        clear hb3
                        go_wp2_with fail
                        exact ⟨⟨k + 1, by omega, by go_num, HN.out, HB3.out⟩, by simp [intOf]; omega⟩
          · obtain rfl : p.length = k := by omega
            have i1 : ¬ ((p.length : Int) < (p.length : Int)) := by omega
            have HN := Lib.hid (show inL p q = true by rw [HE.out, List.drop_of_length_le (Nat.le_refl _), List.drop_of_length_le (by omega)]; rfl)
            go_wp2_with fail
            go_ret2
            exact ⟨by rw [HN.out]; rfl, HW.out⟩
      · have tl : ((p.length : Int) != (q.length : Int)) = true := bne_iff_ne.2 (by omega)
        have HN := Lib.hid (inL_len p q hlen)
        clear hlen
        go_enter Try.func29, Try.ntmps29
        go_wp2_with fail
        refine KP.out.mono ?_
        rintro e w1 ⟨rfl, hb1⟩
        have K := Lib.hid (KQ.out w1 hb1)
        have HB1 := Lib.hid hb1
        clear hb1 KP
        go_wp2_with fail
        refine K.out.mono ?_
        rintro e w2 ⟨rfl, hb2⟩
        have HB2 := Lib.hid (next HB1.out hb2)
        clear hb2 K KQ
        go_wp2_with fail
        go_ret2
        exact ⟨by rw [HN.out]; rfl, HB2.out⟩
    · have HE := Lib.hid (show pairE p q = (checkV q).2 by unfold pairE; rw [if_pos h0])
      have HV := Lib.hid (show withinV p q = false by unfold withinV; rw [if_neg (by rw [HE.out]; exact h1)])
      rw [HE.out, HV.out]
      have t1 : ((checkV q).2 != 0) = true := bne_iff_ne.2 h1
      have t2 : ((checkV q).2 == 0) = false := beq_eq_false_iff_ne.2 h1
      clear HE HV h0 h1
      generalize (checkV q).2 = E at *
      generalize (checkV q).1 = E' at *
      go_enter Try.func29, Try.ntmps29
      go_wp2_with fail
      refine KP.out.mono ?_
      rintro e w1 ⟨rfl, hb1⟩
      have K := Lib.hid (KQ.out w1 hb1)
      have HB := Lib.hid hb1
      clear hb1 KP
      go_wp2_with fail
      refine K.out.mono ?_
      rintro e w2 ⟨rfl, hb2⟩
      have HB2 := Lib.hid (next HB.out hb2)
      clear hb2 K KQ
      go_wp2_with fail
      go_ret2
      exact ⟨rfl, HB2.out⟩
  · have HE := Lib.hid (show pairE p q = (checkV p).2 by unfold pairE; rw [if_neg h0])
    have HV := Lib.hid (show withinV p q = false by unfold withinV; rw [if_neg (by rw [HE.out]; exact h0)])
    rw [HE.out, HV.out]
    have t1 : ((checkV p).2 != 0) = true := bne_iff_ne.2 h0
    have t2 : ((checkV p).2 == 0) = false := beq_eq_false_iff_ne.2 h0
    clear HE HV h0
    generalize (checkV p).2 = E at *
    generalize (checkV p).1 = E' at *
    go_enter Try.func29, Try.ntmps29
    go_wp2_with fail
    refine KP.out.mono ?_
    rintro e w1 ⟨rfl, hb1⟩
    have HB1 := Lib.hid hb1
    clear hb1
    go_wp2_with fail
    go_ret2
    exact ⟨rfl, HB1.out⟩
end Go.Proofs.Ytllkohjmghoipaa
