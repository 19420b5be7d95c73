/- Layer 17, the reference: Pack. -/
import Derived.Test.YtghdgenlkbocmaaLPk
namespace Go.Proofs.Ytghdgenlkbocmaa
open Go.RowKit

theorem hasNone_yes {L : List (List CSet)} {k : Nat} (hk : k < L.length) (h : L[k].length = 0) : hasNone L = true := by
  unfold hasNone
  rw [List.any_eq_true]
  exact ⟨L[k], List.getElem_mem hk, by cases h3 : L[k] with | nil => rfl | cons _ _ => rw [h3] at h; simp at h⟩
theorem hasNone_no {L : List (List CSet)} (h : ∀ (k : Nat) (hk : k < L.length), 1 ≤ L[k].length) : hasNone L = false := by
  unfold hasNone
  rw [List.any_eq_false]
  intro l hl
  obtain ⟨j, hj, rfl⟩ := List.mem_iff_getElem.1 hl
  have := h j hj
  cases h3 : L[j] with
  | nil => rw [h3] at this; simp at this
  | cons _ _ => simp

structure PackM (w : World) (ov : Value) (wr : World) : Prop where
  res : PAt wr w.heap.size (.int .i64 0) (.slice none 0 0)
  zer : PAt wr (w.heap.size + 1) (.int .i64 0) (.slice none 0 0)
  plan : PAt wr (w.heap.size + 1 + 1) (.int .i64 0) ov
  bel : Below w.heap.size w wr
theorem PackM.start (w : World) : PackM w (.slice none 0 0) (((w.alloc (.cells #[.int .i64 0, .slice none 0 0] 27)).alloc (.cells #[.int .i64 0, .slice none 0 0] 27)).alloc (.cells #[.int .i64 0, .slice none 0 0] 27)) := by
  have h0 := ((PAt.new w (.int .i64 0) (.slice none 0 0)).alloc (.cells #[.int .i64 0, .slice none 0 0] 27)).alloc (.cells #[.int .i64 0, .slice none 0 0] 27)
  have h1 := (PAt.new (w.alloc (.cells #[.int .i64 0, .slice none 0 0] 27)) (.int .i64 0) (.slice none 0 0)).alloc (.cells #[.int .i64 0, .slice none 0 0] 27)
  have h2 := PAt.new ((w.alloc (.cells #[.int .i64 0, .slice none 0 0] 27)).alloc (.cells #[.int .i64 0, .slice none 0 0] 27)) (.int .i64 0) (.slice none 0 0)
  rw [World.size_alloc] at h1
  rw [World.size_alloc, World.size_alloc] at h2
  exact ⟨h0, h1, h2, (((Below.refl _ _).alloc (Nat.le_refl _) _).alloc (by simp) _).alloc (by simp; omega) _⟩
theorem PackM.cells {w wr : World} {ov : Value} (h : PackM w ov wr) :
    (wr.cell? ⟨w.heap.size + 1, 0, none⟩ = some (.int .i64 0) ∧ wr.cell? ⟨w.heap.size + 1, 1, none⟩ = some (.slice none 0 0)) ∧ (wr.cell? ⟨w.heap.size + 1 + 1, 0, none⟩ = some (.int .i64 0) ∧ wr.cell? ⟨w.heap.size + 1 + 1, 1, none⟩ = some ov) ∧
    (wr.frozen? ⟨w.heap.size, 0, none⟩ = false ∧ wr.frozen? ⟨w.heap.size, 1, none⟩ = false) ∧ (wr.frozen? ⟨w.heap.size + 1 + 1, 0, none⟩ = false ∧ wr.frozen? ⟨w.heap.size + 1 + 1, 1, none⟩ = false) ∧
    (wr.cell? ⟨w.heap.size, 0, none⟩ = some (.int .i64 0) ∧ wr.cell? ⟨w.heap.size, 1, none⟩ = some (.slice none 0 0)) :=
  ⟨h.zer.cells, h.plan.cells, h.res.free, h.plan.free, h.res.cells⟩

theorem PackM.keep {w wr w' : World} {ov : Value} {N : Nat} (h : PackM w ov wr) (hb : Below N wr w') (hN : w.heap.size + 1 + 1 < N) : PackM w ov w' :=
  ⟨h.res.below hb (by omega), h.zer.below hb (by omega), h.plan.below hb (by omega), h.bel.trans (hb.mono (by omega))⟩
theorem PackM.put {w wr : World} {ov : Value} (h : PackM w ov wr) (v : Value) : PackM w v (wr.setCell ⟨w.heap.size + 1 + 1, 1, none⟩ v) :=
  ⟨h.res.other (by simp; omega) _, h.zer.other (by simp) _, h.plan.put1 _, h.bel.setCell (by simp; omega) _⟩

set_option maxRecDepth 100000 in
set_option maxHeartbeats 4000000 in
theorem pack_r (v : Value) (R : List (List (List CSet))) (w : World) (hv : Rules3 w v R) (hn : Narrow R) : Calls Try.prog 12 #[v] w (PackP (packV R) w) := by
  obtain ⟨ti, hi, hz0, hz1, hz2⟩ := info_parts infoLn
  obtain ⟨a, cap, rfl⟩ := hv.form
  obtain ⟨hr20, hslim⟩ := hn
  have HV := Lib.hid hv
  have HN := Lib.hid hslim
  have HM := Lib.hid (PackM.start w)
  clear hv hslim
  obtain ⟨V, hV⟩ : ∃ V, V = packV R := ⟨_, rfl⟩
  rw [← hV]
  unfold packV at hV
  by_cases h0 : R.length = 0
  · rw [if_pos h0] at hV
    have t0 : ((R.length : Int) == 0) = true := beq_iff_eq.2 (by omega)
    subst hV
    clear h0
    go_enter Try.func12, Try.ntmps12
    go_wp2_with fail
    exact bodyPost_ret (v := .tuple #[.agg #[.int .i64 0, .slice none 0 0], .int .i64 0, .int .i64 6]) (by simp [results, Try.results12, go_sem]) rfl ⟨_, rfl, Lanes.nil _, ((Below.refl _ _).alloc (Nat.le_refl _) _).alloc (by simp) _⟩
  · rw [if_neg h0] at hV
    have t0 : ((R.length : Int) == 0) = false := beq_eq_false_iff_ne.2 (by omega)
    by_cases h1 : 16 < R.length
    · rw [if_pos h1] at hV
      have t1 : (16 : Int) < (R.length : Int) := by omega
      subst hV
      clear h0 h1
      go_enter Try.func12, Try.ntmps12
      go_wp2_with fail
      exact bodyPost_ret (v := .tuple #[.agg #[.int .i64 0, .slice none 0 0], .int .i64 0, .int .i64 3]) (by simp [results, Try.results12, go_sem]) rfl ⟨_, rfl, Lanes.nil _, ((Below.refl _ _).alloc (Nat.le_refl _) _).alloc (by simp) _⟩
    · rw [if_neg h1] at hV
      have t1 : ¬ (16 : Int) < (R.length : Int) := by omega
      have HV0 := Lib.hid hV
      clear h0 h1 hV
      go_enter Try.func12, Try.ntmps12
      go_wp2_with fail
      clear t0 t1
      go_loopw [7, 8] (fun nv iv wr => ∃ (i : Nat) (n : Int) (acc : List Ln) (ov : Value), i ≤ R.length ∧ iv = .int .i64 (i : Nat) ∧ nv = .int .i64 n ∧ 0 ≤ n ∧ n ≤ 256 ∧ (acc.length : Int) ≤ n ∧ wr.ownsRow (w.heap.size + 1 + 1 + 1) 55 3 ov acc.length (lcells acc) ∧ V = packG (R.drop i) (i : Nat) n acc ∧ PackM w ov wr) (fun _ iv _ => R.length - (intOf iv).toNat)
      case atStart => exact ⟨0, 0, [], _, by omega, rfl, rfl, by omega, by omega, by simp, World.ownsRow_nil _ _ _ _, by rw [List.drop_zero]; exact HV0.out, HM.out⟩
      case round =>
        obtain ⟨i, n, acc, ov, hi', rfl, rfl, n0, n1, ha, hown, hVV, hPM⟩ := hrel
        have HO := Lib.hid hown
        have HPM := Lib.hid hPM
        have hB := hPM.bel
        have hwz : w.heap.size + 1 + 1 < wr.heap.size := hPM.plan.lt
        have i0 : (0 : Int) ≤ (i : Int) := by omega
        clear hown
        by_cases hlt : i < R.length
        · have j1 : (i : Int) < (R.length : Int) := by omega
          obtain ⟨g, o, b, c, rfl, hg, hc, hL⟩ := HV.out.at hlt
          have hc' := (hB.cell (p := ⟨g, o + i, none⟩) hg).trans hc
          have HLw := Lib.hid hL
          have HL := Lib.hid (hL.below hB)
          obtain ⟨L70, L300⟩ := HN.out i hlt
          rw [packG_at hlt] at hVV
          generalize hLi : R[i] = L at *
          have HLI := Lib.hid hLi
          have HLN := Lib.hid L300
          clear hL hLi hB L300
          by_cases hL0 : L.length = 0
          · rw [if_pos (.inl hL0)] at hVV
            have t0 : ((L.length : Int) == 0) = true := beq_iff_eq.2 (by omega)
            subst hVV
            clear hL0 hc
            obtain ⟨⟨c0, c1⟩, _, ⟨f0, f1⟩, _, _⟩ := hPM.cells
            go_wp2_with fail
            obtain ⟨q0, q1⟩ := (hPM.res.put (.int .i64 0) (.slice none 0 0)).cells
            show bodyPost _ _ _ _ _ (put2 wr w.heap.size (.int .i64 0) (.slice none 0 0))
            exact bodyPost_ret (v := .tuple #[.agg #[.int .i64 0, .slice none 0 0], .int .i64 i, .int .i64 6]) (by simp [results, Try.results12, go_sem, q0, q1]) rfl ⟨_, rfl, Lanes.nil _, below_put2 HPM.out.bel (Nat.le_refl _) _ _⟩
          · have t0 : ((L.length : Int) == 0) = false := beq_eq_false_iff_ne.2 (by omega)
            have HVV := Lib.hid hVV
            have HC0 := Lib.hid hc
            clear hVV hc
            go_wp2_with fail
            clear t0
            go_loop [9] (fun kv => ∃ k : Nat, k ≤ L.length ∧ kv = .int .i64 (k : Nat) ∧ ∀ (j : Nat) (h : j < L.length), j < k → 1 ≤ L[j].length) (fun kv => L.length - (intOf kv).toNat)
            case atStart => exact ⟨0, by omega, rfl, fun j _ h => absurd h (Nat.not_lt_zero _)⟩
            case round =>
              obtain ⟨k, hk, rfl, hall⟩ := hrel
              have HA := Lib.hid hall
              clear hall
              have k0 : (0 : Int) ≤ (k : Int) := by omega
              by_cases hlk : k < L.length
              · have k1 : (k : Int) < (L.length : Int) := by omega
                obtain ⟨g2, o2, b2, c2, rfl, hg2, hc2, hl2⟩ := HL.out.at hlk
                by_cases hl0 : L[k].length = 0
                · have HV2 := Lib.hid (show V = (0, [], (i : Int), 6) by rw [HVV.out, if_pos (.inr (hasNone_yes hlk hl0))])
                  have t0 : ((L[k].length : Int) == 0) = true := beq_iff_eq.2 (by omega)
                  generalize L[k].length = m at *
                  clear hl0 hl2
                  obtain ⟨⟨c0, c1⟩, _, ⟨f0, f1⟩, _, _⟩ := hPM.cells
                  go_wp2_with fail
                  rw [HV2.out]
                  obtain ⟨q0, q1⟩ := (hPM.res.put (.int .i64 0) (.slice none 0 0)).cells
                  show bodyPost _ _ _ _ _ (put2 wr w.heap.size (.int .i64 0) (.slice none 0 0))
                  exact bodyPost_ret (v := .tuple #[.agg #[.int .i64 0, .slice none 0 0], .int .i64 i, .int .i64 6]) (by simp [results, Try.results12, go_sem, q0, q1]) rfl ⟨_, rfl, Lanes.nil _, below_put2 HPM.out.bel (Nat.le_refl _) _ _⟩
                · have t0 : ((L[k].length : Int) == 0) = false := beq_eq_false_iff_ne.2 (by omega)
                  have hl1 : 1 ≤ L[k].length := by omega
                  have HL1 := Lib.hid hl1
                  generalize hm : L[k].length = m at *
                  have HMK := Lib.hid hm
                  clear hl0 hl2 hl1 hm
                  go_wp2_with fail
                  refine ⟨⟨k + 1, by omega, by go_num, fun j hj hjk => ?_⟩, by simp [intOf]; omega⟩
                  by_cases e : j = k
                  · subst e
                    rw [HMK.out]
                    exact HL1.out
                  · exact HA.out j hj (by omega)
              · have k1 : ¬ (k : Int) < (L.length : Int) := by omega
                have hno := hasNone_no (fun j hj => HA.out j hj (by omega))
                have HL1 := Lib.hid (fun (k : Nat) (hk : k < L.length) => hasNone_at hno hk)
                have hV2 := HVV.out
                rw [if_neg (by rw [hno]; simp; exact fun h => hL0 (by rw [h]; rfl))] at hV2
                by_cases h64 : 64 < L.length
                · rw [if_pos h64] at hV2
                  have t1 : (64 : Int) < (L.length : Int) := by omega
                  subst hV2
                  clear h64 hno hL0
                  obtain ⟨⟨c0, c1⟩, _, ⟨f0, f1⟩, _, _⟩ := hPM.cells
                  go_wp2_with fail
                  obtain ⟨q0, q1⟩ := (hPM.res.put (.int .i64 0) (.slice none 0 0)).cells
                  show bodyPost _ _ _ _ _ (put2 wr w.heap.size (.int .i64 0) (.slice none 0 0))
                  exact bodyPost_ret (v := .tuple #[.agg #[.int .i64 0, .slice none 0 0], .int .i64 i, .int .i64 3]) (by simp [results, Try.results12, go_sem, q0, q1]) rfl ⟨_, rfl, Lanes.nil _, below_put2 HPM.out.bel (Nat.le_refl _) _ _⟩
                · rw [if_neg h64] at hV2
                  have t1 : ¬ (64 : Int) < (L.length : Int) := by omega
                  generalize hPL0 : packLine (i : Nat) L n acc = PL at *
                  have HPL0 := Lib.hid hPL0
                  have HV2 := Lib.hid hV2
                  clear h64 hV2 hPL0 hno hL0 hPM
                  go_wp2_with fail
                  clear t1 hc' HA
                  obtain ⟨wo, rfl⟩ : ∃ wo : World, wo = wr := ⟨_, rfl⟩
                  go_loopw [7, 10] (fun nv kv wr => ∃ (k : Nat) (n : Int) (acc : List Ln) (ov : Value), k ≤ L.length ∧ kv = .int .i64 (k : Nat) ∧ nv = .int .i64 n ∧ 0 ≤ n ∧ n ≤ 256 ∧ (acc.length : Int) ≤ n ∧ wr.ownsRow (w.heap.size + 1 + 1 + 1) 55 3 ov acc.length (lcells acc) ∧ PL = packLine (i : Nat) (L.drop k) n acc ∧ PackM w ov wr) (fun _ kv _ => L.length - (intOf kv).toNat)
                  case atStart => exact ⟨0, n, acc, _, by omega, rfl, rfl, n0, n1, ha, HO.out, by rw [List.drop_zero]; exact HPL0.out.symm, HPM.out⟩
                  case round =>
                    clear HO HPM HPL0 hwz n0 n1 ha
                    obtain ⟨k, n, acc, ov, hk', rfl, rfl, n0, n1, ha, hown, hPL, hPM⟩ := hrel
                    have HO := Lib.hid hown
                    have HPM := Lib.hid hPM
                    have hwz : w.heap.size + 1 + 1 < wr.heap.size := hPM.plan.lt
                    have hc' := (hPM.bel.cell (p := ⟨g, o + i, none⟩) hg).trans HC0.out
                    have k0 : (0 : Int) ≤ (k : Int) := by omega
                    clear hown
                    by_cases hlk : k < L.length
                    · have k1 : (k : Int) < (L.length : Int) := by omega
                      obtain ⟨g2, o2, b2, c2, rfl, hg2, hc2, hl2⟩ := (HLw.out.below hPM.bel).at hlk
                      have hl3 := HLN.out k hlk
                      have hl4 := HL1.out k hlk
                      rw [packLine_at _ hlk] at hPL
                      generalize hlen : L[k].length = m at *
                      have HPL := Lib.hid hPL
                      have HC2 := Lib.hid hc2
                      clear hlen hl2 hPL hc2
                      have hc2 := HC2.out
                      obtain ⟨_, ⟨c2', c3'⟩, _, _, _⟩ := hPM.cells
                      by_cases hbig : 256 < n + (m : Int)
                      · have HV3 := Lib.hid (show V = (0, [], (i : Int), 3) by rw [HV2.out, HPL.out, if_pos hbig])
                        go_wp2_with (at_builtin
                                     refine wpList_append_own _ rfl _ _ 25 rfl (w.heap.size + 1 + 1 + 1) 55 ti _ 3 24 Try.underlying25 hi hz0 hz1 hz2 rfl (by decide) _ _ _ rfl (HO.out.alloc _) ⟨wr.heap.size, 0, none⟩ 1 1 [.int .i64 i, .int .i64 n, .int .i64 m] rfl rfl (by have := cells_new wr [.int .i64 i, .int .i64 n, .int .i64 m] 55; simpa using this) (by simp [Value.oneCell']) (by unfold maxLen; omega) (by omega) (by simp; omega) ?_
                                     intro v' w4 hown' hgrow _
                                     have bg : Below (w.heap.size + 1 + 1 + 1) wr w4 := ((Below.refl _ wr).alloc (by omega) _).grown hgrow (by simp; omega) fun q e => (HO.out.lt q e).1
                                     have hPM4 := HPM.out.keep bg (by omega)
                                     have HO4 := Lib.hid hown'
                                     obtain ⟨oa, oc, rfl⟩ := row_forms hown'
                                     obtain ⟨⟨c0, c1⟩, ⟨c2', c3'⟩, ⟨f0, f1⟩, ⟨f2, f3⟩, _⟩ := hPM4.cells
                                     have hz4 : w.heap.size + 1 + 1 < w4.heap.size := hPM4.plan.lt
                                     clear bg hown' hgrow)
                        rw [HV3.out]
                        have hPM5 := hPM4.put (.slice oa (acc.length + 1) oc)
                        obtain ⟨q0, q1⟩ := (hPM5.res.put (.int .i64 0) (.slice none 0 0)).cells
                        show bodyPost _ _ _ _ _ (put2 (w4.setCell ⟨w.heap.size + 1 + 1, 1, none⟩ (.slice oa (acc.length + 1) oc)) w.heap.size (.int .i64 0) (.slice none 0 0))
                        exact bodyPost_ret (v := .tuple #[.agg #[.int .i64 0, .slice none 0 0], .int .i64 i, .int .i64 3]) (by simp [results, Try.results12, go_sem, q0, q1]) rfl ⟨_, rfl, Lanes.nil _, below_put2 hPM5.bel (Nat.le_refl _) _ _⟩
                      · have HPL2 := Lib.hid (show PL = packLine (i : Nat) (L.drop (k + 1)) (n + (m : Int)) (acc ++ [((i : Int), n, (m : Int))]) by rw [HPL.out, if_neg hbig])
                        go_wp2_with (at_builtin
                                     refine wpList_append_own _ rfl _ _ 25 rfl (w.heap.size + 1 + 1 + 1) 55 ti _ 3 24 Try.underlying25 hi hz0 hz1 hz2 rfl (by decide) _ _ _ rfl (HO.out.alloc _) ⟨wr.heap.size, 0, none⟩ 1 1 [.int .i64 i, .int .i64 n, .int .i64 m] rfl rfl (by have := cells_new wr [.int .i64 i, .int .i64 n, .int .i64 m] 55; simpa using this) (by simp [Value.oneCell']) (by unfold maxLen; omega) (by omega) (by simp; omega) ?_
                                     intro v' w4 hown' hgrow _
                                     have bg : Below (w.heap.size + 1 + 1 + 1) wr w4 := ((Below.refl _ wr).alloc (by omega) _).grown hgrow (by simp; omega) fun q e => (HO.out.lt q e).1
                                     have hPM4 := HPM.out.keep bg (by omega)
                                     have HO4 := Lib.hid hown'
                                     obtain ⟨oa, oc, rfl⟩ := row_forms hown'
                                     obtain ⟨⟨c0, c1⟩, ⟨c2', c3'⟩, ⟨f0, f1⟩, ⟨f2, f3⟩, _⟩ := hPM4.cells
                                     have hz4 : w.heap.size + 1 + 1 < w4.heap.size := hPM4.plan.lt
                                     clear bg hown' hgrow)
                        exact ⟨⟨k + 1, n + m, acc ++ [((i : Int), n, (m : Int))], _, by omega, by go_num, rfl, by omega, by omega, by simp; omega, by rw [lcells_append, List.length_append]; exact ownsRow_set HO4.out (by simp) _, HPL2.out, hPM4.put _⟩, by simp [intOf]; omega⟩
                    · have k1 : ¬ (k : Int) < (L.length : Int) := by omega
                      obtain rfl : k = L.length := by omega
                      rw [List.drop_length] at hPL
                      have hPL2 : PL = some (n, acc) := hPL
                      have HV3 := Lib.hid (show V = packG (R.drop (i + 1)) ((i : Nat) + 1) n acc by rw [HV2.out, hPL2])
                      clear hPL hPL2 hPM hlk
                      go_wp2_with fail
                      exact ⟨⟨i + 1, n, acc, _, by omega, by go_num, rfl, n0, n1, ha, HO.out, by rw [HV3.out]; push_cast; rfl, HPM.out⟩, by simp [intOf]; omega⟩
        · have j1 : ¬ (i : Int) < (R.length : Int) := by omega
          obtain rfl : i = R.length := by omega
          rw [List.drop_length] at hVV
          have hVV2 : V = (wordsV n, acc, 0, 0) := hVV
          subst hVV2
          have hw := Lib.hid (words_r n)
          generalize wordsV n = W at *
          obtain ⟨oa, oc, rfl⟩ := row_forms HO.out
          obtain ⟨_, ⟨c2', c3'⟩, ⟨f0, f1⟩, ⟨f2, f3⟩, _⟩ := hPM.cells
          clear hVV hlt hB
          go_wp2_with fail
          refine (hw.out _ n0 (by omega)).mono ?_
          rintro e w1 ⟨rfl, rfl⟩
          go_wp2_with fail
          obtain ⟨q0, q1⟩ := ((hPM.res.other (p := ⟨w.heap.size + 1 + 1, 0, none⟩) (by simp; omega) (.int .i64 W)).put (.int .i64 W) (.slice oa acc.length oc)).cells
          show bodyPost _ _ _ _ _ (put2 (wr.setCell ⟨w.heap.size + 1 + 1, 0, none⟩ (.int .i64 W)) w.heap.size (.int .i64 W) (.slice oa acc.length oc))
          exact bodyPost_ret (v := .tuple #[.agg #[.int .i64 W, .slice oa acc.length oc], .int .i64 0, .int .i64 0]) (by simp [results, Try.results12, go_sem, q0, q1]) rfl ⟨_, rfl, Lanes.of_owns (ownsRow_set (ownsRow_set (ownsRow_set HO.out (by simp) _) (by simp; omega) _) (by simp; omega) _), below_put2 (HPM.out.bel.setCell (by simp; omega) _) (Nat.le_refl _) _ _⟩
end Go.Proofs.Ytghdgenlkbocmaa
