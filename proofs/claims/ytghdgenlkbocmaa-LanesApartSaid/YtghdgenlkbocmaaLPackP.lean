/- Layer 17, the program: Pack. -/
import Derived.Test.YtghdgenlkbocmaaLPk
namespace Go.Proofs.Ytghdgenlkbocmaa
open Go.RowKit

set_option maxRecDepth 100000 in
set_option maxHeartbeats 4000000 in
theorem pack_p (v : Value) (R : List (List (List CSet))) (w : World) (hv : Rules3 w v R) (hn : Narrow R) : Calls Try.prog 11 #[v] w (PackP (packV R) w) := by
  obtain ⟨ti, hi, hz0, hz1, hz2⟩ := info_parts infoLn
  obtain ⟨a, cap, rfl⟩ := hv.form
  obtain ⟨hr20, hslim⟩ := hn
  have HV := Lib.hid hv
  have HN := Lib.hid hslim
  have hP := PAt.new w (.int .i64 0) (.slice none 0 0)
  have HP := Lib.hid hP
  have hB0 : Below w.heap.size w (w.alloc (.cells #[.int .i64 0, .slice none 0 0] 27)) := (Below.refl _ _).alloc (Nat.le_refl _) _
  have HB0 := Lib.hid hB0
  have hsz : (w.alloc (.cells #[.int .i64 0, .slice none 0 0] 27)).heap.size = w.heap.size + 1 := World.size_alloc _ _
  have HSZ := Lib.hid hsz
  clear hv hslim hP hB0 hsz
  obtain ⟨V, hV⟩ : ∃ V, V = packV R := ⟨_, rfl⟩
  rw [← hV]
  unfold packV at hV
  by_cases h0 : R.length = 0
  · rw [if_pos h0] at hV
    have t0 : ((R.length : Int) == 0) = true := beq_iff_eq.2 (by omega)
    subst hV
    clear h0
    go_enter Try.func11, Try.ntmps11
    go_wp2_with fail
    exact bodyPost_ret (v := .tuple #[.agg #[.int .i64 0, .slice none 0 0], .int .i64 0, .int .i64 6]) (by simp [results, Try.results11, go_sem]) rfl ⟨_, rfl, Lanes.nil _, HB0.out⟩
  · rw [if_neg h0] at hV
    have t0 : ((R.length : Int) == 0) = false := beq_eq_false_iff_ne.2 (by omega)
    by_cases h1 : 16 < R.length
    · rw [if_pos h1] at hV
      have t1 : (16 : Int) < (R.length : Int) := by omega
      subst hV
      clear h0 h1
      go_enter Try.func11, Try.ntmps11
      go_wp2_with fail
      exact bodyPost_ret (v := .tuple #[.agg #[.int .i64 0, .slice none 0 0], .int .i64 0, .int .i64 3]) (by simp [results, Try.results11, go_sem]) rfl ⟨_, rfl, Lanes.nil _, HB0.out⟩
    · rw [if_neg h1] at hV
      have t1 : ¬ (16 : Int) < (R.length : Int) := by omega
      have HV0 := Lib.hid hV
      clear h0 h1 hV
      go_enter Try.func11, Try.ntmps11
      go_wp2_with fail
      clear t0 t1
      go_loopw [5, 6, 24] (fun nv ov iv wr => ∃ (i : Nat) (n : Int) (acc : List Ln) (o : Value), o = ov ∧ i ≤ R.length ∧ iv = .int .i64 (i : Nat) ∧ nv = .int .i64 n ∧ 0 ≤ n ∧ n ≤ 256 ∧ (acc.length : Int) ≤ n ∧ wr.ownsRow (w.heap.size + 1) 55 3 o acc.length (lcells acc) ∧ V = packG (R.drop i) (i : Nat) n acc ∧ PAt wr w.heap.size (.int .i64 0) (.slice none 0 0) ∧ Below w.heap.size w wr) (fun _ _ iv _ => R.length - (intOf iv).toNat)
      case atStart => exact ⟨0, 0, [], _, rfl, by omega, rfl, rfl, by omega, by omega, by simp, World.ownsRow_nil _ _ _ _, by rw [List.drop_zero]; exact HV0.out, HP.out, HB0.out⟩
      case round =>
        obtain ⟨i, n, acc, ov, rfl, hi', rfl, rfl, n0, n1, ha, hown, hVV, hPA, hB⟩ := hrel
        have HO := Lib.hid hown
        have HPA := Lib.hid hPA
        have HB := Lib.hid hB
        have hwz : w.heap.size < wr.heap.size := hPA.lt
        have i0 : (0 : Int) ≤ (i : Int) := by omega
        clear hown
        by_cases hlt : i < R.length
        · have i1 : (i : Int) < (R.length : Int) := by omega
          obtain ⟨g, o, b, c, rfl, hg, hc, hL⟩ := HV.out.at hlt
          have hc' := (hB.cell (p := ⟨g, o + i, none⟩) hg).trans hc
          have HL := Lib.hid (hL.below hB)
          have HLw := Lib.hid hL
          obtain ⟨L70, L300⟩ := HN.out i hlt
          rw [packG_at hlt] at hVV
          generalize hLi : R[i] = L at *
          have HLI := Lib.hid hLi
          have HLN := Lib.hid L300
          clear hL hLi hc hB L300
          by_cases hL0 : L.length = 0
          · rw [if_pos (.inl hL0)] at hVV
            have t0 : ((L.length : Int) == 0) = true := beq_iff_eq.2 (by omega)
            subst hVV
            have HL0 := Lib.hid hL0
            clear hL0
            obtain ⟨c0, c1⟩ := hPA.cells
            obtain ⟨f0, f1⟩ := hPA.free
            go_wp2_with fail
            refine (contains_p _ L _ HL.out).mono ?_
            rintro e w1 ⟨rfl, rfl⟩
            go_wp2_with fail
            obtain ⟨q0, q1⟩ := (hPA.put (.int .i64 0) (.slice none 0 0)).cells
            show bodyPost _ _ _ _ _ (put2 wr w.heap.size (.int .i64 0) (.slice none 0 0))
            exact bodyPost_ret (v := .tuple #[.agg #[.int .i64 0, .slice none 0 0], .int .i64 i, .int .i64 6]) (by simp [results, Try.results11, go_sem, q0, q1]) rfl ⟨_, rfl, Lanes.nil _, below_put2 HB.out (Nat.le_refl _) _ _⟩
          · have t0 : ((L.length : Int) == 0) = false := beq_eq_false_iff_ne.2 (by omega)
            by_cases hno : hasNone L = true
            · rw [if_pos (.inr hno)] at hVV
              subst hVV
              have HNO := Lib.hid hno
              clear hL0 hno
              obtain ⟨c0, c1⟩ := hPA.cells
              obtain ⟨f0, f1⟩ := hPA.free
              go_wp2_with fail
              refine (contains_p _ L _ HL.out).mono ?_
              rintro e w1 ⟨rfl, rfl⟩
              rw [HNO.out]
              go_wp2_with fail
              obtain ⟨q0, q1⟩ := (hPA.put (.int .i64 0) (.slice none 0 0)).cells
              show bodyPost _ _ _ _ _ (put2 wr w.heap.size (.int .i64 0) (.slice none 0 0))
              exact bodyPost_ret (v := .tuple #[.agg #[.int .i64 0, .slice none 0 0], .int .i64 i, .int .i64 6]) (by simp [results, Try.results11, go_sem, q0, q1]) rfl ⟨_, rfl, Lanes.nil _, below_put2 HB.out (Nat.le_refl _) _ _⟩
            · have hno' : hasNone L = false := by simpa using hno
              rw [if_neg (fun h => h.elim hL0 hno)] at hVV
              have HNO := Lib.hid hno'
              have HL1 := Lib.hid (fun (k : Nat) (hk : k < L.length) => hasNone_at hno' hk)
              clear hL0 hno hno'
              by_cases h64 : 64 < L.length
              · rw [if_pos h64] at hVV
                have t1 : (64 : Int) < (L.length : Int) := by omega
                subst hVV
                clear h64
                obtain ⟨c0, c1⟩ := hPA.cells
                obtain ⟨f0, f1⟩ := hPA.free
                go_wp2_with fail
                refine (contains_p _ L _ HL.out).mono ?_
                rintro e w1 ⟨rfl, rfl⟩
                rw [HNO.out]
                go_wp2_with fail
                obtain ⟨q0, q1⟩ := (hPA.put (.int .i64 0) (.slice none 0 0)).cells
                show bodyPost _ _ _ _ _ (put2 wr w.heap.size (.int .i64 0) (.slice none 0 0))
                exact bodyPost_ret (v := .tuple #[.agg #[.int .i64 0, .slice none 0 0], .int .i64 i, .int .i64 3]) (by simp [results, Try.results11, go_sem, q0, q1]) rfl ⟨_, rfl, Lanes.nil _, below_put2 HB.out (Nat.le_refl _) _ _⟩
              · rw [if_neg h64] at hVV
                have t1 : ¬ (64 : Int) < (L.length : Int) := by omega
                generalize hPL0 : packLine (i : Nat) L n acc = PL at *
                have HPL0 := Lib.hid hPL0
                have HVV := Lib.hid hVV
                clear h64 hVV hPL0
                go_wp2_with fail
                refine (contains_p _ L _ HL.out).mono ?_
                rintro e w1 ⟨rfl, rfl⟩
                rw [HNO.out]
                go_wp2_with fail
                clear t0 t1 hPA
                obtain ⟨wo, rfl⟩ : ∃ wo : World, wo = wr := ⟨_, rfl⟩
                go_loopw [5, 6, 48] (fun nv ov kv wr => ∃ (k : Nat) (n : Int) (acc : List Ln) (o : Value), o = ov ∧ k ≤ L.length ∧ kv = .int .i64 (k : Nat) ∧ nv = .int .i64 n ∧ 0 ≤ n ∧ n ≤ 256 ∧ (acc.length : Int) ≤ n ∧ wr.ownsRow (w.heap.size + 1) 55 3 o acc.length (lcells acc) ∧ PL = packLine (i : Nat) (L.drop k) n acc ∧ PAt wr w.heap.size (.int .i64 0) (.slice none 0 0) ∧ Below w.heap.size w wr) (fun _ _ kv _ => L.length - (intOf kv).toNat)
                case atStart => exact ⟨0, n, acc, _, rfl, by omega, rfl, rfl, n0, n1, ha, HO.out, by rw [List.drop_zero]; exact HPL0.out.symm, HPA.out, HB.out⟩
                case round =>
                  clear HO HPA HB HPL0 hwz n0 n1 ha
                  obtain ⟨k, n, acc, ov, rfl, hk', rfl, rfl, n0, n1, ha, hown, hPL, hPA, hB⟩ := hrel
                  have HO := Lib.hid hown
                  have HPA := Lib.hid hPA
                  have HB := Lib.hid hB
                  have hwz : w.heap.size < wr.heap.size := hPA.lt
                  have k0 : (0 : Int) ≤ (k : Int) := by omega
                  clear hown
                  by_cases hlk : k < L.length
                  · have k1 : (k : Int) < (L.length : Int) := by omega
                    obtain ⟨g2, o2, b2, c2, rfl, hg2, hc2, hl2⟩ := (HLw.out.below hB).at hlk
                    have hl3 := HLN.out k hlk
                    have hl4 := HL1.out k hlk
                    rw [packLine_at _ hlk] at hPL
                    generalize hlen : L[k].length = m at *
                    have HPL := Lib.hid hPL
                    have HC2 := Lib.hid hc2
                    clear hlen hl2 hPL hB hPA hc2
                    have hc2 := HC2.out
                    by_cases hbig : 256 < n + (m : Int)
                    · have HV2 := Lib.hid (show V = (0, [], (i : Int), 3) by rw [HVV.out, HPL.out, if_pos hbig])
                      go_wp2_with (at_builtin
                                   refine wpList_append_own _ rfl _ _ 25 rfl (w.heap.size + 1) 55 ti _ 3 24 Try.underlying25 hi hz0 hz1 hz2 rfl (by decide) _ _ _ rfl (HO.out.alloc _) ⟨wr.heap.size, 0, none⟩ 1 1 [.int .i64 i, .int .i64 n, .int .i64 m] rfl rfl (by have := cells_new wr [.int .i64 i, .int .i64 n, .int .i64 m] 55; simpa using this) (by simp [Value.oneCell']) (by unfold maxLen; omega) (by omega) (by simp; omega) ?_
                                   intro v' w4 hown' hgrow _
                                   have bg : Below (w.heap.size + 1) wr w4 := ((Below.refl _ wr).alloc (by omega) _).grown hgrow (by simp; omega) fun q e => (HO.out.lt q e).1
                                   have hPA4 := HPA.out.below bg (by omega)
                                   have BG := Lib.hid bg
                                   have HO4 := Lib.hid hown'
                                   obtain ⟨c0, c1⟩ := hPA4.cells
                                   obtain ⟨f0, f1⟩ := hPA4.free
                                   have hz4 : w.heap.size < w4.heap.size := hPA4.lt
                                   clear bg hown' hgrow)
                      rw [HV2.out]
                      obtain ⟨q0, q1⟩ := (hPA4.put (.int .i64 0) (.slice none 0 0)).cells
                      show bodyPost _ _ _ _ _ (put2 w4 w.heap.size (.int .i64 0) (.slice none 0 0))
                      exact bodyPost_ret (v := .tuple #[.agg #[.int .i64 0, .slice none 0 0], .int .i64 i, .int .i64 3]) (by simp [results, Try.results11, go_sem, q0, q1]) rfl ⟨_, rfl, Lanes.nil _, below_put2 (HB.out.trans (BG.out.mono (by omega))) (Nat.le_refl _) _ _⟩
                    · have HPL2 := Lib.hid (show PL = packLine (i : Nat) (L.drop (k + 1)) (n + (m : Int)) (acc ++ [((i : Int), n, (m : Int))]) by rw [HPL.out, if_neg hbig])
                      go_wp2_with (at_builtin
                                   refine wpList_append_own _ rfl _ _ 25 rfl (w.heap.size + 1) 55 ti _ 3 24 Try.underlying25 hi hz0 hz1 hz2 rfl (by decide) _ _ _ rfl (HO.out.alloc _) ⟨wr.heap.size, 0, none⟩ 1 1 [.int .i64 i, .int .i64 n, .int .i64 m] rfl rfl (by have := cells_new wr [.int .i64 i, .int .i64 n, .int .i64 m] 55; simpa using this) (by simp [Value.oneCell']) (by unfold maxLen; omega) (by omega) (by simp; omega) ?_
                                   intro v' w4 hown' hgrow _
                                   have bg : Below (w.heap.size + 1) wr w4 := ((Below.refl _ wr).alloc (by omega) _).grown hgrow (by simp; omega) fun q e => (HO.out.lt q e).1
                                   have hPA4 := HPA.out.below bg (by omega)
                                   have BG := Lib.hid bg
                                   have HO4 := Lib.hid hown'
                                   obtain ⟨c0, c1⟩ := hPA4.cells
                                   obtain ⟨f0, f1⟩ := hPA4.free
                                   have hz4 : w.heap.size < w4.heap.size := hPA4.lt
                                   clear bg hown' hgrow)
                      exact ⟨⟨k + 1, n + m, acc ++ [((i : Int), n, (m : Int))], _, rfl, by omega, by go_num, rfl, by omega, by omega, by simp; omega, by rw [lcells_append, List.length_append]; exact HO4.out, HPL2.out, hPA4, HB.out.trans (BG.out.mono (by omega))⟩, by simp [intOf]; omega⟩
                  · have k1 : ¬ (k : Int) < (L.length : Int) := by omega
                    obtain rfl : k = L.length := by omega
                    rw [List.drop_length] at hPL
                    have hPL2 : PL = some (n, acc) := hPL
                    have HV2 := Lib.hid (show V = packG (R.drop (i + 1)) ((i : Nat) + 1) n acc by rw [HVV.out, hPL2])
                    clear hPL hPL2 hPA hB hlk
                    go_wp2_with fail
                    exact ⟨⟨i + 1, n, acc, _, rfl, by omega, by go_num, rfl, n0, n1, ha, HO.out, by rw [HV2.out]; push_cast; rfl, HPA.out, HB.out⟩, by simp [intOf]; omega⟩
        · have i1 : ¬ (i : Int) < (R.length : Int) := by omega
          obtain rfl : i = R.length := by omega
          rw [List.drop_length] at hVV
          have hVV2 : V = (wordsV n, acc, 0, 0) := hVV
          subst hVV2
          have hw := Lib.hid (words_p n)
          generalize wordsV n = W at *
          obtain ⟨c0, c1⟩ := hPA.cells
          obtain ⟨f0, f1⟩ := hPA.free
          obtain ⟨oa, oc, rfl⟩ := row_forms HO.out
          clear hVV hlt hB
          go_wp2_with fail
          refine (hw.out _ n0 (by omega)).mono ?_
          rintro e w1 ⟨rfl, rfl⟩
          go_wp2_with fail
          obtain ⟨q0, q1⟩ := (hPA.put (.int .i64 W) (.slice oa acc.length oc)).cells
          show bodyPost _ _ _ _ _ (put2 wr w.heap.size (.int .i64 W) (.slice oa acc.length oc))
          exact bodyPost_ret (v := .tuple #[.agg #[.int .i64 W, .slice oa acc.length oc], .int .i64 0, .int .i64 0]) (by simp [results, Try.results11, go_sem, q0, q1]) rfl ⟨_, rfl, Lanes.of_owns (ownsRow_set (ownsRow_set HO.out (by simp) _) (by simp) _), below_put2 HB.out (Nat.le_refl _) _ _⟩
end Go.Proofs.Ytghdgenlkbocmaa
