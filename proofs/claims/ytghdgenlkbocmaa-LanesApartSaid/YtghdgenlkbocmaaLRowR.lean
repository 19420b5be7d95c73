/- Layer 17, the reference: Row. -/
import Derived.Test.YtghdgenlkbocmaaLRowP
import Derived.Test.YtghdgenlkbocmaaLPackR
import Derived.Test.YtghdgenlkbocmaaLChkR
import Derived.Test.YtghdgenlkbocmaaLSameP
import Derived.Test.YtghdgenlkbocmaaLOfR
namespace Go.Proofs.Ytghdgenlkbocmaa
open Go.RowKit

structure RN (w : World) (W : Int) (v : Value) (R : Nat) (o : Value) (ns : List Int) (wr : World) : Prop where
  plan : PAt wr w.heap.size (.int .i64 W) v
  own : wr.ownsRow R 3 1 o ns.length (icells ns)
  base0 : w.heap.size < R
  base1 : R ≤ wr.heap.size
  bel : Below w.heap.size w wr
theorem RN.keep {w wr w' : World} {W : Int} {v o : Value} {R N : Nat} {ns : List Int} (h : RN w W v R o ns wr) (hb : Below N wr w') (hN : N = wr.heap.size) : RN w W v R o ns w' := by
  subst hN
  exact ⟨h.plan.below hb h.plan.lt, ownsRow_below h.own hb, h.base0, Nat.le_trans h.base1 hb.size, h.bel.trans (hb.mono h.bel.size)⟩
theorem RN.grow {w wr w' : World} {W : Int} {v o o' : Value} {R : Nat} {ns ns' : List Int} (h : RN w W v R o ns wr) (hb : Below R wr w') (ho : w'.ownsRow R 3 1 o' ns'.length (icells ns')) : RN w W v R o' ns' w' :=
  ⟨h.plan.below hb h.base0, ho, h.base0, Nat.le_trans h.base1 hb.size, h.bel.trans (hb.mono (Nat.le_of_lt h.base0))⟩
theorem RN.start {w w1 : World} {W : Int} {v : Value} (h : ChkM w W v w1) : RN w W v w1.heap.size (.slice none 0 0) [] w1 :=
  ⟨h.plan, World.ownsRow_nil _ _ _ _, h.plan.lt, Nat.le_refl _, h.bel⟩

set_option maxRecDepth 100000 in
set_option maxHeartbeats 8000000 in
theorem row_r (W : Int) (v u : Value) (l : List Ln) (R : List (List (List CSet))) (b : Nat) (w : World) (hv : Lanes w v l) (hu : Rules3 w u R) (hn : Narrow R) (hb256 : b < 256) :
    Calls Try.prog 15 #[.agg #[.int .i64 W, v], u, .int .u8 (b : Int)] w (RowP (rowV W l R b) w) := by
  have K1 := Lib.hid (fun w h => check_r W v l w h)
  have K2 := Lib.hid (fun u w h => pack_r u R w h hn)
  have HM := Lib.hid (ChkM.start w W v)
  have HV := Lib.hid hv
  have HU := Lib.hid hu
  have hmu := hu.max
  obtain ⟨V, hV⟩ : ∃ V, V = rowV W l R b := ⟨_, rfl⟩
  rw [← hV]
  unfold rowV at hV
  obtain ⟨a, cap, rfl⟩ := hv.form
  obtain ⟨a2, cap2, rfl⟩ := hu.form
  obtain ⟨c0, c1⟩ := HM.out.plan.cells
  clear hv hu
  by_cases h0 : (checkV W l).2 = 0
  · have hG := good_of h0
    rw [if_neg (fun h => h h0)] at hV
    rw [check_zero h0] at K1
    have HG := Lib.hid hG
    obtain ⟨k, hk, k1, k4, hend⟩ := hG.nat
    have hs := hG.short
    obtain ⟨m1, m2, m3, m4, m5⟩ := hG.last
    rw [hk, Int.toNat_natCast] at hV
    subst hk
    have HPI := Lib.hid (fun h => packV_is (R := R) h)
    generalize hP : packV R = P at *
    obtain ⟨PW, PL, Pi, Pe⟩ := P
    simp only at hV K2
    have HVV := Lib.hid hV
    clear h0 hG hV hP
    go_enter Try.func15, Try.ntmps15
    go_wp2_with fail
    refine (K1.out _ (HV.out.below HM.out.bel)).mono ?_
    rintro e w1 ⟨rfl, hb⟩
    have HM1 := Lib.hid (HM.out.keep hb rfl)
    clear c0 c1 hb
    obtain ⟨c0, c1⟩ := HM1.out.plan.cells
    go_wp2_with fail
    have K3 := K2.out _ _ (HU.out.below HM1.out.bel)
    with_reducible refine K3.mono ?_
    clear K3
    rintro e w2 ⟨v2, rfl, hL2, hb⟩
    have HM2 := Lib.hid (HM1.out.keep hb rfl)
    have HL2 := Lib.hid (hL2.below ((Below.refl _ w2).alloc (Nat.le_refl _) (.cells #[.int .i64 PW, v2] 27)))
    have HMA := Lib.hid (HM2.out.alloc (.cells #[.int .i64 PW, v2] 27))
    obtain ⟨a3, cap3, rfl⟩ := hL2.form
    clear c0 c1 hb hL2
    obtain ⟨c0, c1⟩ := HM2.out.plan.cells
    have hz2 : w.heap.size < w2.heap.size := HM2.out.plan.lt
    by_cases hPe : Pe = 0
    · subst hPe
      by_cases hPW : PW = (k : Int)
      · subst hPW
        go_wp2_with fail
        have K3 := same_r (k : Int) (k : Int) _ _ l PL _ (HV.out.below HMA.out.bel) HL2.out
        with_reducible refine K3.mono ?_
        clear K3
        rintro e w3 ⟨rfl, hb⟩
        have HM3 := Lib.hid (HMA.out.keep hb rfl)
        clear c0 c1 hb hz2
        obtain ⟨c0, c1⟩ := HM3.out.plan.cells
        by_cases hPL : PL = l
        · have hV2 : V = (k, ofI (spotsTo R.flatten.flatten b R.flatten.flatten.length), 0) := by
            rw [HVV.out, if_neg (fun h => h.elim (fun h => h rfl) (fun h => h ⟨trivial, hPL⟩))]
          rw [decide_eq_true (show (k : Int) = (k : Int) ∧ l = PL from ⟨rfl, hPL.symm⟩)]
          obtain ⟨hpw, hR16⟩ := HPI.out trivial
          have hWl : PL = lanesG R 0 0 := congrArg (fun x => x.2.1) hpw
          have HLG := Lib.hid (show l = lanesG R 0 0 by rw [← hPL, hWl])
          have hF : R.flatten.flatten.length ≤ 64 * k := by
            have e := congrArg (fun x => x.1) hpw
            simp only at e
            have := wordsV_bd (n := (R.flatten.flatten.length : Int)) (by omega)
            unfold wordsV at e
            split at e <;> omega
          have HIN := Lib.hid (spotsTo_in (F := R.flatten.flatten) (b := b) (n := R.flatten.flatten.length) (k := k) hF)
          have HRM := Lib.hid (RN.start HM3.out)
          subst hV2
          clear hPL hWl hpw
          have hz3 : w.heap.size < w3.heap.size := HM3.out.plan.lt
          go_wp2_with fail
          obtain ⟨Rb, hRb⟩ : ∃ Rb, Rb = w3.heap.size := ⟨_, rfl⟩
          rw [← hRb] at HRM
          have HRB := Lib.hid hRb
          clear hRb
          obtain ⟨ti, hi', hz0', hz1', hz2'⟩ := info_parts infoI64
          have HQL : Hid (∀ i, (R.take i).flatten.length ≤ 256) := Lib.hid fun i => by
            have h1 : l.length = R.flatten.length := by rw [HLG.out, length_lanesG]
            have h2 : (R.take i).flatten.length ≤ R.flatten.length := by
              conv => rhs; rw [← List.take_append_drop i R]
              rw [List.flatten_append, List.length_append]
              omega
            omega
          have HFL : Hid (∀ i, (R.take i).flatten.flatten.length ≤ 256) := Lib.hid fun i => Nat.le_trans pre_le (by omega)
          go_loopw [12, 13, 14] (fun ov lv iv wr => ∃ (i : Nat) (o : Value), o = ov ∧ i ≤ R.length ∧ iv = .int .i64 (i : Nat) ∧ (∃ j : Nat, lv = .int .i64 (j : Nat) ∧ j = (R.take i).flatten.flatten.length) ∧ RN w (k : Int) (.slice a l.length cap) Rb o (spotsTo R.flatten.flatten b (R.take i).flatten.flatten.length) wr) (fun _ _ iv _ => R.length - (intOf iv).toNat)
          case atStart => exact ⟨0, _, rfl, by omega, rfl, ⟨0, rfl, rfl⟩, HRM.out⟩
          case round =>
            obtain ⟨i, ov, rfl, hi, rfl, ⟨j, rfl, hj⟩, hRM⟩ := hrel
            have HR := Lib.hid hRM
            have HJ := Lib.hid hj
            have i0 : (0 : Int) ≤ (i : Int) := by omega
            clear hj
            by_cases hlt : i < R.length
            · have i1 : (i : Int) < (R.length : Int) := by omega
              obtain ⟨g, o, b1, c2, rfl, hg, hc, hL⟩ := HU.out.at hlt
              have hc' := (hRM.bel.cell (p := ⟨g, o + i, none⟩) hg).trans hc
              have HFA := Lib.hid (fun k m (hk : k < R[i].length) (hm : m < R[i][k].length) => flat_at hlt hk hm)
              have HLA := Lib.hid (fun k (hk : k < R[i].length) => lane_at hlt hk)
              have HST := Lib.hid (pre_step hlt)
              have HFi1 := HFL.out (i + 1)
              have hmL := hL.max
              rw [HST.out.1] at HFi1
              generalize (R.take i).flatten.flatten.length = p at *
              generalize (R.take i).flatten.length = q at *
              generalize hLi : R[i] = L at *
              have HLw := Lib.hid hL
              have HFI := Lib.hid HFi1
              have HC0 := Lib.hid hc
              clear hL hLi hc hRM HFi1
              go_wp2_with fail
              obtain ⟨wo, rfl⟩ : ∃ wo : World, wo = wr := ⟨_, rfl⟩
              have hj0 : j = p := HJ.out
              go_loopw [12, 13, 15] (fun ov lv kv wr => ∃ (k' : Nat) (o : Value), o = ov ∧ k' ≤ L.length ∧ kv = .int .i64 (k' : Nat) ∧ (∃ j : Nat, lv = .int .i64 (j : Nat) ∧ j = p + (L.take k').flatten.length) ∧ RN w (k : Int) (.slice a l.length cap) Rb o (spotsTo R.flatten.flatten b (p + (L.take k').flatten.length)) wr) (fun _ _ kv _ => L.length - (intOf kv).toNat)
              case atStart => exact ⟨0, _, rfl, by omega, rfl, ⟨j, rfl, by simpa using hj0⟩, HR.out⟩
              case round =>
                clear HR HJ hj0
                obtain ⟨kk, ov, rfl, hkk, rfl, ⟨j, rfl, hj⟩, hRM⟩ := hrel
                have HR := Lib.hid hRM
                have HJ := Lib.hid hj
                have k0 : (0 : Int) ≤ (kk : Int) := by omega
                have hc' := (hRM.bel.cell (p := ⟨g, o + i, none⟩) hg).trans HC0.out
                clear hj
                by_cases hlk : kk < L.length
                · have k1' : (kk : Int) < (L.length : Int) := by omega
                  obtain ⟨g2, o2, b2, c2, rfl, hg2, hc2w, hl2⟩ := HLw.out.at hlk
                  have hc2 := (hRM.bel.cell (p := ⟨g2, o2 + kk, none⟩) hg2).trans hc2w
                  have HFB := Lib.hid (fun m (hm : m < L[kk].length) => HFA.out kk m hlk hm)
                  have HLB := Lib.hid (HLA.out kk hlk)
                  have HST2 := Lib.hid (pre_step2 hlk)
                  have HFk : Hid (p + ((L.take kk).flatten.length + L[kk].length) ≤ 256) := Lib.hid (by
                    have h1 := HFI.out
                    have h2 : (L.take (kk + 1)).flatten.length ≤ L.flatten.length := by
                      conv => rhs; rw [← List.take_append_drop (kk + 1) L]
                      rw [List.flatten_append, List.length_append]
                      omega
                    rw [HST2.out] at h2
                    omega)
                  have hml := Row.max hl2
                  generalize (L.take kk).flatten.length = p2 at *
                  generalize hln : L[kk] = ln at *
                  have HLn := Lib.hid hl2
                  have HC2 := Lib.hid hc2w
                  clear hl2 hln hRM hc2w
                  go_wp2_with fail
                  obtain ⟨wm, rfl⟩ : ∃ wm : World, wm = wr := ⟨_, rfl⟩
                  go_loopw [12, 13, 16] (fun ov lv mv wr => ∃ (m : Nat) (o : Value), o = ov ∧ m ≤ ln.length ∧ mv = .int .i64 (m : Nat) ∧ (∃ j : Nat, lv = .int .i64 (j : Nat) ∧ j = p + (p2 + m)) ∧ RN w (k : Int) (.slice a l.length cap) Rb o (spotsTo R.flatten.flatten b (p + (p2 + m))) wr) (fun _ _ mv _ => ln.length - (intOf mv).toNat)
                  case atStart => exact ⟨0, _, rfl, by omega, rfl, ⟨j, rfl, HJ.out⟩, HR.out⟩
                  case round =>
                    clear HR HJ
                    obtain ⟨m, ov, rfl, hm, rfl, ⟨j, rfl, hj⟩, hRM⟩ := hrel
                    have HJ := Lib.hid hj
                    have hc' := (hRM.bel.cell (p := ⟨g, o + i, none⟩) hg).trans HC0.out
                    have hc2 := (hRM.bel.cell (p := ⟨g2, o2 + kk, none⟩) hg2).trans HC2.out
                    have jb : j ≤ 256 := by have := HFk.out; omega
                    clear hj
                    have HR := Lib.hid hRM
                    have m0 : (0 : Int) ≤ (m : Int) := by omega
                    by_cases hlm : m < ln.length
                    · have m1' : (m : Int) < (ln.length : Int) := by omega
                      obtain ⟨g3, o3, rfl, hg3, s0, s1, s2, s3⟩ := HLn.out.at hlm
                      have t0 := (hRM.bel.cell (p := ⟨g3, o3 + m * 4, none⟩) hg3).trans s0
                      have t1 := (hRM.bel.cell (p := ⟨g3, o3 + m * 4 + 1, none⟩) hg3).trans s1
                      have t2 := (hRM.bel.cell (p := ⟨g3, o3 + m * 4 + 2, none⟩) hg3).trans s2
                      have t3 := (hRM.bel.cell (p := ⟨g3, o3 + m * 4 + 3, none⟩) hg3).trans s3
                      have hF := HFB.out m hlm
                      have HY := Lib.hid (fun h => spotsTo_yes (b := b) hF h)
                      have HN := Lib.hid (fun h => spotsTo_no (b := b) hF h)
                      have hlen : (spotsTo R.flatten.flatten b (p + (p2 + m))).length ≤ 100000 := Nat.le_trans (spotsTo_len _ _ _) (by have := HFk.out; omega)
                      generalize spotsTo R.flatten.flatten b (p + (p2 + m)) = ns at *
                      generalize ln[m] = s at *
                      clear hRM s0 s1 s2 s3 hF
                      go_wp2_with fail
                      refine (has_r s b hb256 _).mono ?_
                      rintro e w5 ⟨rfl, hb⟩
                      have HR5 := Lib.hid (HR.out.keep hb rfl)
                      clear hb t0 t1 t2 t3 hc' hc2
                      cases hh : hasB s b
                      · have HH := Lib.hid hh
                        clear hh
                        go_wp2_with fail
                        exact ⟨⟨m + 1, ov, rfl, by omega, by go_num, ⟨j + 1, by go_num, by rw [HJ.out]; omega⟩, by rw [show p + (p2 + (m + 1)) = p + (p2 + m) + 1 by omega, HN.out HH.out]; exact HR5.out⟩, by simp [intOf]; omega⟩
                      · have HH := Lib.hid hh
                        have hbase := HR5.out.base1
                        clear hh
                        go_wp2_with (at_builtin
                                     refine wpList_append_own _ rfl _ _ 66 rfl Rb 3 ti _ 1 8 Try.underlying66 hi' hz0' hz1' hz2' rfl (by decide) _ _ _ rfl (HR5.out.own.alloc _) ⟨w5.heap.size, 0, none⟩ 1 1 [.int .i64 j] rfl rfl (cells_new _ _ _) (by simp [Value.oneCell']) (by unfold maxLen; omega) (by omega) (by simp; omega) ?_
                                     intro v' w6 hown' hgrow _
                                     have bg : Below Rb w5 w6 := ((Below.refl _ w5).alloc (by omega) _).grown hgrow (by simp; omega) fun q e => (HR5.out.own.lt q e).1
                                     have BG := Lib.hid bg
                                     have HO6 := Lib.hid hown'
                                     clear bg hown' hgrow)
                        exact ⟨⟨m + 1, _, rfl, by omega, by go_num, ⟨j + 1, by go_num, by rw [HJ.out]; omega⟩, by rw [show p + (p2 + (m + 1)) = p + (p2 + m) + 1 by omega, HY.out HH.out]; exact HR5.out.grow BG.out (by rw [icells_snoc, List.length_append, ← HJ.out]; exact HO6.out)⟩, by simp [intOf]; omega⟩
                    · have m1' : ¬ (m : Int) < (ln.length : Int) := by omega
                      obtain rfl : m = ln.length := by omega
                      have hj2 := HJ.out
                      clear hRM hlm
                      go_wp2_with fail
                      exact ⟨⟨kk + 1, ov, rfl, by omega, by go_num, ⟨j, rfl, by rw [HST2.out]; exact hj2⟩, by rw [HST2.out]; exact HR.out⟩, by simp [intOf]; omega⟩
                · have k1' : ¬ (kk : Int) < (L.length : Int) := by omega
                  obtain rfl : kk = L.length := by omega
                  have hj2 := HJ.out
                  rw [List.take_length] at HR hj2
                  clear hRM hlk
                  go_wp2_with fail
                  exact ⟨⟨i + 1, ov, rfl, by omega, by go_num, ⟨j, rfl, by rw [HST.out.1]; exact hj2⟩, by rw [HST.out.1]; exact HR.out⟩, by simp [intOf]; omega⟩
            · have i1 : ¬ (i : Int) < (R.length : Int) := by omega
              obtain rfl : i = R.length := by omega
              rw [List.take_length] at HR
              obtain ⟨oa, oc, rfl⟩ := row_forms HR.out.own
              have hI : Ints wr _ (spotsTo R.flatten.flatten b R.flatten.flatten.length) := Row.of_owns HR.out.own
              obtain ⟨c0, c1⟩ := HR.out.plan.cells
              have HI := Lib.hid hI
              generalize (spotsTo R.flatten.flatten b R.flatten.flatten.length).length = N at *
              clear hRM hlt hI
              go_wp2_with fail
              have K3 := of_r2 k _ _ _ HI.out k1 k4 HIN.out
              with_reducible refine K3.mono ?_
              clear K3
              rintro e w9 ⟨v9, rfl, hU9, hb9⟩
              have HU9 := Lib.hid hU9
              have HB9 := Lib.hid (next HR.out.bel hb9)
              clear hU9 hb9 c0 c1
              go_wp2_with fail
              go_ret2
              exact show RowP _ _ _ _ from ⟨_, rfl, HU9.out, HB9.out⟩
        · have hV2 : V = (0, 0#256, 6) := by rw [HVV.out, if_pos (.inr fun h => hPL h.2)]
          rw [decide_eq_false (show ¬ ((k : Int) = (k : Int) ∧ l = PL) from fun h => hPL h.2.symm)]
          subst hV2
          clear hPL
          go_wp2_with fail
          go_ret2
          exact show RowP _ _ _ _ from ⟨_, rfl, URow.nil _ _, HM3.out.bel⟩
      · have hV2 : V = (0, 0#256, 6) := by rw [HVV.out, if_pos (.inr fun h => hPW h.1)]
        subst hV2
        have HPW := Lib.hid hPW
        clear hPW
        go_wp2_with fail
        have K3 := same_r (k : Int) PW _ _ l PL _ (HV.out.below HMA.out.bel) HL2.out
        with_reducible refine K3.mono ?_
        clear K3
        rintro e w3 ⟨rfl, hb⟩
        have HM3 := Lib.hid (HMA.out.keep hb rfl)
        rw [decide_eq_false (show ¬ ((k : Int) = PW ∧ l = PL) from fun h => HPW.out h.1.symm)]
        clear c0 c1 hb hz2
        go_wp2_with fail
        go_ret2
        exact show RowP _ _ _ _ from ⟨_, rfl, URow.nil _ _, HM3.out.bel⟩
    · have hV2 : V = (0, 0#256, 6) := by rw [HVV.out, if_pos (.inl hPe)]
      have e1 : (Pe != 0) = true := bne_iff_ne.2 hPe
      subst hV2
      clear hPe
      go_wp2_with fail
      go_ret2
      exact show RowP _ _ _ _ from ⟨_, rfl, URow.nil _ _, HMA.out.bel⟩
  · rw [if_pos h0] at hV
    have e1 : ((checkV W l).2 != 0) = true := bne_iff_ne.2 h0
    generalize checkV W l = E at *
    subst hV
    clear h0
    go_enter Try.func15, Try.ntmps15
    go_wp2_with fail
    refine (K1.out _ (HV.out.below HM.out.bel)).mono ?_
    rintro e w1 ⟨rfl, hb⟩
    have HM1 := Lib.hid (HM.out.keep hb rfl)
    clear c0 c1 hb
    go_wp2_with fail
    go_ret2
    exact show RowP _ _ _ _ from ⟨_, rfl, URow.nil _ _, HM1.out.bel⟩
end Go.Proofs.Ytghdgenlkbocmaa
