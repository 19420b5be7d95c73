/- Layer 17, the program: Row. -/
import Derived.Test.YtghdgenlkbocmaaLRowL
import Derived.Test.YtghdgenlkbocmaaLPackP
import Derived.Test.YtghdgenlkbocmaaLSame
import Derived.Test.YtghdgenlkbocmaaHasP
import Derived.Test.YtghdgenlkbocmaaSetAt
import Derived.Test.YtghdgenlkbocmaaLSet
namespace Go.Proofs.Ytghdgenlkbocmaa
open Go.RowKit

structure RM (w : World) (W : Int) (v : Value) (R : Nat) (ns : List Int) (wr : World) : Prop where
  plan : PAt wr w.heap.size (.int .i64 W) v
  ones : Ones R (R + 1) ns wr
  base : w.heap.size < R
  bel : Below w.heap.size w wr
theorem RM.keep {w wr w' : World} {W : Int} {v : Value} {R N : Nat} {ns : List Int} (h : RM w W v R ns wr) (hb : Below N wr w') (hN : N = wr.heap.size) : RM w W v R ns w' := by
  subst hN
  exact ⟨h.plan.below hb h.plan.lt, h.ones.keep hb rfl, h.base, h.bel.trans (hb.mono h.bel.size)⟩
theorem RM.alloc {w wr : World} {W : Int} {v : Value} {R : Nat} {ns : List Int} (h : RM w W v R ns wr) (o : Obj) : RM w W v R ns (wr.alloc o) := h.keep ((Below.refl _ _).alloc (Nat.le_refl _) _) rfl
theorem RM.but {w wr w' : World} {W : Int} {v : Value} {R : Nat} {ns ns' : List Int} (h : RM w W v R ns wr) (hb : ButR R (R + 1) wr w') (ho : Ones R (R + 1) ns' w') : RM w W v R ns' w' :=
  ⟨(hb.bel.block _ h.base).trans h.plan, ho, h.base, h.bel.trans (hb.bel.mono (Nat.le_of_lt h.base))⟩
theorem RM.start {w w1 : World} {W : Int} {v : Value} (h : ChkM w W v w1) : RM w W v w1.heap.size [] (w1.alloc (.cells #[.slice none 0 0] 68)) :=
  ⟨(h.alloc _).plan, ⟨⟨by omega, by simp⟩, _, heap_alloc_new _ _, World.ownsRow_nil _ _ _ _⟩, h.plan.lt, (h.alloc _).bel⟩
theorem RM.row {w wr : World} {W : Int} {v : Value} {R : Nat} {ns : List Int} (h : RM w W v R ns wr) : ∃ a cap, wr.cell? ⟨R, 0, none⟩ = some (.slice a ns.length cap) ∧ Ints wr (.slice a ns.length cap) ns := by
  obtain ⟨_, ov, h1, h2⟩ := h.ones
  obtain ⟨a, cap, rfl⟩ := row_forms h2
  exact ⟨a, cap, by simp [World.cell?, h1], Row.of_owns h2⟩

set_option maxRecDepth 100000 in
set_option maxHeartbeats 8000000 in
theorem row_p (W : Int) (v u : Value) (l : List Ln) (R : List (List (List CSet))) (b : Nat) (w : World) (hv : Lanes w v l) (hu : Rules3 w u R) (hn : Narrow R) (hb256 : b < 256) :
    Calls Try.prog 14 #[.agg #[.int .i64 W, v], u, .int .u8 (b : Int)] w (RowP (rowV W l R b) w) := by
  have K1 := Lib.hid (fun w h => check_p W v l w h)
  have K2 := Lib.hid (fun u w h => pack_p u R w h hn)
  have HM := Lib.hid (ChkM.start w W v)
  have HV := Lib.hid hv
  have HU := Lib.hid hu
  have hmu := hu.max
  obtain ⟨V, hV⟩ : ∃ V, V = rowV W l R b := ⟨_, rfl⟩
  rw [← hV]
  unfold rowV at hV
  obtain ⟨a, cap, rfl⟩ := hv.form
  obtain ⟨a2, cap2, rfl⟩ := hu.form
  obtain ⟨c0, c1⟩ := HM.out.plan.cells
  clear hv hu
  by_cases h0 : (checkV W l).2 = 0
  · have hG := good_of h0
    rw [if_neg (fun h => h h0)] at hV
    rw [check_zero h0] at K1
    have HG := Lib.hid hG
    obtain ⟨k, hk, k1, k4, hend⟩ := hG.nat
    have hs := hG.short
    obtain ⟨m1, m2, m3, m4, m5⟩ := hG.last
    rw [hk, Int.toNat_natCast] at hV
    subst hk
    have HPI := Lib.hid (fun h => packV_is (R := R) h)
    generalize hP : packV R = P at *
    obtain ⟨PW, PL, Pi, Pe⟩ := P
    simp only at hV K2
    have HVV := Lib.hid hV
    clear h0 hG hV hP
    go_enter Try.func14, Try.ntmps14
    go_wp2_with fail
    refine (K1.out _ (HV.out.below HM.out.bel)).mono ?_
    rintro e w1 ⟨rfl, hb⟩
    have HM1 := Lib.hid (HM.out.keep hb rfl)
    clear c0 c1 hb
    obtain ⟨c0, c1⟩ := HM1.out.plan.cells
    go_wp2_with fail
    have K3 := K2.out _ _ (HU.out.below HM1.out.bel)
    with_reducible refine K3.mono ?_
    clear K3
    rintro e w2 ⟨v2, rfl, hL2, hb⟩
    have HM2 := Lib.hid (HM1.out.keep hb rfl)
    have HL2 := Lib.hid (hL2.below ((Below.refl _ w2).alloc (Nat.le_refl _) (.cells #[.int .i64 PW, v2] 27)))
    have HMA := Lib.hid (HM2.out.alloc (.cells #[.int .i64 PW, v2] 27))
    obtain ⟨a3, cap3, rfl⟩ := hL2.form
    clear c0 c1 hb hL2
    obtain ⟨c0, c1⟩ := HM2.out.plan.cells
    have hz2 : w.heap.size < w2.heap.size := HM2.out.plan.lt
    by_cases hPe : Pe = 0
    · subst hPe
      by_cases hPW : PW = (k : Int)
      · subst hPW
        go_wp2_with fail
        have K3 := equal_p _ _ PL l _ HL2.out (HV.out.below HMA.out.bel)
        with_reducible refine K3.mono ?_
        clear K3
        rintro e w3 ⟨rfl, hb⟩
        have HM3 := Lib.hid (HMA.out.keep hb rfl)
        clear c0 c1 hb hz2
        obtain ⟨c0, c1⟩ := HM3.out.plan.cells
        by_cases hPL : PL = l
        · have hV2 : V = (k, ofI (spotsTo R.flatten.flatten b R.flatten.flatten.length), 0) := by
            rw [HVV.out, if_neg (fun h => h.elim (fun h => h rfl) (fun h => h ⟨trivial, hPL⟩))]
          rw [decide_eq_true hPL]
          obtain ⟨hpw, hR16⟩ := HPI.out trivial
          have hWl : PL = lanesG R 0 0 := congrArg (fun x => x.2.1) hpw
          have HLG := Lib.hid (show l = lanesG R 0 0 by rw [← hPL, hWl])
          have hF : R.flatten.flatten.length ≤ 64 * k := by
            have e := congrArg (fun x => x.1) hpw
            simp only at e
            have := wordsV_bd (n := (R.flatten.flatten.length : Int)) (by omega)
            unfold wordsV at e
            split at e <;> omega
          have HIN := Lib.hid (spotsTo_in (F := R.flatten.flatten) (b := b) (n := R.flatten.flatten.length) (k := k) hF)
          have HRM := Lib.hid (RM.start HM3.out)
          subst hV2
          clear hPL hWl hpw
          have hz3 : w.heap.size < w3.heap.size := HM3.out.plan.lt
          go_wp2_with fail
          obtain ⟨Rb, hRb⟩ : ∃ Rb, Rb = w3.heap.size := ⟨_, rfl⟩
          rw [← hRb] at HRM ⊢
          have HRB := Lib.hid hRb
          clear hRb
          have HQL : Hid (∀ i, (R.take i).flatten.length ≤ 256) := Lib.hid fun i => by
            have h1 : l.length = R.flatten.length := by rw [HLG.out, length_lanesG]
            have h2 : (R.take i).flatten.length ≤ R.flatten.length := by
              conv => rhs; rw [← List.take_append_drop i R]
              rw [List.flatten_append, List.length_append]
              omega
            omega
          have HFL : Hid (∀ i, (R.take i).flatten.flatten.length ≤ 256) := Lib.hid fun i => Nat.le_trans pre_le (by omega)
          go_loopw [14, 54] (fun lv iv wr => ∃ i : Nat, i ≤ R.length ∧ iv = .int .i64 (i : Nat) ∧ (∃ j : Nat, lv = .int .i64 (j : Nat) ∧ j = (R.take i).flatten.length) ∧ RM w (k : Int) (.slice a l.length cap) Rb (spotsTo R.flatten.flatten b (R.take i).flatten.flatten.length) wr) (fun _ iv _ => R.length - (intOf iv).toNat)
          case atStart => exact ⟨0, by omega, rfl, ⟨0, rfl, rfl⟩, HRM.out⟩
          case round =>
            obtain ⟨i, hi, rfl, ⟨j, rfl, hj⟩, hRM⟩ := hrel
            have HR := Lib.hid hRM
            have HJ := Lib.hid hj
            have i0 : (0 : Int) ≤ (i : Int) := by omega
            clear hj
            by_cases hlt : i < R.length
            · have i1 : (i : Int) < (R.length : Int) := by omega
              obtain ⟨g, o, b1, c2, rfl, hg, hc, hL⟩ := HU.out.at hlt
              have hc' := (hRM.bel.cell (p := ⟨g, o + i, none⟩) hg).trans hc
              have HFA := Lib.hid (fun k m (hk : k < R[i].length) (hm : m < R[i][k].length) => flat_at hlt hk hm)
              have HLA := Lib.hid (fun k (hk : k < R[i].length) => lane_at hlt hk)
              have HST := Lib.hid (pre_step hlt)
              have HFi1 := HFL.out (i + 1)
              have hmL := hL.max
              rw [HST.out.1] at HFi1
              generalize (R.take i).flatten.flatten.length = p at *
              generalize (R.take i).flatten.length = q at *
              generalize hLi : R[i] = L at *
              have HLw := Lib.hid hL
              have HFI := Lib.hid HFi1
              have hjL := HQL.out (i + 1)
              rw [HST.out.2] at hjL
              clear hL hLi hc hRM HFi1
              go_wp2_with fail
              obtain ⟨wo, rfl⟩ : ∃ wo : World, wo = wr := ⟨_, rfl⟩
              have hj0 : j = q := HJ.out
              go_loopw [14, 60] (fun lv kv wr => ∃ k' : Nat, k' ≤ L.length ∧ kv = .int .i64 (k' : Nat) ∧ (∃ j : Nat, lv = .int .i64 (j : Nat) ∧ j = q + k') ∧ RM w (k : Int) (.slice a l.length cap) Rb (spotsTo R.flatten.flatten b (p + (L.take k').flatten.length)) wr) (fun _ kv _ => L.length - (intOf kv).toNat)
              case atStart => exact ⟨0, by omega, rfl, ⟨j, rfl, by omega⟩, HR.out⟩
              case round =>
                clear HR HJ hj0
                obtain ⟨kk, hkk, rfl, ⟨j, rfl, hj⟩, hRM⟩ := hrel
                have HR := Lib.hid hRM
                have HJ := Lib.hid hj
                have k0 : (0 : Int) ≤ (kk : Int) := by omega
                have jb : j ≤ 256 := by omega
                clear hj
                by_cases hlk : kk < L.length
                · have k1' : (kk : Int) < (L.length : Int) := by omega
                  obtain ⟨g2, o2, b2, c2, rfl, hg2, hc2w, hl2⟩ := HLw.out.at hlk
                  have hc2 := (hRM.bel.cell (p := ⟨g2, o2 + kk, none⟩) hg2).trans hc2w
                  have HFB := Lib.hid (fun m (hm : m < L[kk].length) => HFA.out kk m hlk hm)
                  have HLB := Lib.hid (HLA.out kk hlk)
                  have HST2 := Lib.hid (pre_step2 hlk)
                  have HFk : Hid (p + ((L.take kk).flatten.length + L[kk].length) ≤ 256) := Lib.hid (by
                    have h1 := HFI.out
                    have h2 : (L.take (kk + 1)).flatten.length ≤ L.flatten.length := by
                      conv => rhs; rw [← List.take_append_drop (kk + 1) L]
                      rw [List.flatten_append, List.length_append]
                      omega
                    rw [HST2.out] at h2
                    omega)
                  have hml := Row.max hl2
                  generalize (L.take kk).flatten.length = p2 at *
                  generalize hln : L[kk] = ln at *
                  have HLn := Lib.hid hl2
                  clear hl2 hln hRM hc2w
                  go_wp2_with fail
                  obtain ⟨wm, rfl⟩ : ∃ wm : World, wm = wr := ⟨_, rfl⟩
                  go_loopw [66] (fun mv wr => ∃ m : Nat, m ≤ ln.length ∧ mv = .int .i64 (m : Nat) ∧ RM w (k : Int) (.slice a l.length cap) Rb (spotsTo R.flatten.flatten b (p + (p2 + m))) wr) (fun mv _ => ln.length - (intOf mv).toNat)
                  case atStart => exact ⟨0, by omega, rfl, HR.out⟩
                  case round =>
                    clear HR
                    obtain ⟨m, hm, rfl, hRM⟩ := hrel
                    have HR := Lib.hid hRM
                    have m0 : (0 : Int) ≤ (m : Int) := by omega
                    by_cases hlm : m < ln.length
                    · have m1' : (m : Int) < (ln.length : Int) := by omega
                      obtain ⟨g3, o3, rfl, hg3, s0, s1, s2, s3⟩ := HLn.out.at hlm
                      have t0 := (hRM.bel.cell (p := ⟨g3, o3 + m * 4, none⟩) hg3).trans s0
                      have t1 := (hRM.bel.cell (p := ⟨g3, o3 + m * 4 + 1, none⟩) hg3).trans s1
                      have t2 := (hRM.bel.cell (p := ⟨g3, o3 + m * 4 + 2, none⟩) hg3).trans s2
                      have t3 := (hRM.bel.cell (p := ⟨g3, o3 + m * 4 + 3, none⟩) hg3).trans s3
                      have hF := HFB.out m hlm
                      have HY := Lib.hid (fun h => spotsTo_yes (b := b) hF h)
                      have HN := Lib.hid (fun h => spotsTo_no (b := b) hF h)
                      have hlen : (spotsTo R.flatten.flatten b (p + (p2 + m))).length ≤ 100000 := Nat.le_trans (spotsTo_len _ _ _) (by have := HFk.out; omega)
                      have hlane := HLB.out
                      rw [← HLG.out, ← HJ.out] at hlane
                      obtain ⟨hjl, hlj⟩ := List.getElem?_eq_some_iff.1 hlane
                      obtain ⟨g4, o4, rfl, hg4, z0, z1, z2⟩ := HV.out.at hjl
                      rw [hlj] at z0 z1 z2
                      simp only at z0 z1 z2
                      have hfk := HFk.out
                      obtain ⟨f, hf⟩ : ∃ f : Int, f = ((p + p2 : Nat) : Int) := ⟨_, rfl⟩
                      rw [← hf] at z1
                      have f0 : 0 ≤ f := by omega
                      have f1 : f + (m : Int) ≤ 256 := by omega
                      have HFF := Lib.hid (show f + (m : Int) = ((p + (p2 + m) : Nat) : Int) by rw [hf]; push_cast; omega)
                      generalize spotsTo R.flatten.flatten b (p + (p2 + m)) = ns at *
                      generalize ln[m] = s at *
                      have HZ := Lib.hid (And.intro z0 (And.intro z1 z2))
                      have jl1 : (j : Int) < (l.length : Int) := by omega
                      have jl0 : (0 : Int) ≤ (j : Int) := by omega
                      clear hRM s0 s1 s2 s3 hF hlane hlj z0 z1 z2 hf hfk
                      go_wp2_with fail
                      refine (has_p s b hb256 _).mono ?_
                      rintro e w5 ⟨rfl, hb⟩
                      have HR5 := Lib.hid ((HR.out.alloc (.cells #[.int .u64 (word s 0 : Int), .int .u64 (word s 1 : Int), .int .u64 (word s 2 : Int), .int .u64 (word s 3 : Int)] 50)).keep hb rfl)
                      clear hb t0 t1 t2 t3
                      cases hh : hasB s b
                      · have HH := Lib.hid hh
                        clear hh
                        go_wp2_with fail
                        exact ⟨⟨m + 1, by omega, by go_num, by rw [show p + (p2 + (m + 1)) = p + (p2 + m) + 1 by omega, HN.out HH.out]; exact HR5.out⟩, by simp [intOf]; omega⟩
                      · have HH := Lib.hid hh
                        obtain ⟨c0, c1⟩ := HR5.out.plan.cells
                        have d0 := (HR5.out.bel.cell (p := ⟨g4, o4 + j * 3, none⟩) hg4).trans HZ.out.1
                        have d1 := (HR5.out.bel.cell (p := ⟨g4, o4 + j * 3 + 1, none⟩) hg4).trans HZ.out.2.1
                        have d2 := (HR5.out.bel.cell (p := ⟨g4, o4 + j * 3 + 2, none⟩) hg4).trans HZ.out.2.2
                        clear hh
                        go_wp2_with fail
                        have K5 := set_p Rb (Rb + 1) ns (i : Int) f (ln.length : Int) (m : Int) w5 HR5.out.ones hlen (by omega) (by omega)
                        with_reducible refine K5.mono ?_
                        clear K5
                        rintro e w6 ⟨rfl, ho, hb⟩
                        have HR6 := Lib.hid (HR5.out.but hb ho)
                        clear ho hb c0 c1 d0 d1 d2
                        go_wp2_with fail
                        exact ⟨⟨m + 1, by omega, by go_num, by rw [show p + (p2 + (m + 1)) = p + (p2 + m) + 1 by omega, HY.out HH.out, ← HFF.out]; exact HR6.out⟩, by simp [intOf]; omega⟩
                    · have m1' : ¬ (m : Int) < (ln.length : Int) := by omega
                      obtain rfl : m = ln.length := by omega
                      have hj2 := HJ.out
                      clear hRM hlm
                      go_wp2_with fail
                      exact ⟨⟨kk + 1, by omega, by go_num, ⟨j + 1, by go_num, by omega⟩, by rw [HST2.out]; exact HR.out⟩, by simp [intOf]; omega⟩
                · have k1' : ¬ (kk : Int) < (L.length : Int) := by omega
                  obtain rfl : kk = L.length := by omega
                  have hj2 := HJ.out
                  rw [List.take_length] at HR
                  clear hRM hlk
                  go_wp2_with fail
                  exact ⟨⟨i + 1, by omega, by go_num, ⟨j, rfl, by rw [HST.out.2]; exact hj2⟩, by rw [HST.out.1]; exact HR.out⟩, by simp [intOf]; omega⟩
            · have i1 : ¬ (i : Int) < (R.length : Int) := by omega
              obtain rfl : i = R.length := by omega
              rw [List.take_length] at HR
              obtain ⟨oa, oc, r0, hI⟩ := HR.out.row
              obtain ⟨c0, c1⟩ := HR.out.plan.cells
              have HI := Lib.hid hI
              generalize (spotsTo R.flatten.flatten b R.flatten.flatten.length).length = N at *
              clear hRM hlt hI
              go_wp2_with fail
              have K3 := of_p k _ _ _ HI.out k1 k4 HIN.out
              with_reducible refine K3.mono ?_
              clear K3
              rintro e w9 ⟨v9, rfl, hU9, hb9⟩
              have HU9 := Lib.hid hU9
              have HB9 := Lib.hid (next HR.out.bel hb9)
              clear hU9 hb9 c0 c1 r0
              go_wp2_with fail
              go_ret2
              exact show RowP _ _ _ _ from ⟨_, rfl, HU9.out, HB9.out⟩
        · have hV2 : V = (0, 0#256, 6) := by rw [HVV.out, if_pos (.inr fun h => hPL h.2)]
          rw [decide_eq_false hPL]
          subst hV2
          clear hPL
          go_wp2_with fail
          go_ret2
          exact show RowP _ _ _ _ from ⟨_, rfl, URow.nil _ _, HM3.out.bel⟩
      · have hV2 : V = (0, 0#256, 6) := by rw [HVV.out, if_pos (.inr fun h => hPW h.1)]
        have e1 : (PW != (k : Int)) = true := bne_iff_ne.2 hPW
        subst hV2
        clear hPW
        go_wp2_with fail
        go_ret2
        exact show RowP _ _ _ _ from ⟨_, rfl, URow.nil _ _, HMA.out.bel⟩
    · have hV2 : V = (0, 0#256, 6) := by rw [HVV.out, if_pos (.inl hPe)]
      have e1 : (Pe != 0) = true := bne_iff_ne.2 hPe
      subst hV2
      clear hPe
      go_wp2_with fail
      go_ret2
      exact show RowP _ _ _ _ from ⟨_, rfl, URow.nil _ _, HMA.out.bel⟩
  · rw [if_pos h0] at hV
    have e1 : ((checkV W l).2 != 0) = true := bne_iff_ne.2 h0
    generalize checkV W l = E at *
    subst hV
    clear h0
    go_enter Try.func14, Try.ntmps14
    go_wp2_with fail
    refine (K1.out _ (HV.out.below HM.out.bel)).mono ?_
    rintro e w1 ⟨rfl, hb⟩
    have HM1 := Lib.hid (HM.out.keep hb rfl)
    clear c0 c1 hb
    go_wp2_with fail
    go_ret2
    exact show RowP _ _ _ _ from ⟨_, rfl, URow.nil _ _, HM1.out.bel⟩
end Go.Proofs.Ytghdgenlkbocmaa
