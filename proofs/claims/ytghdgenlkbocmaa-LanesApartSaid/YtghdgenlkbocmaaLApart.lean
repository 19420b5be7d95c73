/- LanesApart: the law returns true: lanes lie apart. No conditions. -/
import Derived.Test.YtghdgenlkbocmaaLArg
import Derived.Test.YtghdgenlkbocmaaLShown
import Derived.Test.YtghdgenlkbocmaaLApartL
namespace Go.Proofs.Ytghdgenlkbocmaa.lanesApart
open Go.ChangeShapes Go.WideShapes Go.ChangeAt Go.RowKit

structure AM (w : World) (P : Nat) (W : Int) (v : Value) (l : List Ln) (wr : World) : Prop where
  plan : PAt wr P (.int .i64 W) v
  lanes : Lanes wr v l
  bel : Below w.heap.size w wr
theorem AM.keep {w wr w' : World} {P N : Nat} {W : Int} {v : Value} {l : List Ln} (h : AM w P W v l wr) (hb : Below N wr w') (hN : N = wr.heap.size) : AM w P W v l w' := by
  subst hN
  exact ⟨h.plan.below hb h.plan.lt, h.lanes.below hb, h.bel.trans (hb.mono h.bel.size)⟩
/-- what the plan of Pack says -/
theorem facts {R : List (List (List CSet))} {PW Pi : Int} {PL : List Ln} (h : packV R = (PW, PL, Pi, 0)) (hc : checkV PW PL = (0, 0)) (hF : Full R) (_ : R.flatten.flatten.length ≤ 256) (hR : 0 < R.length) :
    PL = lanesG R 0 0 ∧ Good PW PL ∧ spotsV PW PL = (R.flatten.flatten.length : Int) ∧ rulesV PW PL = (R.length : Int) ∧ (lastL PL).1 < (R.length : Int) ∧ ((R.flatten.flatten.length : Nat) : Int) = (lastL PL).2.1 + (lastL PL).2.2 ∧ PL.length = R.flatten.length ∧
    ∃ K : Nat, PW = (K : Int) ∧ 1 ≤ K ∧ K ≤ 4 ∧ R.flatten.flatten.length ≤ 64 * K ∧ startsV PW PL = (K, ofI (PL.map (·.2.1)), 0) ∧ (∀ i : Nat, i < R.length → endsV PW PL (i : Int) = (K, ofI (endsL PL (i : Int)), 0)) := by
  have h0 : (packV R).2.2.2 = 0 := by rw [h]
  obtain ⟨hp, _⟩ := packV_is h0
  have hPL : PL = lanesG R 0 0 := by
    have := congrArg (fun x => x.2.1) hp
    rw [h] at this
    exact this
  have hc0 : (checkV PW PL).2 = 0 := by rw [hc]
  have hG := good_of hc0
  obtain ⟨l1, l2⟩ := last_lane hF hR
  rw [← hPL] at l1 l2
  obtain ⟨K, hK, k1, k4, k64⟩ := hG.nat
  refine ⟨hPL, hG, ?_, ?_, by omega, by omega, by rw [hPL, length_lanesG], K, hK, k1, k4, by omega, ?_, fun i hi => ?_⟩
  · unfold spotsV; rw [if_pos hc0]; exact l2
  · unfold rulesV; rw [if_pos hc0]; exact l1
  · unfold startsV; rw [if_neg (fun h => h hc0), hK, Int.toNat_natCast]
  · unfold endsV; rw [if_neg (fun h => h hc0), if_neg (by omega), hK, Int.toNat_natCast]
theorem find_is {W : Int} {l : List Ln} (hc : checkV W l = (0, 0)) (hG : Good W l) {N k : Nat} (hN : (N : Int) = (lastL l).2.1 + (lastL l).2.2) (hk : k < N) :
    ∃ (i : Nat) (h : i < l.length) (p : Int), findV W l (k : Int) = ((i : Int), p, 0) ∧ 0 ≤ p ∧ p < l[i].2.2 ∧ l[i].2.1 + p = (k : Int) := by
  have hc0 : (checkV W l).2 = 0 := by rw [hc]
  obtain ⟨h1, h2, h3⟩ := findI_at hG (pos := (k : Int)) (by omega) (by omega)
  refine ⟨findI l k, h1, (k : Int) - l[findI l k].2.1, ?_, by omega, by omega, by omega⟩
  unfold findV
  rw [if_neg (fun h => h hc0), if_neg (by omega), getD_at h1]

set_option maxRecDepth 100000 in
set_option maxHeartbeats 16000000 in
theorem walkN (u : Value) (R : List (List (List CSet))) (w : World) (hu : Rules3 w u R) :
    Calls Try.prog 8 #[u] w fun e w' => e = .returned (.bool true) ∧ Below w.heap.size w w' := by
  have A0 := Lib.hid (fun w h => wide_r u R w h)
  have A1 := Lib.hid (fun w h hn => pack_p u R w h hn)
  have HU := Lib.hid hu
  have hmu := hu.max
  obtain ⟨ua, uc, rfl⟩ := hu.form
  have HPF := Lib.hid (fun h => packV_full (R := R) h)
  have HPC := Lib.hid (fun h => pack_check (R := R) h)
  generalize hpv : packV R = pv at *
  have HPVE := Lib.hid hpv
  obtain ⟨PW, PL, Pi, Pe⟩ := pv
  clear hu hpv
  go_enter Try.func8, Try.ntmps8
  go_wp2_with fail
  have K := A0.out _ HU.out
  with_reducible refine K.mono ?_
  clear K
  rintro e w1 ⟨z, rfl, hz, rfl⟩
  cases z with
  | true =>
    go_wp2_with fail
    refine (shown_r _).mono ?_
    rintro e w2 ⟨rfl, hb⟩
    have HB := Lib.hid hb
    clear hb
    go_wp2_with fail
    go_ret
    exact ⟨rfl, HB.out⟩
  | false =>
    have HN := Lib.hid (hz rfl)
    clear hz
    go_wp2_with fail
    have K := A1.out _ HU.out HN.out
    with_reducible refine K.mono ?_
    clear K
    rintro e w2 ⟨vp, rfl, hL, hb⟩
    obtain ⟨pa, pc, rfl⟩ := hL.form
    have HM : Hid (AM w w2.heap.size PW (.slice pa PL.length pc) PL (w2.alloc (.cells #[.int .i64 PW, .slice pa PL.length pc] 27))) := Lib.hid ⟨PAt.new _ _ _, hL.below (al _ _), next hb (al _ _)⟩
    have hlt2 : w.heap.size ≤ w2.heap.size := hb.size
    clear hL hb
    by_cases hPe : Pe = 0
    · subst hPe
      obtain ⟨hfull, hN256, hRpos⟩ := HPF.out rfl
      obtain ⟨hPL, hG, hsp, hru, hlr, hNl, hll, K, hPW, k1, k4, hNK, hst, hen⟩ := facts HPVE.out (HPC.out rfl) hfull hN256 hRpos
      have HCK := Lib.hid (HPC.out rfl)
      have HG := Lib.hid hG
      have HSP := Lib.hid hsp
      have HRU := Lib.hid hru
      have HLR := Lib.hid hlr
      have HNL := Lib.hid hNl
      have HST := Lib.hid hst
      have HEN := Lib.hid hen
      have HPL := Lib.hid hPL
      have HLL := Lib.hid hll
      have hR16 : R.length ≤ 20 := HN.out.1
      obtain ⟨N, hNe⟩ : ∃ N, N = R.flatten.flatten.length := ⟨_, rfl⟩
      rw [← hNe] at hN256 hNK HSP HNL
      have HNE := Lib.hid hNe
      clear hfull hG hsp hru hlr hNl hst hen hPL hll HPF HPC HPVE hNe
      subst hPW
      obtain ⟨c0, c1⟩ := HM.out.plan.cells
      go_wp2_with fail
      have KK := spots_p (K : Int) _ _ _ HM.out.lanes
      rw [HSP.out, HCK.out] at KK
      with_reducible refine KK.mono ?_
      clear KK
      rintro e w3 ⟨rfl, hb⟩
      replace HM := Lib.hid (HM.out.keep hb rfl)
      clear hb c0 c1
      obtain ⟨c0, c1⟩ := HM.out.plan.cells
      go_wp2_with fail
      have KK := rules_p (K : Int) _ _ _ HM.out.lanes
      rw [HRU.out, HCK.out] at KK
      with_reducible refine KK.mono ?_
      clear KK
      rintro e w4 ⟨rfl, hb⟩
      replace HM := Lib.hid (HM.out.keep hb rfl)
      clear hb c0 c1
      obtain ⟨c0, c1⟩ := HM.out.plan.cells
      go_wp2_with fail
      have KK := starts_p (K : Int) _ _ _ HM.out.lanes
      rw [HST.out] at KK
      with_reducible refine KK.mono ?_
      clear KK
      rintro e w5 ⟨sv, rfl, hU, hb⟩
      have HS := Lib.hid (show URow w5 sv K (ofI (PL.map (·.2.1))) from hU)
      replace HM := Lib.hid (HM.out.keep hb rfl)
      clear hb c0 c1 hU
      go_wp2_with fail
      go_loopw [11] (fun kv wr => ∃ k : Nat, k ≤ N ∧ kv = .int .i64 (k : Nat) ∧ AM w w2.heap.size (K : Int) (.slice pa PL.length pc) PL wr ∧ URow wr sv K (ofI (PL.map (·.2.1)))) (fun kv _ => N - (intOf kv).toNat)
      case atStart => exact ⟨0, by omega, rfl, HM.out, HS.out⟩
      case round =>
        clear HM HS
        obtain ⟨k, hk, rfl, hM, hS⟩ := hrel
        have HM := Lib.hid hM
        have HS := Lib.hid hS
        have x0 : (0 : Int) ≤ (k : Int) := by omega
        clear hM hS
        by_cases hlt : k < N
        · have x1 : (k : Int) < (N : Int) := by omega
          obtain ⟨i, hi, p, hf, p0, p1, p2⟩ := find_is HCK.out HG.out HNL.out hlt
          have hil := HG.out.short
          obtain ⟨c0, c1⟩ := HM.out.plan.cells
          have hch := HG.out.chain.all i hi
          have p3 : ((PL[i].2.1 + p) != (k : Int)) = false := by rw [p2]; simp
          have p4 : 0 ≤ PL[i].2.1 := by omega
          have p5 : PL[i].2.1 ≤ 256 := by omega
          have p6 : p ≤ 256 := by omega
          have i0 : (0 : Int) ≤ (i : Int) := by omega
          have i1 : (i : Int) < (PL.length : Int) := by omega
          clear p2 hch
          go_wp2_with fail
          have KK := find_p (K : Int) (k : Int) _ _ _ HM.out.lanes
          rw [hf] at KK
          with_reducible refine KK.mono ?_
          clear KK hf
          rintro e w6 ⟨rfl, hb⟩
          replace HM := Lib.hid (HM.out.keep hb rfl)
          replace HS := Lib.hid (HS.out.below hb)
          clear hb c0 c1
          obtain ⟨c0, c1⟩ := HM.out.plan.cells
          obtain ⟨g, o, rfl, hg, d0, d1, d2⟩ := HM.out.lanes.at hi
          go_wp2_with fail
          go_roundw
          case rel => exact ⟨k + 1, by omega, by go_num, HM.out, HS.out⟩
          case measure => simp [intOf]; omega
        · obtain rfl : k = N := by omega
          have x1 : ¬ (k : Int) < (k : Int) := by omega
          obtain ⟨c0, c1⟩ := HM.out.plan.cells
          have j0 : (0 : Int) ≤ (K : Int) := by omega
          have j4 : (K : Int) ≤ 4 := by omega
          have hmk := fun w => run_make K k1 k4 w
          go_wp2_with fail
          have ha := al wr (.cells (rcells 0#256 K).toArray 48)
          have HU0 := Lib.hid (show URow (wr.alloc (.cells (rcells 0#256 K).toArray 48)) (.slice (some ⟨wr.heap.size, 0, none⟩) K K) K (allS PL ((0 : Nat) : Int)) by
            rw [show ((0 : Nat) : Int) = 0 from rfl, allS_zero HG.out]
            exact UAt.row (show UAt (wr.alloc (.cells (rcells 0#256 K).toArray 48)) wr.heap.size K 0#256 from heap_alloc_new wr _) (by omega))
          replace HM := Lib.hid (HM.out.keep ha rfl)
          replace HS := Lib.hid (HS.out.below ha)
          generalize wr.alloc (.cells (rcells 0#256 K).toArray 48) = wa at *
          generalize wr.heap.size = B0 at *
          clear ha hmk c0 c1
          go_loopw [15, 16, 17] (fun av tv iv wr => ∃ (i t : Nat) (a : Value), a = av ∧ i ≤ R.length ∧ iv = .int .i64 (i : Nat) ∧ tv = .int .i64 (t : Nat) ∧ t = (R.take i).flatten.length ∧ URow wr a K (allS PL (i : Int)) ∧ AM w w2.heap.size (K : Int) (.slice pa PL.length pc) PL wr ∧ URow wr sv K (ofI (PL.map (·.2.1)))) (fun _ _ iv _ => R.length - (intOf iv).toNat)
          case atStart => exact ⟨0, 0, _, rfl, by omega, rfl, rfl, rfl, HU0.out, HM.out, HS.out⟩
          case round =>
            clear HM HS HU0
            obtain ⟨i, t, av, rfl, hi, rfl, rfl, ht, hA, hM, hS⟩ := hrel
            have HM := Lib.hid hM
            have HS := Lib.hid hS
            have HA := Lib.hid hA
            have x0 : (0 : Int) ≤ (i : Int) := by omega
            have ht2 : t ≤ 256 := by
              have h1 := HG.out.short
              have h2 := HLL.out
              have h3 : (R.take i).flatten.length ≤ R.flatten.length := by
                conv => rhs; rw [← List.take_append_drop i R]
                rw [List.flatten_append, List.length_append]
                omega
              omega
            have HT := Lib.hid ht
            clear hM hS hA ht
            by_cases hlt : i < R.length
            · have x2 : (i : Int) < (R.length : Int) := by omega
              obtain ⟨g, o, b2, c2, rfl, hg, hc, hL⟩ := HU.out.at hlt
              have hc' := (HM.out.bel.cell (p := ⟨g, o + i, none⟩) hg).trans hc
              have HC := Lib.hid (And.intro hg hc)
              obtain ⟨L70, _⟩ := HN.out.2 i hlt
              have hcnt : cntB (ofI (endsL PL (i : Int))) (64 * K) = R[i].length := by
                rw [cntB_ofI (by omega) (fun x hx => ?_) (HG.out.endsL_nodup _), HPL.out, endsL_count R hlt]
                rw [endsL_eq] at hx
                obtain ⟨y, hy, rfl⟩ := List.mem_map.1 hx
                have := HG.out.end_bd (List.mem_filter.1 hy).1
                have := HNL.out
                omega
              have HCNT := Lib.hid hcnt
              have HTS := Lib.hid (show (R.take (i + 1)).flatten.length = (R.take i).flatten.length + R[i].length from (pre_step hlt).2)
              obtain ⟨c0, c1⟩ := HM.out.plan.cells
              clear hcnt hc hL hc'
              go_wp2_with fail
              have KK := ends_p (K : Int) (i : Int) _ _ _ HM.out.lanes
              rw [HEN.out i hlt] at KK
              with_reducible refine KK.mono ?_
              clear KK
              rintro e w6 ⟨ev, rfl, hE, hb⟩
              have HE := Lib.hid (show URow w6 ev K (ofI (endsL PL (i : Int))) from hE)
              replace HM := Lib.hid (HM.out.keep hb rfl)
              replace HS := Lib.hid (HS.out.below hb)
              replace HA := Lib.hid (HA.out.below hb)
              clear hb c0 c1 hE
              go_wp2_with fail
              refine (countB_p K _ _ _ HE.out k1 k4).mono ?_
              rintro e w7 ⟨rfl, rfl⟩
              rw [HCNT.out]
              go_wp2_with fail
              refine (and_p K _ _ _ _ _ HA.out HE.out k1 k4).mono ?_
              rintro e w7 ⟨bv, rfl, hb2, hb⟩
              rw [allS_apart HG.out] at hb2
              have HB2 := Lib.hid hb2
              replace HM := Lib.hid (HM.out.keep hb rfl)
              replace HS := Lib.hid (HS.out.below hb)
              replace HA := Lib.hid (HA.out.below hb)
              replace HE := Lib.hid (HE.out.below hb)
              clear hb hb2
              go_wp2_with fail
              refine (countB_p K _ _ _ HB2.out k1 k4).mono ?_
              rintro e w8 ⟨rfl, rfl⟩
              rw [cntB_zero]
              have hc' := (HM.out.bel.cell (p := ⟨g, o + i, none⟩) HC.out.1).trans HC.out.2
              go_wp2_with fail
              refine (or_p K _ _ _ _ _ HA.out HE.out k1 k4).mono ?_
              rintro e w8 ⟨ov, rfl, ho, hb⟩
              rw [← allS_step HG.out] at ho
              have HO := Lib.hid ho
              replace HM := Lib.hid (HM.out.keep hb rfl)
              replace HS := Lib.hid (HS.out.below hb)
              clear hb ho hc'
              go_wp2_with fail
              go_roundw
              case rel => exact ⟨i + 1, t + R[i].length, _, rfl, by omega, by go_num, by go_num, by rw [HTS.out, ← HT.out], HO.out, HM.out, HS.out⟩
              case measure => simp [intOf]; omega
            · obtain rfl : i = R.length := by omega
              have x2 : ¬ (R.length : Int) < (R.length : Int) := by omega
              have HTL := Lib.hid (show t = PL.length by rw [HT.out, List.take_length, HLL.out])
              have HCS := Lib.hid (show cntB (ofI (PL.map (·.2.1))) (64 * K) = PL.length by
                rw [cntB_ofI (by omega) (fun x hx => ?_) HG.out.starts_nodup, List.length_map]
                obtain ⟨y, hy, rfl⟩ := List.mem_map.1 hx
                have := HG.out.first_bd hy
                have := HNL.out
                omega)
              have hpl := HG.out.short
              clear HT
              go_wp2_with fail
              refine (shift_p K _ _ _ HA.out k1 k4).mono ?_
              rintro e w9 ⟨rv, bz, rfl, hr, hb⟩
              have HR := Lib.hid hr
              replace HM := Lib.hid (HM.out.keep hb rfl)
              replace HS := Lib.hid (HS.out.below hb)
              clear hb hr
              obtain ⟨c0, c1⟩ := HM.out.plan.cells
              have hkN : (0 : Int) ≤ (k : Int) := by omega
              obtain rfl : t = PL.length := HTL.out
              by_cases hN2 : k < 64 * K
              · have y1 : (k : Int) < 64 * (K : Int) := by omega
                go_wp2_with fail
                refine (setB_p K _ _ k false _ HR.out hN2 k1 k4).mono ?_
                rintro e w10 ⟨mv, rfl, hr, hb⟩
                rw [moved_set HG.out HLR.out HNL.out (by omega)] at hr
                have HV := Lib.hid hr
                replace HM := Lib.hid (HM.out.keep hb rfl)
                replace HS := Lib.hid (HS.out.below hb)
                clear hb hr c0 c1
                go_wp2_with fail
                refine (countB_p K _ _ _ HS.out k1 k4).mono ?_
                rintro e w12 ⟨rfl, rfl⟩
                rw [HCS.out]
                obtain ⟨c0, c1⟩ := HM.out.plan.cells
                go_wp2_with fail
                refine (sameRow_r _ _ _ _ _ HV.out HS.out).mono ?_
                rintro e w13 ⟨rfl, hb⟩
                replace HM := Lib.hid (HM.out.keep hb rfl)
                clear hb c0 c1
                go_wp2_with fail
                refine (shown_r _).mono ?_
                rintro e w14 ⟨rfl, hb⟩
                replace HM := Lib.hid (HM.out.keep hb rfl)
                clear hb
                go_wp2_with fail
                go_ret
                exact ⟨rfl, HM.out.bel⟩
              · have y1 : ¬ (k : Int) < 64 * (K : Int) := by omega
                have hr := HR.out
                unfold URow at hr
                rw [moved_full HG.out HLR.out HNL.out (by omega) k4] at hr
                have HV := Lib.hid (show URow w9 rv K (ofI (PL.map (·.2.1))) from hr)
                clear hr
                go_wp2_with fail
                refine (countB_p K _ _ _ HS.out k1 k4).mono ?_
                rintro e w12 ⟨rfl, rfl⟩
                rw [HCS.out]
                obtain ⟨c0, c1⟩ := HM.out.plan.cells
                go_wp2_with fail
                refine (sameRow_r _ _ _ _ _ HV.out HS.out).mono ?_
                rintro e w13 ⟨rfl, hb⟩
                replace HM := Lib.hid (HM.out.keep hb rfl)
                clear hb c0 c1
                go_wp2_with fail
                refine (shown_r _).mono ?_
                rintro e w14 ⟨rfl, hb⟩
                replace HM := Lib.hid (HM.out.keep hb rfl)
                clear hb
                go_wp2_with fail
                go_ret
                exact ⟨rfl, HM.out.bel⟩
    · have e1 : (Pe != 0) = true := bne_iff_ne.2 hPe
      clear hPe
      go_wp2_with fail
      refine (shown_r _).mono ?_
      rintro e w3 ⟨rfl, hb⟩
      have HB := Lib.hid (next HM.out.bel hb)
      clear hb
      go_wp2_with fail
      go_ret
      exact ⟨rfl, HB.out⟩

theorem walk {H : Type} {enc : TypeId × Value → H} {d : DataW H} {p : List MemPlace} {base : Nat} (u : Value) (w : World)
    (hk2 : DataW.Trod enc Try.prog w 0 (fun _ => true) true 22 u d p) (hv2 : Value.okWide Try.prog w .any base 22 u) :
    Calls Try.prog 8 #[u] w fun e w' => e = .returned (.bool true) ∧ Below w.heap.size w w' := by
  obtain ⟨m, hm⟩ := hk2
  obtain ⟨a, len, cap, rfl⟩ := okWide_slice Try.underlying22 hv2
  obtain ⟨R, hR⟩ := rules_of hm
  exact walkN _ R w hR

theorem own : ownKnob Try.prog.godebug = none := by kernel_rfl
theorem laidOut : laidOutB Try.prog = true := by kernel_rfl

set_option maxRecDepth 100000 in
theorem lifted (os : Os) (started : os.Started) (H : Type) (enc : TypeId × Value → H) :
    ReturnsInHanded {} Try.checked os 8 .any (Rows.lanesApartSpec.pre6 enc Try.prog Try.f8 Rows.lanesApartRow.domain false) (Rows.lanesApartSpec.post enc Try.prog Try.f8 false true false false) := by
  refine returnsInHanded_of_change (C := Try.checked) own started (by kernel_rfl) Try.func8
    (ChangeSpec.witness6 (enc := enc) (C := Try.checked) false ⟨#[], #[.slice none 0 0], []⟩ 8 (by kernel_rfl) (by kernel_rfl) (by kernel_rfl) (by kernel_rfl)) ?_
  intro W base args ds gs before hval0 hW hcnd _
  have hval : ∀ (j : Nat) t v, Try.f8.params[j]? = some t → args[j]? = some v → Value.okWide Try.prog W .any base t v := hval0
  have hW' := hW
  obtain ⟨p, q, hA0, hV, rfl, hfz, hnd⟩ := hW
  have hA : DataW.TrodAll enc Try.prog W 0 (fun _ => true) true Try.f8.params.toList args.toList ds p := hA0
  rw [Try.params8] at hA hval
  obtain ⟨v0, vs0, d0, ds0, p0, q0, hargs, rfl, rfl, k0, r0⟩ := trodAll_cons hA
  obtain ⟨rfl, rfl, rfl⟩ := trodAll_nil r0
  obtain rfl : args = #[v0] := by cases args; simp_all
  obtain ⟨rfl, rfl⟩ := trodVars_none hV
  have lt0 : ∀ x ∈ p0, x.block < W.heap.size := by obtain ⟨m, hm⟩ := k0; exact DataW.trod_lt m _ _ _ hm
  clear hA0 hval0
  refine (walk v0 W k0 (hval 0 22 v0 rfl rfl)).mono fun e W' ⟨he, bel⟩ => ?_
  subst he
  exact ⟨_, rfl, _, _, _, [], _, [], hW', trodAll_mk1 (shut_bool Try.underlying4 _), (trodAll_cons_mk (Below.trod laidOut (by kernel_rfl) (of_decide_eq_true (by kernel_rfl)) k0 bel lt0) trodAll_mk0), rfl, bel.frame _, fun h => by cases h⟩

theorem over : Rows.lanesApartRow.holds Try.pinned (OpenSpec.ofChange Rows.lanesApartSpec) :=
  OpenClaim.holds_of_wide 8 Try.f8 rfl rfl rfl rfl rfl rfl rfl ⟨rfl, rfl, rfl, rfl, rfl⟩ rfl rfl rfl rfl rfl (by kernel_rfl) Try.func8 (by kernel_rfl)
    (of_decide_eq_true (by kernel_rfl)) (by unfold Func.isWrapper; first | (rw [if_pos (by decide +kernel)]; kernel_rfl) | (rw [if_neg (by decide +kernel)]; exact ⟨rfl, rfl⟩))
    (fun os started H enc _ => lifted os started H enc)

theorem proved : Rows.LanesApartSaid := over
#print axioms proved
end Go.Proofs.Ytghdgenlkbocmaa.lanesApart
