/- Layer 17, the reference: Ends. -/
import Derived.Test.YtghdgenlkbocmaaLStartsR
import Derived.Deep.RegionHeld3
namespace Go.Proofs.Ytghdgenlkbocmaa
open Go.RowKit

set_option maxRecDepth 100000 in
set_option maxHeartbeats 4000000 in
theorem ends_r (W rule : Int) (v : Value) (l : List Ln) (w : World) (hv : Lanes w v l) : Calls Try.prog 28 #[.agg #[.int .i64 W, v], .int .i64 rule] w (RowP (endsV W l rule) w) := by
  have K1 := Lib.hid (fun w h => rules_r W v l w h)
  have HM := Lib.hid (ChkM.start w W v)
  have HV := Lib.hid hv
  have hm := Row.max hv
  obtain ⟨ti, hi, hz0, hz1, hz2⟩ := info_parts infoI64
  obtain ⟨V, hV⟩ : ∃ V, V = endsV W l rule := ⟨_, rfl⟩
  rw [← hV]
  unfold endsV at hV
  obtain ⟨a, cap, rfl⟩ := hv.form
  obtain ⟨c0, c1⟩ := HM.out.plan.cells
  clear hv
  by_cases h0 : (checkV W l).2 = 0
  · have hG := good_of h0
    rw [if_neg (fun h => h h0)] at hV
    rw [show rulesV W l = (lastL l).1 + 1 by unfold rulesV; rw [if_pos h0], h0] at K1
    have HG := Lib.hid hG
    obtain ⟨k, hk, k1, k4, hend⟩ := hG.nat
    have HIN := Lib.hid (ends_in hG hend rule)
    have hs := hG.short
    rw [hk, Int.toNat_natCast] at hV
    subst hk
    obtain ⟨m1, m2, m3, m4, m5⟩ := hG.last
    have hel := endsL_len l rule
    generalize hn : (lastL l).1 + 1 = n at *
    have n0 : 1 ≤ n := by omega
    clear h0 hG hend hn
    by_cases hp : rule < 0 ∨ n ≤ rule
    · rw [if_pos hp] at hV
      subst hV
      rcases hp with hp | hp
      · go_enter Try.func28, Try.ntmps28
        go_wp2_with fail
        refine (K1.out _ (HV.out.below HM.out.bel)).mono ?_
        rintro e w1 ⟨rfl, hb⟩
        have HM1 := Lib.hid (HM.out.keep hb rfl)
        clear c0 c1 hb
        go_wp2_with fail
        go_ret2
        exact show RowP _ _ _ _ from ⟨_, rfl, URow.nil _ _, HM1.out.bel⟩
      · have hp2 : ¬ rule < 0 := by omega
        go_enter Try.func28, Try.ntmps28
        go_wp2_with fail
        refine (K1.out _ (HV.out.below HM.out.bel)).mono ?_
        rintro e w1 ⟨rfl, hb⟩
        have HM1 := Lib.hid (HM.out.keep hb rfl)
        clear c0 c1 hb
        go_wp2_with fail
        go_ret2
        exact show RowP _ _ _ _ from ⟨_, rfl, URow.nil _ _, HM1.out.bel⟩
    · rw [if_neg hp] at hV
      have hp1 : ¬ rule < 0 := by omega
      have hp2 : ¬ n ≤ rule := by omega
      subst hV
      clear hp
      go_enter Try.func28, Try.ntmps28
      go_wp2_with fail
      refine (K1.out _ (HV.out.below HM.out.bel)).mono ?_
      rintro e w1 ⟨rfl, hb⟩
      have HM1 := Lib.hid (HM.out.keep hb rfl)
      clear c0 c1 hb
      have hw1 : w.heap.size < w1.heap.size := HM1.out.plan.lt
      go_wp2_with fail
      go_loopw [8, 9] (fun ov iv wr => ∃ (i : Nat) (o : Value), o = ov ∧ i ≤ l.length ∧ iv = .int .i64 (i : Nat) ∧ wr.ownsRow w1.heap.size 3 1 o (endsL (l.take i) rule).length (icells (endsL (l.take i) rule)) ∧ ChkM w (k : Int) (.slice a l.length cap) wr ∧ w1.heap.size ≤ wr.heap.size) (fun _ iv _ => l.length - (intOf iv).toNat)
      case atStart => exact ⟨0, _, rfl, by omega, rfl, World.ownsRow_nil _ _ _ _, HM1.out, Nat.le_refl _⟩
      case round =>
        obtain ⟨i, ov, rfl, hii, rfl, hown, hM, hsz⟩ := hrel
        have HO := Lib.hid hown
        have HCM := Lib.hid hM
        have i0 : (0 : Int) ≤ (i : Int) := by omega
        obtain ⟨c0, c1⟩ := hM.plan.cells
        by_cases hlt : i < l.length
        · have i1 : (i : Int) < (l.length : Int) := by omega
          obtain ⟨g, o, rfl, hg, q0, q1, q2⟩ := HV.out.at hlt
          have d0 := (hM.bel.cell (p := ⟨g, o + i * 3, none⟩) hg).trans q0
          have d1 := (hM.bel.cell (p := ⟨g, o + i * 3 + 1, none⟩) hg).trans q1
          have d2 := (hM.bel.cell (p := ⟨g, o + i * 3 + 2, none⟩) hg).trans q2
          have hx := HG.out.chain.all i hlt
          have HT1 := Lib.hid (fun e => endsL_yes (rule := rule) hlt e)
          have HT2 := Lib.hid (fun e => endsL_no (rule := rule) hlt e)
          have hlen : (endsL (l.take i) rule).length ≤ i := Nat.le_trans (endsL_len _ _) (by simp; omega)
          generalize (endsL (l.take i) rule) = ns at *
          generalize l[i].1 = x at *
          generalize l[i].2.1 = f at *
          generalize l[i].2.2 = m at *
          obtain ⟨b1, b2, b3, b4, b5⟩ := hx
          clear hown hM q0 q1 q2
          cases hr : (x == rule)
          · have HR := Lib.hid hr
            clear d1 d2
            go_wp2_with fail
            exact ⟨⟨i + 1, ov, rfl, by omega, by go_num, by rw [HT2.out HR.out]; exact HO.out, HCM.out, hsz⟩, by simp [intOf]; omega⟩
          · have HR := Lib.hid hr
            clear hr
            have hr := HR.out
            have ws : IntKind.i64.wrap (f + m) = f + m := IntWalk.i64_in _ (by omega)
            have wd : IntKind.i64.wrap (f + m - 1) = f + m - 1 := IntWalk.i64_in _ (by omega)
            have a1 : ov.ownBlock ≠ some w.heap.size := fun h => by have := (HO.out.lt _ h).1; omega
            have a2 : ov.ownBlock ≠ some g := fun h => by have := (HO.out.lt _ h).1; omega
            have lg : g < wr.heap.size := by omega
            have lw : w.heap.size < wr.heap.size := by omega
            go_wp2_with fail
            clear hr d0
            go_region_held3 (fun w' => w'.cell? ⟨w.heap.size, 1, none⟩ = some (.slice (some ⟨g, o, none⟩) l.length cap) ∧ w'.cell? ⟨g, o + i * 3 + 1, none⟩ = some (.int .i64 f) ∧ w'.cell? ⟨g, o + i * 3 + 2, none⟩ = some (.int .i64 m))
              (first
                | go_keep
                | (go_split_ands
                   refine ⟨?_, ?_, ?_⟩
                   · (rw [hgrow.cell_far _ (by simp; omega) (Ne.symm a1)]; assumption)
                   · (rw [hgrow.cell_far _ (by simp; omega) (Ne.symm a2)]; assumption)
                   · (rw [hgrow.cell_far _ (by simp; omega) (Ne.symm a2)]; assumption)))
              ((refine step_append_lies _ (by rfl) _ _ _ (by rfl) w1.heap.size 3 ti _ 1 8 Try.underlying66 hi hz0 hz1 hz2 rfl (by omega) ov ns.length (icells ns) (by rfl) ((HO.out.alloc _).drew) ⟨wr.heap.size, 0, none⟩ 1 1 [.int .i64 (f + m - 1)] (by rfl) (by rfl) (World.news_of_block (cs := #[.int .i64 (f + m - 1)]) (t := 3) (fr := (0, 0)) (heap_alloc_new wr _)) (by simp [Value.oneCell']) (by omega) (by unfold maxLen; omega) (by omega) (by simp; omega) (wr.heap.size + 1) (by simp) ?_; intro gg capg w4 hown1 hgrow hat hlt2))
            have bg : Below w1.heap.size wr w4 := (((Below.refl _ wr).alloc (by omega) _).drew).grown hgrow (by simp; omega) fun q e => (HO.out.lt q e).1
            have BG := Lib.hid bg
            have HO4 := Lib.hid hown1
            clear bg hown1 hgrow hat a1 a2
            go_wp2_with fail
            exact ⟨⟨i + 1, _, rfl, by omega, by go_num, by rw [HT1.out HR.out, icells_snoc, List.length_append]; exact HO4.out, ⟨HCM.out.plan.below BG.out hw1, HCM.out.bel.trans (BG.out.mono (Nat.le_of_lt hw1))⟩, by have := BG.out.size; omega⟩, by simp [intOf]; omega⟩
        · obtain rfl : i = l.length := by omega
          have i1 : ¬ (l.length : Int) < (l.length : Int) := by omega
          rw [List.take_length] at HO
          obtain ⟨oa, oc, rfl⟩ := row_forms HO.out
          have HI : Hid (Ints wr (.slice oa (endsL l rule).length oc) (endsL l rule)) := Lib.hid (Row.of_owns HO.out)
          generalize hN : (endsL l rule).length = N at *
          clear hN
          clear hown hM hlt
          go_wp2_with fail
          have K3 := of_r2 k _ _ _ HI.out k1 k4 HIN.out
          with_reducible refine K3.mono ?_
          clear K3
          rintro e w3 ⟨v3, rfl, hU, hb3⟩
          have HU := Lib.hid hU
          have HB3 := Lib.hid (next HCM.out.bel hb3)
          clear hU hb3 c0 c1
          go_wp2_with fail
          go_ret2
          exact show RowP _ _ _ _ from ⟨_, rfl, HU.out, HB3.out⟩
  · rw [if_pos h0] at hV
    rw [show rulesV W l = 0 by unfold rulesV; rw [if_neg h0]] at K1
    have e1 : ((checkV W l).2 != 0) = true := bne_iff_ne.2 h0
    have e2 : ((checkV W l).2 == 0) = false := beq_eq_false_iff_ne.2 h0
    generalize (checkV W l).2 = E at *
    subst hV
    clear h0
    go_enter Try.func28, Try.ntmps28
    go_wp2_with fail
    refine (K1.out _ (HV.out.below HM.out.bel)).mono ?_
    rintro e w1 ⟨rfl, hb⟩
    have HM1 := Lib.hid (HM.out.keep hb rfl)
    clear c0 c1 hb
    go_wp2_with fail
    go_ret2
    exact show RowP _ _ _ _ from ⟨_, rfl, URow.nil _ _, HM1.out.bel⟩
end Go.Proofs.Ytghdgenlkbocmaa
