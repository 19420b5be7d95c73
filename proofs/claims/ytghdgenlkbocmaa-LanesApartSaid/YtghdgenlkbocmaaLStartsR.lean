/- Layer 17, the reference: Starts, Ends. -/
import Derived.Test.YtghdgenlkbocmaaLEndsP
import Derived.Test.YtghdgenlkbocmaaLOfR
namespace Go.Proofs.Ytghdgenlkbocmaa
open Go.RowKit

set_option maxRecDepth 100000 in
set_option maxHeartbeats 4000000 in
theorem starts_r (W : Int) (v : Value) (l : List Ln) (w : World) (hv : Lanes w v l) : Calls Try.prog 26 #[.agg #[.int .i64 W, v]] w (RowP (startsV W l) w) := by
  have K1 := Lib.hid (fun w h => check_r W v l w h)
  have HM := Lib.hid (ChkM.start w W v)
  have HV := Lib.hid hv
  have hm := Row.max hv
  obtain ⟨ti, hi, hz0, hz1, hz2⟩ := info_parts infoI64
  obtain ⟨V, hV⟩ : ∃ V, V = startsV W l := ⟨_, rfl⟩
  rw [← hV]
  unfold startsV at hV
  obtain ⟨a, cap, rfl⟩ := hv.form
  obtain ⟨c0, c1⟩ := HM.out.plan.cells
  clear hv
  by_cases h0 : (checkV W l).2 = 0
  · have hG := good_of h0
    rw [if_neg (fun h => h h0)] at hV
    rw [check_zero h0] at K1
    have HG := Lib.hid hG
    obtain ⟨k, hk, k1, k4, hend⟩ := hG.nat
    have HIN := Lib.hid (starts_in hG hend)
    have hs := hG.short
    rw [hk, Int.toNat_natCast] at hV
    subst hk
    subst hV
    clear h0 hG hend
    go_enter Try.func26, Try.ntmps26
    go_wp2_with fail
    refine (K1.out _ (HV.out.below HM.out.bel)).mono ?_
    rintro e w1 ⟨rfl, hb⟩
    have HM1 := Lib.hid (HM.out.keep hb rfl)
    clear c0 c1 hb
    have hw1 : w.heap.size < w1.heap.size := HM1.out.plan.lt
    go_wp2_with fail
    go_loopw [6, 7] (fun ov iv wr => ∃ (i : Nat) (o : Value), o = ov ∧ i ≤ l.length ∧ iv = .int .i64 (i : Nat) ∧ wr.ownsRow w1.heap.size 3 1 o i (icells ((l.take i).map (·.2.1))) ∧ ChkM w (k : Int) (.slice a l.length cap) wr ∧ w1.heap.size ≤ wr.heap.size) (fun _ iv _ => l.length - (intOf iv).toNat)
    case atStart => exact ⟨0, _, rfl, by omega, rfl, World.ownsRow_nil _ _ _ _, HM1.out, Nat.le_refl _⟩
    case round =>
      obtain ⟨i, ov, rfl, hii, rfl, hown, hM, hsz⟩ := hrel
      have HO := Lib.hid hown
      have HCM := Lib.hid hM
      have i0 : (0 : Int) ≤ (i : Int) := by omega
      obtain ⟨c0, c1⟩ := hM.plan.cells
      by_cases hlt : i < l.length
      · have i1 : (i : Int) < (l.length : Int) := by omega
        obtain ⟨g, o, rfl, hg, q0, q1, q2⟩ := HV.out.at hlt
        have d1 := (hM.bel.cell (p := ⟨g, o + i * 3 + 1, none⟩) hg).trans q1
        have HT := Lib.hid (take_map (·.2.1) hlt)
        generalize ((l.take i).map (·.2.1)) = ns at *
        generalize l[i].2.1 = f at *
        clear hown hM q0 q1 q2
        go_wp2_with (at_builtin
                     refine wpList_append_own _ rfl _ _ 66 rfl w1.heap.size 3 ti _ 1 8 Try.underlying66 hi hz0 hz1 hz2 rfl (by decide) _ _ _ rfl (HO.out.alloc _) ⟨wr.heap.size, 0, none⟩ 1 1 [.int .i64 f] rfl rfl (cells_new _ _ _) (by simp [Value.oneCell']) (by unfold maxLen; omega) (by omega) (by simp; omega) ?_
                     intro v' w4 hown' hgrow _
                     have bg : Below w1.heap.size wr w4 := ((Below.refl _ wr).alloc (by omega) _).grown hgrow (by simp; omega) fun q e => (HO.out.lt q e).1
                     have BG := Lib.hid bg
                     have HO4 := Lib.hid hown'
                     clear bg hown' hgrow)
        exact ⟨⟨i + 1, _, rfl, by omega, by go_num, by rw [HT.out, icells_snoc]; exact HO4.out, ⟨HCM.out.plan.below BG.out hw1, HCM.out.bel.trans (BG.out.mono (Nat.le_of_lt hw1))⟩, by have := BG.out.size; omega⟩, by simp [intOf]; omega⟩
      · obtain rfl : i = l.length := by omega
        have i1 : ¬ (l.length : Int) < (l.length : Int) := by omega
        rw [List.take_length] at HO
        obtain ⟨oa, oc, rfl⟩ := row_forms HO.out
        have HI : Hid (Ints wr (.slice oa l.length oc) (l.map (·.2.1))) := Lib.hid (by have := Row.of_owns HO.out; unfold Ints; rw [List.length_map]; exact this)
        clear hown hM hlt
        go_wp2_with fail
        have K3 := of_r2 k _ _ _ HI.out k1 k4 HIN.out
        with_reducible refine K3.mono ?_
        clear K3
        rintro e w3 ⟨v3, rfl, hU, hb3⟩
        have HU := Lib.hid hU
        have HB3 := Lib.hid (next HCM.out.bel hb3)
        clear hU hb3 c0 c1
        go_wp2_with fail
        go_ret2
        exact show RowP _ _ _ _ from ⟨_, rfl, HU.out, HB3.out⟩
  · rw [if_pos h0] at hV
    have e1 : ((checkV W l).2 != 0) = true := bne_iff_ne.2 h0
    generalize checkV W l = E at *
    subst hV
    clear h0
    go_enter Try.func26, Try.ntmps26
    go_wp2_with fail
    refine (K1.out _ (HV.out.below HM.out.bel)).mono ?_
    rintro e w1 ⟨rfl, hb⟩
    have HM1 := Lib.hid (HM.out.keep hb rfl)
    clear c0 c1 hb
    go_wp2_with fail
    go_ret2
    exact show RowP _ _ _ _ from ⟨_, rfl, URow.nil _ _, HM1.out.bel⟩
end Go.Proofs.Ytghdgenlkbocmaa
