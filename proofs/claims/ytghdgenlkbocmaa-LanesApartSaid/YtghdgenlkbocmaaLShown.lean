/- Layer 17, the law's shown. -/
import Derived.Test.YtghdgenlkbocmaaLRowR
import Derived.Test.YtghdgenlkbocmaaLEndsR
import Derived.Test.YtghdgenlkbocmaaLFindR
import Derived.Test.YtghdgenlkbocmaaLEx
import Derived.Deep.RegionHeld3
namespace Go.Proofs.Ytghdgenlkbocmaa
open Go.RowKit

set_option maxRecDepth 100000 in
set_option maxHeartbeats 1000000 in
theorem has_l (v u : Value) (ones : List Int) (w : World) (hv : URow w v 1 (ofI ones)) (hu : Ints w u ones) (hin : Within 1 ones) :
    Calls Try.prog 36 #[v, .int .i64 0, u] w fun e w' => e = .returned (.bool true) ∧ Below w.heap.size w w' := by
  obtain ⟨a, cap, rfl⟩ := hv.form
  obtain ⟨a2, cap2, rfl⟩ := hu.form
  have HV := Lib.hid hv
  have HU := Lib.hid hu
  have HI := Lib.hid hin
  clear hv hu hin
  go_enter Try.func36, Try.ntmps36
  go_wp2_with fail
  have K3 := of_r2 1 _ _ _ HU.out (by omega) (by omega) HI.out
  rw [show ((1 : Nat) : Int) = 1 from rfl] at K3
  with_reducible refine K3.mono ?_
  clear K3
  rintro e w1 ⟨v1, rfl, hU, hb⟩
  have HU1 := Lib.hid hU
  have HB := Lib.hid hb
  clear hU hb
  go_wp2_with fail
  refine (sameRow_r _ _ 1 _ _ (HV.out.below HB.out) HU1.out).mono ?_
  rintro e w2 ⟨rfl, hb⟩
  have HB2 := Lib.hid (next HB.out hb)
  clear hb
  go_wp2_with fail
  go_ret
  exact ⟨rfl, HB2.out⟩

def exL : List Ln := [(0, 0, 2), (0, 2, 1), (1, 3, 3)]
theorem ex_narrow : Narrow exR := ⟨Nat.le_of_ble_eq_true rfl, fun i hi => match i, hi with
  | 0, _ => ⟨Nat.le_of_ble_eq_true rfl, fun k hk => match k, hk with
    | 0, _ => Nat.le_of_ble_eq_true rfl
    | 1, _ => Nat.le_of_ble_eq_true rfl⟩
  | 1, _ => ⟨Nat.le_of_ble_eq_true rfl, fun k hk => match k, hk with
    | 0, _ => Nat.le_of_ble_eq_true rfl⟩⟩
theorem ex_pack : packV exR = (1, exL, 0, 0) := by decide +kernel
theorem ex_check : checkV 1 exL = (0, 0) := by decide +kernel
theorem ex_starts : startsV 1 exL = (1, ofI [0, 2, 3], 0) := by unfold startsV; rw [ex_check]; rfl
theorem ex_ends0 : endsV 1 exL 0 = (1, ofI [1, 2], 0) := by unfold endsV; rw [ex_check]; rfl
theorem ex_ends1 : endsV 1 exL 1 = (1, ofI [5], 0) := by unfold endsV; rw [ex_check]; rfl
theorem ex_find : findV 1 exL 4 = (2, 1, 0) := by decide +kernel
theorem ex_row : rowV 1 exL exR 99 = (1, ofI [2], 0) := by
  unfold rowV
  rw [ex_check, ex_pack, if_neg (by decide), if_neg (by simp)]
  have : spotsTo exR.flatten.flatten 99 exR.flatten.flatten.length = [2] := by decide +kernel
  rw [this]
  rfl
theorem Ints.lit (W : World) (t : TypeId) (l : List Int) (hm : l.length ≤ maxLen) : Ints (W.alloc (.cells (icells l).toArray t)) (.slice (some ⟨W.heap.size, 0, none⟩) l.length l.length) l :=
  Row.lit W t 1 l.length (icells l) (by simp [icells]) hm
theorem Lanes.lit (W : World) (t : TypeId) (l : List Ln) (hm : l.length ≤ maxLen) : Lanes (W.alloc (.cells (lcells l).toArray t)) (.slice (some ⟨W.heap.size, 0, none⟩) l.length l.length) l :=
  Row.lit W t 3 l.length (lcells l) (length_lcells l) hm

theorem within_of {k : Nat} {l : List Int} (h : l.all (fun x => decide (0 ≤ x ∧ x < 64 * (k : Int))) = true) : Within k l := fun i hi => by
  have := List.all_eq_true.1 h l[i] (List.getElem_mem hi)
  exact of_decide_eq_true this
theorem in3 : Within 1 [0, 2, 3] := within_of (by decide)
theorem in2 : Within 1 [1, 2] := within_of (by decide)
theorem in5 : Within 1 [5] := within_of (by decide)
theorem in22 : Within 1 [2] := within_of (by decide)

/-- the memory of shown: the plan -/
structure SM (w : World) (P : Nat) (v : Value) (wr : World) : Prop where
  plan : PAt wr P (.int .i64 1) v
  lanes : Lanes wr v exL
  bel : Below w.heap.size w wr
theorem SM.keep {w wr w' : World} {P N : Nat} {v : Value} (h : SM w P v wr) (hb : Below N wr w') (hN : N = wr.heap.size) : SM w P v w' := by
  subst hN
  exact ⟨h.plan.below hb h.plan.lt, h.lanes.below hb, h.bel.trans (hb.mono h.bel.size)⟩
theorem SM.alloc {w wr : World} {P : Nat} {v : Value} (h : SM w P v wr) (o : Obj) : SM w P v (wr.alloc o) := h.keep (al _ _) rfl

set_option maxRecDepth 100000 in
set_option maxHeartbeats 8000000 in
theorem shown_r (w : World) : Calls Try.prog 10 #[] w fun e w' => e = .returned (.bool true) ∧ Below w.heap.size w w' := by
  have Kp := Lib.hid (fun u w h => pack_p u exR w h ex_narrow)
  rw [ex_pack] at Kp
  have Ks := Lib.hid (fun v w h => starts_p 1 v exL w h)
  rw [ex_starts] at Ks
  have Ke0 := Lib.hid (fun v w h => ends_p 1 0 v exL w h)
  rw [ex_ends0] at Ke0
  have Ke1 := Lib.hid (fun v w h => ends_p 1 1 v exL w h)
  rw [ex_ends1] at Ke1
  have Kf := Lib.hid (fun v w h => find_p 1 4 v exL w h)
  rw [ex_find] at Kf
  have Kr := Lib.hid (fun v u w h h2 => row_p 1 v u exL exR 99 w h h2 ex_narrow (by omega))
  rw [ex_row, show ((99 : Nat) : Int) = 99 from rfl] at Kr
  have KS := Lib.hid (fun u v w h h2 => same_r 1 1 u v exL exL w h h2)
  rw [decide_eq_true (show (1 : Int) = 1 ∧ exL = exL from ⟨rfl, rfl⟩)] at KS
  go_enter Try.func10, Try.ntmps10
  go_wp2_with fail
  refine (example_r _).mono ?_
  rintro e w1 ⟨vx, rfl, hX, hb⟩
  have HX := Lib.hid hX
  have HB := Lib.hid hb
  clear hX hb
  go_wp2_with fail
  have K := Kp.out _ _ HX.out
  with_reducible refine K.mono ?_
  clear K
  rintro e w2 ⟨vp, rfl, hL, hb⟩
  obtain ⟨pa, pc, rfl⟩ := hL.form
  have HS : Hid (SM w w2.heap.size (.slice pa exL.length pc) (w2.alloc (.cells #[.int .i64 1, .slice pa exL.length pc] 27))) := Lib.hid ⟨PAt.new _ _ _, hL.below (al _ _), next (next HB.out hb) (al _ _)⟩
  have HLw : Hid (Lanes (((w2.alloc (.cells #[.int .i64 1, .slice pa exL.length pc] 27)).alloc (.cells #[.int .i64 0, .int .i64 0, .int .i64 2, .int .i64 0, .int .i64 2, .int .i64 1, .int .i64 1, .int .i64 3, .int .i64 3] 55)).alloc (.cells #[.int .i64 1, .slice (some ⟨w2.heap.size + 1, 0, none⟩) 3 3] 27)) (.slice (some ⟨w2.heap.size + 1, 0, none⟩) 3 3) exL) := Lib.hid (by
    have h := Lanes.lit (w2.alloc (.cells #[.int .i64 1, .slice pa exL.length pc] 27)) 55 exL (by unfold maxLen exL; simp)
    rw [World.size_alloc] at h
    exact h.below (al _ _))
  clear hL hb
  replace HS := Lib.hid ((HS.out.alloc (.cells #[.int .i64 0, .int .i64 0, .int .i64 2, .int .i64 0, .int .i64 2, .int .i64 1, .int .i64 1, .int .i64 3, .int .i64 3] 55)).alloc (.cells #[.int .i64 1, .slice (some ⟨w2.heap.size + 1, 0, none⟩) 3 3] 27))
  go_wp2_with fail
  have K := KS.out _ _ _ HS.out.lanes HLw.out
  with_reducible refine K.mono ?_
  clear K
  rintro e w3 ⟨rfl, hb⟩
  replace HS := Lib.hid (HS.out.keep hb rfl)
  clear hb HLw
  obtain ⟨c0, c1⟩ := HS.out.plan.cells
  go_wp2_with fail
  have K := Ks.out _ _ HS.out.lanes
  with_reducible refine K.mono ?_
  clear K
  rintro e w4 ⟨va, rfl, hU, hb⟩
  have Hva := Lib.hid hU
  replace HS := Lib.hid (HS.out.keep hb rfl)
  clear hU hb c0 c1
  obtain ⟨c0, c1⟩ := HS.out.plan.cells
  go_wp2_with fail
  have K := Ke0.out _ _ HS.out.lanes
  with_reducible refine K.mono ?_
  clear K
  rintro e w5 ⟨vb, rfl, hU, hb⟩
  have Hvb := Lib.hid hU
  replace Hva := Lib.hid (Hva.out.below hb)
  replace HS := Lib.hid (HS.out.keep hb rfl)
  clear hU hb c0 c1
  obtain ⟨c0, c1⟩ := HS.out.plan.cells
  go_wp2_with fail
  have K := Ke1.out _ _ HS.out.lanes
  with_reducible refine K.mono ?_
  clear K
  rintro e w6 ⟨vc, rfl, hU, hb⟩
  have Hvc := Lib.hid hU
  replace Hva := Lib.hid (Hva.out.below hb)
  replace Hvb := Lib.hid (Hvb.out.below hb)
  replace HS := Lib.hid (HS.out.keep hb rfl)
  clear hU hb c0 c1
  obtain ⟨c0, c1⟩ := HS.out.plan.cells
  go_wp2_with fail
  have K := Kf.out _ _ HS.out.lanes
  with_reducible refine K.mono ?_
  clear K
  rintro e w7 ⟨rfl, hb⟩
  replace Hva := Lib.hid (Hva.out.below hb)
  replace Hvb := Lib.hid (Hvb.out.below hb)
  replace Hvc := Lib.hid (Hvc.out.below hb)
  replace HS := Lib.hid (HS.out.keep hb rfl)
  clear hb c0 c1
  obtain ⟨c0, c1⟩ := HS.out.plan.cells
  have hlt := HS.out.plan.lt
  go_wp2_with fail
  go_region_held3 (fun w' => w'.cell? ⟨w2.heap.size, 0, none⟩ = some (.int .i64 1) ∧ w'.cell? ⟨w2.heap.size, 1, none⟩ = some (.slice pa exL.length pc)) (go_keep) (first | (go_at_call 35; refine (example_r _).mono ?_; rintro e w8 ⟨vx8, rfl, hX8, hb8⟩; have HX8 := Lib.hid hX8; have HS8 := Lib.hid ((HS.out.keep ((Below.refl _ _).drew) rfl).keep hb8 rfl); have HB8 := Lib.hid hb8; clear hX8 hb8 c0 c1; obtain ⟨c0, c1⟩ := HS8.out.plan.cells) | (go_at_call 14; have K := Kr.out _ _ _ HS8.out.lanes HX8.out; (with_reducible refine K.mono ?_); clear K; rintro e w9 ⟨v9, rfl, hU9, hb9⟩; have HU9 := Lib.hid hU9; have HS9 := Lib.hid (HS8.out.keep hb9 rfl); have HB9 := Lib.hid hb9; clear hU9 hb9 c0 c1; obtain ⟨c0, c1⟩ := HS9.out.plan.cells))
  clear c0 c1
  have hbb : Below w7.heap.size w7 w9 := next (next ((Below.refl _ w7).drew) HB8.out) HB9.out
  replace Hva := Lib.hid (Hva.out.below hbb)
  replace Hvb := Lib.hid (Hvb.out.below hbb)
  replace Hvc := Lib.hid (Hvc.out.below hbb)
  have HB := Lib.hid HS9.out.bel
  clear hbb HS8 HS HX8 HB8 HB9 hlt
  have HI1 : Hid (Ints (w9.alloc (.cells #[.int .i64 0, .int .i64 2, .int .i64 3] 3)) (.slice (some ⟨w9.heap.size, 0, none⟩) 3 3) [0, 2, 3]) := Lib.hid (Ints.lit w9 3 [0, 2, 3] (by unfold maxLen; simp))
  go_wp2_with fail
  have K := has_l _ (.slice (some ⟨w9.heap.size, 0, none⟩) 3 3) [0, 2, 3] (w9.alloc (.cells #[.int .i64 0, .int .i64 2, .int .i64 3] 3)) (Hva.out.below (al _ _)) HI1.out in3
  with_reducible refine K.mono ?_
  clear K
  rintro e wa ⟨rfl, hb⟩
  have hb1 : Below w9.heap.size w9 wa := next (al _ _) hb
  replace Hvb := Lib.hid (Hvb.out.below hb1)
  replace Hvc := Lib.hid (Hvc.out.below hb1)
  replace HU9 := Lib.hid (HU9.out.below hb1)
  replace HB := Lib.hid (next HB.out hb1)
  clear hb hb1
  clear HI1
  have HI1 : Hid (Ints (wa.alloc (.cells #[.int .i64 1, .int .i64 2] 3)) (.slice (some ⟨wa.heap.size, 0, none⟩) 2 2) [1, 2]) := Lib.hid (Ints.lit wa 3 [1, 2] (by unfold maxLen; simp))
  go_wp2_with fail
  have K := has_l _ (.slice (some ⟨wa.heap.size, 0, none⟩) 2 2) [1, 2] (wa.alloc (.cells #[.int .i64 1, .int .i64 2] 3)) (Hvb.out.below (al _ _)) HI1.out in2
  with_reducible refine K.mono ?_
  clear K
  rintro e wb ⟨rfl, hb⟩
  have hb1 : Below wa.heap.size wa wb := next (al _ _) hb
  replace Hvc := Lib.hid (Hvc.out.below hb1)
  replace HU9 := Lib.hid (HU9.out.below hb1)
  replace HB := Lib.hid (next HB.out hb1)
  clear hb hb1
  clear HI1
  have HI1 : Hid (Ints (wb.alloc (.cells #[.int .i64 5] 3)) (.slice (some ⟨wb.heap.size, 0, none⟩) 1 1) [5]) := Lib.hid (Ints.lit wb 3 [5] (by unfold maxLen; simp))
  go_wp2_with fail
  have K := has_l _ (.slice (some ⟨wb.heap.size, 0, none⟩) 1 1) [5] (wb.alloc (.cells #[.int .i64 5] 3)) (Hvc.out.below (al _ _)) HI1.out in5
  with_reducible refine K.mono ?_
  clear K
  rintro e wc ⟨rfl, hb⟩
  have hb1 : Below wb.heap.size wb wc := next (al _ _) hb
  replace HU9 := Lib.hid (HU9.out.below hb1)
  replace HB := Lib.hid (next HB.out hb1)
  clear hb hb1
  clear HI1
  have HI1 : Hid (Ints (wc.alloc (.cells #[.int .i64 2] 3)) (.slice (some ⟨wc.heap.size, 0, none⟩) 1 1) [2]) := Lib.hid (Ints.lit wc 3 [2] (by unfold maxLen; simp))
  go_wp2_with fail
  have K := has_l _ (.slice (some ⟨wc.heap.size, 0, none⟩) 1 1) [2] (wc.alloc (.cells #[.int .i64 2] 3)) (HU9.out.below (al _ _)) HI1.out in22
  with_reducible refine K.mono ?_
  clear K
  rintro e wd ⟨rfl, hb⟩
  have hb1 : Below wc.heap.size wc wd := next (al _ _) hb
  replace HB := Lib.hid (next HB.out hb1)
  clear hb hb1
  clear HI1
  go_wp2_with fail
  go_ret
  exact ⟨rfl, HB.out⟩
end Go.Proofs.Ytghdgenlkbocmaa
