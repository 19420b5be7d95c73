/- Layer 17, the program: Ends. -/
import Derived.Test.YtghdgenlkbocmaaLEnds
namespace Go.Proofs.Ytghdgenlkbocmaa
open Go.RowKit

def endsV (W : Int) (l : List Ln) (rule : Int) : Nat × CSet × Int :=
  if (checkV W l).2 ≠ 0 then (0, 0#256, (checkV W l).2) else if rule < 0 ∨ (lastL l).1 + 1 ≤ rule then (0, 0#256, 4) else (W.toNat, ofI (endsL l rule), 0)
theorem ends_in {W : Int} {l : List Ln} (h : Good W l) {k : Nat} (hk : (lastL l).2.1 + (lastL l).2.2 ≤ 64 * (k : Int)) (rule : Int) : Within k (endsL l rule) := by
  intro i hi
  have hm : (endsL l rule)[i] ∈ endsL l rule := List.getElem_mem hi
  unfold endsL at hm
  obtain ⟨x, hx, e⟩ := List.mem_map.1 hm
  obtain ⟨j, hj, rfl⟩ := List.mem_iff_getElem.1 (List.mem_filter.1 hx).1
  have h1 := h.ends hj
  have h2 := h.chain.all j hj
  have e' : (endsL l rule)[i] = l[j].2.1 + l[j].2.2 - 1 := e.symm
  rw [e']
  omega
theorem EN.start {w w1 : World} {W rule : Int} {v : Value} (h : FM w W rule v w1) :
    EN w W rule v w1.heap.size [] ((w1.alloc (.cells #[.slice none 0 0] 68)).alloc (.cells #[.func (.func 43) #[.pointer (some ⟨w1.heap.size, 0, none⟩)] #[]] 70)) := by
  have a2 := (h.keep ((Below.refl _ _).alloc (Nat.le_refl _) (.cells #[.slice none 0 0] 68)) rfl).keep ((Below.refl _ _).alloc (Nat.le_refl _) (.cells #[.func (.func 43) #[.pointer (some ⟨w1.heap.size, 0, none⟩)] #[]] 70)) rfl
  exact ⟨EM.start ⟨h.one, h.bel⟩, a2.two, h.lt⟩

set_option maxRecDepth 100000 in
set_option maxHeartbeats 4000000 in
theorem ends_p (W rule : Int) (v : Value) (l : List Ln) (w : World) (hv : Lanes w v l) : Calls Try.prog 27 #[.agg #[.int .i64 W, v], .int .i64 rule] w (RowP (endsV W l rule) w) := by
  have K1 := Lib.hid (fun w h => rules_p W v l w h)
  have HM := Lib.hid (FM.start w W rule v)
  have HV := Lib.hid hv
  obtain ⟨V, hV⟩ : ∃ V, V = endsV W l rule := ⟨_, rfl⟩
  rw [← hV]
  unfold endsV at hV
  obtain ⟨a, cap, rfl⟩ := hv.form
  obtain ⟨c0, c1, c2⟩ := HM.out.cells
  clear hv
  by_cases h0 : (checkV W l).2 = 0
  · have hG := good_of h0
    rw [if_neg (fun h => h h0)] at hV
    rw [show rulesV W l = (lastL l).1 + 1 by unfold rulesV; rw [if_pos h0], h0] at K1
    have HG := Lib.hid hG
    obtain ⟨k, hk, k1, k4, hend⟩ := hG.nat
    obtain ⟨m1, m2, m3, m4, m5⟩ := hG.last
    have HIN := Lib.hid (ends_in hG hend rule)
    have hs := hG.short
    have hel := endsL_len l rule
    rw [hk, Int.toNat_natCast] at hV
    subst hk
    generalize hn : (lastL l).1 + 1 = n at *
    have n0 : 1 ≤ n := by omega
    clear h0 hG hend hn
    by_cases hp : rule < 0 ∨ n ≤ rule
    · rw [if_pos hp] at hV
      subst hV
      rcases hp with hp | hp
      · go_enter Try.func27, Try.ntmps27
        go_wp2_with fail
        refine (K1.out _ (HV.out.below HM.out.bel)).mono ?_
        rintro e w1 ⟨rfl, hb⟩
        have HM1 := Lib.hid (HM.out.keep hb rfl)
        clear c0 c1 c2 hb
        obtain ⟨c0, c1, c2⟩ := HM1.out.cells
        go_wp2_with fail
        go_ret2
        exact show RowP _ _ _ _ from ⟨_, rfl, URow.nil _ _, HM1.out.bel⟩
      · have hp2 : ¬ rule < 0 := by omega
        go_enter Try.func27, Try.ntmps27
        go_wp2_with fail
        refine (K1.out _ (HV.out.below HM.out.bel)).mono ?_
        rintro e w1 ⟨rfl, hb⟩
        have HM1 := Lib.hid (HM.out.keep hb rfl)
        clear c0 c1 c2 hb
        obtain ⟨c0, c1, c2⟩ := HM1.out.cells
        go_wp2_with fail
        go_ret2
        exact show RowP _ _ _ _ from ⟨_, rfl, URow.nil _ _, HM1.out.bel⟩
    · rw [if_neg hp] at hV
      have hp1 : ¬ rule < 0 := by omega
      have hp2 : ¬ n ≤ rule := by omega
      subst hV
      clear hp
      go_enter Try.func27, Try.ntmps27
      go_wp2_with fail
      refine (K1.out _ (HV.out.below HM.out.bel)).mono ?_
      rintro e w1 ⟨rfl, hb⟩
      have HM1 := Lib.hid (HM.out.keep hb rfl)
      clear c0 c1 c2 hb
      have HE := Lib.hid (EN.start HM1.out)
      obtain ⟨c0, c1, c2⟩ := HM1.out.cells
      have hw1 : w.heap.size + 1 < w1.heap.size := HM1.out.lt
      have hw2 : w.heap.size < w1.heap.size := by omega
      go_wp2_with fail
      have K2 := eachEnd_p w (k : Int) rule (.slice a l.length cap) l w1.heap.size _ HV.out HG.out HE.out
      with_reducible refine K2.mono ?_
      clear K2
      rintro e w2 ⟨rfl, hE⟩
      have HE2 := Lib.hid hE
      clear c0 c1 c2
      obtain ⟨c0, c1⟩ := hE.em.plan.cells
      obtain ⟨oa, oc, r0, hI⟩ := hE.em.row
      have HI := Lib.hid hI
      generalize (endsL l rule).length = N at *
      clear hE hI
      go_wp2_with fail
      have K3 := of_p k _ _ _ HI.out k1 k4 HIN.out
      with_reducible refine K3.mono ?_
      clear K3
      rintro e w3 ⟨v3, rfl, hU, hb3⟩
      have HU := Lib.hid hU
      have HB3 := Lib.hid (next HE2.out.em.bel hb3)
      clear hU hb3 c0 c1 r0
      go_wp2_with fail
      go_ret2
      exact show RowP _ _ _ _ from ⟨_, rfl, HU.out, HB3.out⟩
  · rw [if_pos h0] at hV
    rw [show rulesV W l = 0 by unfold rulesV; rw [if_neg h0]] at K1
    have e1 : ((checkV W l).2 != 0) = true := bne_iff_ne.2 h0
    generalize (checkV W l).2 = E at *
    subst hV
    clear h0
    go_enter Try.func27, Try.ntmps27
    go_wp2_with fail
    refine (K1.out _ (HV.out.below HM.out.bel)).mono ?_
    rintro e w1 ⟨rfl, hb⟩
    have HM1 := Lib.hid (HM.out.keep hb rfl)
    clear c0 c1 c2 hb
    go_wp2_with fail
    go_ret2
    exact show RowP _ _ _ _ from ⟨_, rfl, URow.nil _ _, HM1.out.bel⟩
end Go.Proofs.Ytghdgenlkbocmaa
