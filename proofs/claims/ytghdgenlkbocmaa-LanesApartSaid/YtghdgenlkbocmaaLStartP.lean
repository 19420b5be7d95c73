/- Layer 17, the program: Starts. -/
import Derived.Test.YtghdgenlkbocmaaLStart
namespace Go.Proofs.Ytghdgenlkbocmaa
open Go.RowKit

theorem Good.ends {W : Int} {l : List Ln} (h : Good W l) {i : Nat} (hi : i < l.length) : l[i].2.1 + l[i].2.2 ≤ (lastL l).2.1 + (lastL l).2.2 := by
  obtain ⟨k, hk⟩ : ∃ k, l.length = k + 1 := ⟨l.length - 1, by omega⟩
  rw [lastL_at hk]
  rcases Nat.lt_or_ge i k with h1 | h1
  · have := h.lt h1 (by omega)
    have := (h.chain.all k (by omega)).1
    omega
  · have : i = k := by omega
    subst this
    omega
theorem Good.nat {W : Int} {l : List Ln} (h : Good W l) : ∃ k : Nat, W = (k : Int) ∧ 1 ≤ k ∧ k ≤ 4 ∧ (lastL l).2.1 + (lastL l).2.2 ≤ 64 * (k : Int) := by
  obtain ⟨m1, m2, m3, m4, m5⟩ := h.last
  have := wordsV_bd (n := (lastL l).2.1 + (lastL l).2.2) (by omega) m5
  rw [← h.words] at this
  exact ⟨W.toNat, by omega, by omega, by omega, by omega⟩

def RowP (r : Nat × CSet × Int) (w : World) (e : Ending) (w' : World) : Prop :=
  ∃ v, e = .returned (.tuple #[v, .int .i64 r.2.2]) ∧ URow w' v r.1 r.2.1 ∧ Below w.heap.size w w'
def startsV (W : Int) (l : List Ln) : Nat × CSet × Int := if (checkV W l).2 ≠ 0 then (0, 0#256, (checkV W l).2) else (W.toNat, ofI (l.map (·.2.1)), 0)
theorem starts_in {W : Int} {l : List Ln} (h : Good W l) {k : Nat} (hk : (lastL l).2.1 + (lastL l).2.2 ≤ 64 * (k : Int)) : Within k (l.map (·.2.1)) := by
  intro i hi
  have hi' : i < l.length := by simpa using hi
  have h1 := h.ends hi'
  have h2 := h.chain.all i hi'
  rw [List.getElem_map]
  omega
theorem EM.start {w w1 : World} {W : Int} {v : Value} (h : ChkM w W v w1) :
    EM w W v w1.heap.size [] ((w1.alloc (.cells #[.slice none 0 0] 68)).alloc (.cells #[.func (.func 43) #[.pointer (some ⟨w1.heap.size, 0, none⟩)] #[]] 70)) := by
  have h1 := heap_alloc_new (w1.alloc (.cells #[.slice none 0 0] 68)) (.cells #[.func (.func 43) #[.pointer (some ⟨w1.heap.size, 0, none⟩)] #[]] 70)
  rw [World.size_alloc] at h1
  exact ⟨((h.alloc _).alloc _).plan, ⟨⟨by omega, by simp⟩, _, (Below.heap_alloc _ _ _ (by simp)).trans (heap_alloc_new _ _), World.ownsRow_nil _ _ _ _⟩, h1, h.plan.lt, ((h.alloc _).alloc _).bel⟩
theorem EM.row {w wr : World} {W : Int} {v : Value} {R : Nat} {ns : List Int} (h : EM w W v R ns wr) : ∃ a cap, wr.cell? ⟨R, 0, none⟩ = some (.slice a ns.length cap) ∧ Ints wr (.slice a ns.length cap) ns := by
  obtain ⟨_, ov, h1, h2⟩ := h.ones
  obtain ⟨a, cap, rfl⟩ := row_forms h2
  exact ⟨a, cap, by simp [World.cell?, h1], Row.of_owns h2⟩

set_option maxRecDepth 100000 in
set_option maxHeartbeats 2000000 in
theorem starts_p (W : Int) (v : Value) (l : List Ln) (w : World) (hv : Lanes w v l) : Calls Try.prog 25 #[.agg #[.int .i64 W, v]] w (RowP (startsV W l) w) := by
  have K1 := Lib.hid (fun w h => check_p W v l w h)
  have HM := Lib.hid (ChkM.start w W v)
  have HV := Lib.hid hv
  obtain ⟨V, hV⟩ : ∃ V, V = startsV W l := ⟨_, rfl⟩
  rw [← hV]
  unfold startsV at hV
  obtain ⟨a, cap, rfl⟩ := hv.form
  obtain ⟨c0, c1⟩ := HM.out.plan.cells
  clear hv
  by_cases h0 : (checkV W l).2 = 0
  · have hG := good_of h0
    rw [if_neg (fun h => h h0)] at hV
    rw [check_zero h0] at K1
    have HG := Lib.hid hG
    obtain ⟨k, hk, k1, k4, hend⟩ := hG.nat
    have HIN := Lib.hid (starts_in hG hend)
    have hs := hG.short
    rw [hk, Int.toNat_natCast] at hV
    subst hk
    subst hV
    clear h0 hG hend
    go_enter Try.func25, Try.ntmps25
    go_wp2_with fail
    refine (K1.out _ (HV.out.below HM.out.bel)).mono ?_
    rintro e w1 ⟨rfl, hb⟩
    have HM1 := Lib.hid (HM.out.keep hb rfl)
    clear c0 c1 hb
    have HE := Lib.hid (EM.start HM1.out)
    obtain ⟨c0, c1⟩ := HM1.out.plan.cells
    have hw1 : w.heap.size < w1.heap.size := HM1.out.plan.lt
    go_wp2_with fail
    have K2 := eachStart_p w (k : Int) (.slice a l.length cap) l w1.heap.size _ HV.out HG.out HE.out
    with_reducible refine K2.mono ?_
    clear K2
    rintro e w2 ⟨rfl, hE⟩
    have HE2 := Lib.hid hE
    clear c0 c1
    obtain ⟨c0, c1⟩ := hE.plan.cells
    obtain ⟨oa, oc, r0, hI⟩ := hE.row
    rw [List.length_map] at r0 hI
    have HI := Lib.hid hI
    clear hE hI
    go_wp2_with fail
    refine (of_p k _ _ _ HI.out k1 k4 HIN.out).mono ?_
    rintro e w3 ⟨v3, rfl, hU, hb3⟩
    have HU := Lib.hid hU
    have HB3 := Lib.hid (next HE2.out.bel hb3)
    clear hU hb3 c0 c1 r0
    go_wp2_with fail
    go_ret2
    exact show RowP _ _ _ _ from ⟨_, rfl, HU.out, HB3.out⟩
  · rw [if_pos h0] at hV
    have e1 : ((checkV W l).2 != 0) = true := bne_iff_ne.2 h0
    generalize checkV W l = E at *
    subst hV
    clear h0
    go_enter Try.func25, Try.ntmps25
    go_wp2_with fail
    refine (K1.out _ (HV.out.below HM.out.bel)).mono ?_
    rintro e w1 ⟨rfl, hb⟩
    have HM1 := Lib.hid (HM.out.keep hb rfl)
    clear c0 c1 hb
    go_wp2_with fail
    go_ret2
    exact show RowP _ _ _ _ from ⟨_, rfl, URow.nil _ _, HM1.out.bel⟩
end Go.Proofs.Ytghdgenlkbocmaa
