/- SpreadFits: the law returns true: Fit returns what the reference returns. No conditions. -/
import Derived.Test.YtpjllppbpnkemaaMg8
namespace Go.Proofs.Ytpjllppbpnkemaa.spreadFits
open Go.ChangeShapes Go.WideShapes Go.ChangeAt Go.RowKit

set_option maxRecDepth 100000 in
set_option maxHeartbeats 8000000 in
theorem walkN (v : Value) (L : List (List El)) (w : World) (h : Sets w v L) :
    Calls Try.prog 6 #[v] w fun e w' => e = .returned (.bool true) ∧ Below w.heap.size w w' := by
  have HS := Lib.hid h
  have hmx : L.length ≤ 9223372036854775807 := by have := h.le; unfold maxLen at this; omega
  have K1 := Lib.hid (fun w1 (hb : Below w.heap.size w w1) (hl : L.length ≤ 1000) => fit_p v L w1 (h.below hb) hl)
  have K2 := Lib.hid (fun w1 (hb : Below w.heap.size w w1) (hl : L.length ≤ 1000) (hp : ∀ p ∈ L, p.length ≤ 1000) => fit_r v L w1 (h.below hb) hl hp)
  obtain ⟨a, cap, rfl⟩ := h.form
  unfold FitP at K1 K2
  clear h
  generalize fitV L = V at *
  obtain ⟨V1, V2⟩ := V
  go_enter Try.func6, Try.ntmps6
  go_wp2_with fail
  go_loopw [3] (fun iv wr => ∃ i : Nat, i ≤ L.length ∧ i ≤ 30 ∧ iv = .int .i64 (i : Nat) ∧ (∀ j (hj : j < L.length), j < i → L[j].length ≤ 60) ∧ w = wr) (fun iv _ => L.length - (intOf iv).toNat)
  case atStart => exact ⟨0, by omega, by omega, rfl, fun j _ hj => absurd hj (by omega), rfl⟩
  case round =>
    obtain ⟨i, hi, hi30, rfl, hs, rfl⟩ := hrel
    have HSM := Lib.hid hs
    clear hs
    by_cases hlt : i < L.length
    · have i1 : (0 : Int) ≤ (i : Int) := by omega
      have i2 : (i : Int) < (L.length : Int) := by omega
      have wi1 : IntKind.i64.wrap ((i : Int) + 1) = (i : Int) + 1 := IntWalk.i64_in _ (by omega)
      by_cases h30 : i < 30
      · have i3 : (i : Int) < 30 := by omega
        obtain ⟨g, o, pa, pc, hga, hg, d0, hp⟩ := HS.out.at hlt
        subst hga
        have HNX := Lib.hid (fun (h60 : L[i].length ≤ 60) => (show ∀ j (hj : j < L.length), j < i + 1 → L[j].length ≤ 60 from fun j hj h1 => by
          by_cases e : j = i
          · subst e; exact h60
          · exact HSM.out j hj (by omega)))
        generalize L[i] = p at *
        clear hp
        by_cases h60 : 60 < (p.length : Int)
        · go_wp2_with fail
          refine (shown_p _).mono ?_
          rintro e w1 ⟨rfl, hb⟩
          have HB := Lib.hid hb
          clear hb
          go_wp2_with fail
          go_ret
          exact ⟨rfl, HB.out⟩
        · have HN2 := Lib.hid (HNX.out (by omega))
          clear HNX
          go_wp2_with fail
          exact ⟨⟨i + 1, by omega, by omega, by go_num, HN2.out, trivial⟩, by simp [intOf]; omega⟩
      · have i3 : ¬ (i : Int) < 30 := by omega
        have i4 : (20 : Int) < (L.length : Int) := by omega
        go_wp2_with fail
        refine (shown_p _).mono ?_
        rintro e w1 ⟨rfl, hb⟩
        have HB := Lib.hid hb
        clear hb
        go_wp2_with fail
        go_ret
        exact ⟨rfl, HB.out⟩
    · obtain rfl : i = L.length := by omega
      have i2 : ¬ (L.length : Int) < (L.length : Int) := by omega
      by_cases h20 : (20 : Int) < (L.length : Int)
      · go_wp2_with fail
        refine (shown_p _).mono ?_
        rintro e w1 ⟨rfl, hb⟩
        have HB := Lib.hid hb
        clear hb
        go_wp2_with fail
        go_ret
        exact ⟨rfl, HB.out⟩
      · have HLE := Lib.hid (show L.length ≤ 1000 by omega)
        have HPL := Lib.hid (show ∀ p ∈ L, p.length ≤ 1000 from fun p hp => by
          obtain ⟨j, hj, rfl⟩ := List.mem_iff_getElem.1 hp
          have := HSM.out j hj hj
          omega)
        clear HSM
        go_wp2_with fail
        with_reducible refine (K1.out w (Below.refl _ _) HLE.out).mono ?_
        rintro e w1 ⟨rfl, hb1⟩
        have HB1 := Lib.hid hb1
        clear hb1
        go_wp2_with fail
        with_reducible refine (K2.out w1 HB1.out HLE.out HPL.out).mono ?_
        rintro e w2 ⟨rfl, hb2⟩
        have HB2 := Lib.hid (next HB1.out hb2)
        clear hb2
        go_wp2_with fail
        refine (shown_p _).mono ?_
        rintro e w3 ⟨rfl, hb3⟩
        have HB3 := Lib.hid (next HB2.out hb3)
        clear hb3
        go_wp2_with fail
        go_ret
        exact ⟨rfl, HB3.out⟩

set_option maxRecDepth 100000 in
theorem walk {H : Type} {enc : TypeId × Value → H} {d : DataW H} {p : List MemPlace} {base : Nat} (v : Value) (w : World)
    (hk : DataW.Trod enc Try.prog w 0 (fun _ => true) true 51 v d p) (hv : Value.okWide Try.prog w .any base 51 v) :
    Calls Try.prog 6 #[v] w fun e w' => e = .returned (.bool true) ∧ Below w.heap.size w w' := by
  obtain ⟨m, hm⟩ := hk
  obtain ⟨a, len, cap, rfl⟩ := okWide_slice Try.underlying51 hv
  obtain ⟨l, hl⟩ := sets_of hm
  exact walkN _ l w hl

theorem own : ownKnob Try.prog.godebug = none := by kernel_rfl
theorem laidOut : laidOutB Try.prog = true := by kernel_rfl

set_option maxRecDepth 100000 in
theorem lifted (os : Os) (started : os.Started) (H : Type) (enc : TypeId × Value → H) :
    ReturnsInHanded {} Try.checked os 6 .any (Rows.spreadFitsSpec.pre6 enc Try.prog Try.f6 Rows.spreadFitsRow.domain false) (Rows.spreadFitsSpec.post enc Try.prog Try.f6 false true false false) := by
  refine returnsInHanded_of_change (C := Try.checked) own started (by kernel_rfl) Try.func6
    (ChangeSpec.witness6 (enc := enc) (C := Try.checked) false ⟨#[], #[.slice none 0 0], []⟩ 8 (by kernel_rfl) (by kernel_rfl) (by kernel_rfl) (by kernel_rfl)) ?_
  intro W base args ds gs before hval0 hW hcnd _
  have hval : ∀ (j : Nat) t v, Try.f6.params[j]? = some t → args[j]? = some v → Value.okWide Try.prog W .any base t v := hval0
  have hW' := hW
  obtain ⟨p, q, hA0, hV, rfl, hfz, hnd⟩ := hW
  have hA : DataW.TrodAll enc Try.prog W 0 (fun _ => true) true Try.f6.params.toList args.toList ds p := hA0
  rw [Try.params6] at hA hval
  obtain ⟨v0, vs0, d0, ds0, p0, q0, hargs, rfl, rfl, k0, r0⟩ := trodAll_cons hA
  obtain ⟨rfl, rfl, rfl⟩ := trodAll_nil r0
  obtain rfl : args = #[v0] := by cases args; simp_all
  obtain ⟨rfl, rfl⟩ := trodVars_none hV
  have lt0 : ∀ x ∈ p0, x.block < W.heap.size := by obtain ⟨m, hm⟩ := k0; exact DataW.trod_lt m _ _ _ hm
  clear hA0 hval0
  refine (walk v0 W k0 (hval 0 51 v0 rfl rfl)).mono fun e W' ⟨he, bel⟩ => ?_
  subst he
  exact ⟨_, rfl, _, _, _, [], _, [], hW', trodAll_mk1 (shut_bool Try.underlying4 _), (trodAll_cons_mk (Below.trod laidOut (by kernel_rfl) (of_decide_eq_true (by kernel_rfl)) k0 bel lt0) trodAll_mk0), rfl, bel.frame _, fun h => by cases h⟩

theorem over : Rows.spreadFitsRow.holds Try.pinned (OpenSpec.ofChange Rows.spreadFitsSpec) :=
  OpenClaim.holds_of_wide 6 Try.f6 rfl rfl rfl rfl rfl rfl rfl ⟨rfl, rfl, rfl, rfl, rfl⟩ rfl rfl rfl rfl rfl (by kernel_rfl) Try.func6 (by kernel_rfl)
    (of_decide_eq_true (by kernel_rfl)) (by unfold Func.isWrapper; first | (rw [if_pos (by decide +kernel)]; kernel_rfl) | (rw [if_neg (by decide +kernel)]; exact ⟨rfl, rfl⟩))
    (fun os started H enc _ => lifted os started H enc)

theorem proved : Rows.SpreadFitsSaid := over
#print axioms proved
end Go.Proofs.Ytpjllppbpnkemaa.spreadFits
