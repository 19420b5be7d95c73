/- LanesPacks: the law returns true: Pack returns what the reference returns, and so does Row for its plan. No conditions. -/
import Derived.Test.YtghdgenlkbocmaaLArg
import Derived.Test.YtghdgenlkbocmaaLShown
namespace Go.Proofs.Ytghdgenlkbocmaa.lanesPacks
open Go.ChangeShapes Go.WideShapes Go.ChangeAt Go.RowKit

structure P2 (w : World) (P Q : Nat) (W : Int) (v u : Value) (l : List Ln) (wr : World) : Prop where
  plan : PAt wr P (.int .i64 W) v
  two : PAt wr Q (.int .i64 W) u
  lv : Lanes wr v l
  lu : Lanes wr u l
  bel : Below w.heap.size w wr
theorem P2.keep {w wr w' : World} {P Q N : Nat} {W : Int} {v u : Value} {l : List Ln} (h : P2 w P Q W v u l wr) (hb : Below N wr w') (hN : N = wr.heap.size) : P2 w P Q W v u l w' := by
  subst hN
  exact ⟨h.plan.below hb h.plan.lt, h.two.below hb h.two.lt, h.lv.below hb, h.lu.below hb, h.bel.trans (hb.mono h.bel.size)⟩

set_option maxRecDepth 100000 in
set_option maxHeartbeats 8000000 in
theorem walkN (u : Value) (R : List (List (List CSet))) (b : Nat) (w : World) (hu : Rules3 w u R) (hb256 : b < 256) :
    Calls Try.prog 3 #[u, .int .u8 (b : Int)] w fun e w' => e = .returned (.bool true) ∧ Below w.heap.size w w' := by
  have A0 := Lib.hid (fun w h => wide_r u R w h)
  have A1 := Lib.hid (fun w h hn => pack_p u R w h hn)
  have A2 := Lib.hid (fun w h hn => pack_r u R w h hn)
  have B1 := Lib.hid (fun W v l w h h2 hn => row_p W v u l R b w h h2 hn hb256)
  have B2 := Lib.hid (fun W v l w h h2 hn => row_r W v u l R b w h h2 hn hb256)
  have HU := Lib.hid hu
  obtain ⟨ua, uc, rfl⟩ := hu.form
  generalize packV R = pv at *
  obtain ⟨PW, PL, Pi, Pe⟩ := pv
  generalize hRV : rowV PW PL R b = tv at *
  obtain ⟨tk, ts, te⟩ := tv
  have HRV := Lib.hid hRV
  clear hu hRV
  go_enter Try.func3, Try.ntmps3
  go_wp2_with fail
  have K := A0.out _ HU.out
  with_reducible refine K.mono ?_
  clear K
  rintro e w1 ⟨z, rfl, hz, rfl⟩
  cases z with
  | true =>
    go_wp2_with fail
    refine (shown_r _).mono ?_
    rintro e w2 ⟨rfl, hb⟩
    have HB := Lib.hid hb
    clear hb
    go_wp2_with fail
    go_ret
    exact ⟨rfl, HB.out⟩
  | false =>
    have HN := Lib.hid (hz rfl)
    clear hz
    go_wp2_with fail
    have K := A1.out _ HU.out HN.out
    with_reducible refine K.mono ?_
    clear K
    rintro e w2 ⟨vp, rfl, hL, hb⟩
    obtain ⟨pa, pc, rfl⟩ := hL.form
    have hb1 := next hb (al w2 (.cells #[.int .i64 PW, .slice pa PL.length pc] 27))
    have HB1 := Lib.hid hb1
    have HL1 := Lib.hid (hL.below (al w2 (.cells #[.int .i64 PW, .slice pa PL.length pc] 27)))
    have HP1 := Lib.hid (PAt.new w2 (.int .i64 PW) (.slice pa PL.length pc))
    clear hL hb hb1
    go_wp2_with fail
    have K := A2.out _ (HU.out.below HB1.out) HN.out
    with_reducible refine K.mono ?_
    clear K
    rintro e w3 ⟨vq, rfl, hL, hb⟩
    obtain ⟨qa, qc, rfl⟩ := hL.form
    have hb2 := next hb (al w3 (.cells #[.int .i64 PW, .slice qa PL.length qc] 27))
    have HM : Hid (P2 w w2.heap.size w3.heap.size PW (.slice pa PL.length pc) (.slice qa PL.length qc) PL (w3.alloc (.cells #[.int .i64 PW, .slice qa PL.length qc] 27))) := Lib.hid ⟨HP1.out.below hb2 HP1.out.lt, PAt.new _ _ _, HL1.out.below hb2, hL.below (al _ _), next HB1.out hb2⟩
    have hlt := HM.out.plan.lt
    have hlt3 : w2.heap.size < w3.heap.size := by have := hb.size; simp only [World.size_alloc] at this; omega
    obtain ⟨c0, c1⟩ := HM.out.plan.cells
    rw [World.cell?_alloc_past _ _ _ hlt3] at c0 c1
    clear hL hb hb2 HL1 HP1 HB1
    go_wp2_with fail
    have K := same_r PW PW _ _ PL PL _ HM.out.lv HM.out.lu
    rw [decide_eq_true (show PW = PW ∧ PL = PL from ⟨rfl, rfl⟩)] at K
    with_reducible refine K.mono ?_
    clear K
    rintro e w4 ⟨rfl, hb⟩
    replace HM := Lib.hid (HM.out.keep hb rfl)
    clear hb c0 c1 hlt hlt3
    obtain ⟨c0, c1⟩ := HM.out.plan.cells
    go_wp2_with fail
    have K := B1.out PW (.slice pa PL.length pc) PL _ HM.out.lv (HU.out.below HM.out.bel) HN.out
    rw [HRV.out] at K
    with_reducible refine K.mono ?_
    clear K
    rintro e w5 ⟨x1, rfl, hU, hb⟩
    have Hx1 := Lib.hid hU
    replace HM := Lib.hid (HM.out.keep hb rfl)
    clear c0 c1 hU hb
    obtain ⟨c0, c1⟩ := HM.out.plan.cells
    go_wp2_with fail
    have K := B2.out PW (.slice pa PL.length pc) PL _ HM.out.lv (HU.out.below HM.out.bel) HN.out
    rw [HRV.out] at K
    with_reducible refine K.mono ?_
    clear K
    rintro e w6 ⟨x2, rfl, hU, hb⟩
    have Hx2 := Lib.hid hU
    replace Hx1 := Lib.hid (Hx1.out.below hb)
    replace HM := Lib.hid (HM.out.keep hb rfl)
    clear c0 c1 hU hb
    obtain ⟨c0, c1⟩ := HM.out.plan.cells
    go_wp2_with fail
    refine (sameRow_r _ _ _ _ _ Hx1.out Hx2.out).mono ?_
    rintro e w7 ⟨rfl, hb⟩
    replace HM := Lib.hid (HM.out.keep hb rfl)
    clear hb
    go_wp2_with fail
    refine (shown_r _).mono ?_
    rintro e w8 ⟨rfl, hb⟩
    replace HM := Lib.hid (HM.out.keep hb rfl)
    clear hb
    go_wp2_with fail
    go_ret
    exact ⟨rfl, HM.out.bel⟩

theorem walk {H : Type} {enc : TypeId × Value → H} {d : DataW H} {p : List MemPlace} {base : Nat} (u : Value) (b : Int) (w : World)
    (hk2 : DataW.Trod enc Try.prog w 0 (fun _ => true) true 22 u d p) (hv2 : Value.okWide Try.prog w .any base 22 u) (hb : IntKind.u8.has b) :
    Calls Try.prog 3 #[u, .int .u8 b] w fun e w' => e = .returned (.bool true) ∧ Below w.heap.size w w' := by
  obtain ⟨m, hm⟩ := hk2
  obtain ⟨a, len, cap, rfl⟩ := okWide_slice Try.underlying22 hv2
  obtain ⟨R, hR⟩ := rules_of hm
  obtain ⟨b0, b1⟩ := has_u8 hb
  obtain ⟨b, rfl⟩ : ∃ n : Nat, b = n := ⟨b.toNat, by omega⟩
  exact walkN _ R b w hR (by omega)

theorem own : ownKnob Try.prog.godebug = none := by kernel_rfl
theorem laidOut : laidOutB Try.prog = true := by kernel_rfl

set_option maxRecDepth 100000 in
theorem lifted (os : Os) (started : os.Started) (H : Type) (enc : TypeId × Value → H) :
    ReturnsInHanded {} Try.checked os 3 .any (Rows.lanesPacksSpec.pre6 enc Try.prog Try.f3 Rows.lanesPacksRow.domain false) (Rows.lanesPacksSpec.post enc Try.prog Try.f3 false true false false) := by
  refine returnsInHanded_of_change (C := Try.checked) own started (by kernel_rfl) Try.func3
    (ChangeSpec.witness6 (enc := enc) (C := Try.checked) false ⟨#[], #[.slice none 0 0, .int .u8 0], []⟩ 8 (by kernel_rfl) (by kernel_rfl) (by kernel_rfl) (by kernel_rfl)) ?_
  intro W base args ds gs before hval0 hW hcnd _
  have hval : ∀ (j : Nat) t v, Try.f3.params[j]? = some t → args[j]? = some v → Value.okWide Try.prog W .any base t v := hval0
  have hW' := hW
  obtain ⟨p, q, hA0, hV, rfl, hfz, hnd⟩ := hW
  have hA : DataW.TrodAll enc Try.prog W 0 (fun _ => true) true Try.f3.params.toList args.toList ds p := hA0
  rw [Try.params3] at hA hval
  obtain ⟨v0, vs0, d0, ds0, p0, q0, hargs, rfl, rfl, k0, r0⟩ := trodAll_cons hA
  obtain ⟨v1, vs1, d1, ds1, p1, q1, rfl, rfl, rfl, k1, r1⟩ := trodAll_cons r0
  obtain ⟨rfl, rfl, rfl⟩ := trodAll_nil r1
  obtain rfl : args = #[v0, v1] := by cases args; simp_all
  obtain ⟨rfl, rfl⟩ := trodVars_none hV
  have lt0 : ∀ x ∈ p0, x.block < W.heap.size := by obtain ⟨m, hm⟩ := k0; exact DataW.trod_lt m _ _ _ hm
  have lt1 : ∀ x ∈ p1, x.block < W.heap.size := by obtain ⟨m, hm⟩ := k1; exact DataW.trod_lt m _ _ _ hm
  obtain ⟨a1, rfl, w1⟩ := arg_int Try.underlying5 (hval 1 5 v1 rfl rfl)
  clear hA0 hval0
  refine (walk v0 a1 W k0 (hval 0 22 v0 rfl rfl) w1).mono fun e W' ⟨he, bel⟩ => ?_
  subst he
  exact ⟨_, rfl, _, _, _, [], _, [], hW', trodAll_mk1 (shut_bool Try.underlying4 _), (trodAll_cons_mk (Below.trod laidOut (by kernel_rfl) (of_decide_eq_true (by kernel_rfl)) k0 bel lt0) (trodAll_cons_mk (Below.trod laidOut (by kernel_rfl) (of_decide_eq_true (by kernel_rfl)) k1 bel lt1) trodAll_mk0)), rfl, bel.frame _, fun h => by cases h⟩

theorem over : Rows.lanesPacksRow.holds Try.pinned (OpenSpec.ofChange Rows.lanesPacksSpec) :=
  OpenClaim.holds_of_wide 3 Try.f3 rfl rfl rfl rfl rfl rfl rfl ⟨rfl, rfl, rfl, rfl, rfl⟩ rfl rfl rfl rfl rfl (by kernel_rfl) Try.func3 (by kernel_rfl)
    (of_decide_eq_true (by kernel_rfl)) (by unfold Func.isWrapper; first | (rw [if_pos (by decide +kernel)]; kernel_rfl) | (rw [if_neg (by decide +kernel)]; exact ⟨rfl, rfl⟩))
    (fun os started H enc _ => lifted os started H enc)

theorem proved : Rows.LanesPacksSaid := over
#print axioms proved
end Go.Proofs.Ytghdgenlkbocmaa.lanesPacks
