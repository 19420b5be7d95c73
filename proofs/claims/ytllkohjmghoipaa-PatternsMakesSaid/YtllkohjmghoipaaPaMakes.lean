/- PatternsMakes: the law returns true: Reverse, Join and Within return what the reference returns. No conditions. -/
import Derived.Test.YtllkohjmghoipaaPaLong
import Derived.Lib.SmallJoins
import Derived.Test.YtllkohjmghoipaaPaInR
import Derived.Test.YtllkohjmghoipaaPaInP
import Derived.Test.YtllkohjmghoipaaPaRevP
import Derived.Test.YtllkohjmghoipaaPaJoinR
namespace Go.Proofs.Ytllkohjmghoipaa.patternsMakes
open Go.ChangeShapes Go.WideShapes Go.ChangeAt Go.RowKit

set_option maxRecDepth 100000 in
set_option maxHeartbeats 20000000 in
theorem walkN (v u : Value) (p q : List El) (low high : Int) (w : World) (h : Pats w v p) (hq : Pats w u q) :
    Calls Try.prog 10 #[.agg #[v, u, .int .i64 low, .int .i64 high]] w fun e w' => e = .returned (.bool true) ∧ Below w.heap.size w w' := by
  have K0 := Lib.hid (fun w1 (hl : Below w.heap.size w w1) => long_p v p w1 (Row.below h hl))
  have K1 := Lib.hid (fun w1 (hl : Below w.heap.size w w1) => long_p u q w1 (Row.below hq hl))
  have K2 := Lib.hid (fun w1 (hl : Below w.heap.size w w1) => reverse_p v p w1 (Row.below h hl))
  have K3 := Lib.hid (fun w1 (hl : Below w.heap.size w w1) => reverse_r v p w1 (Row.below h hl))
  have K4 := Lib.hid (fun w1 (hl : Below w.heap.size w w1) => join_p v u p q low high w1 (Row.below h hl) (Row.below hq hl))
  have K5 := Lib.hid (fun w1 (hl : Below w.heap.size w w1) => join_r v u p q low high w1 (Row.below h hl) (Row.below hq hl))
  have K6 := Lib.hid (fun w1 (hl : Below w.heap.size w w1) => within_p v u p q w1 (Row.below h hl) (Row.below hq hl))
  have K7 := Lib.hid (fun w1 (hl : Below w.heap.size w w1) => within_r v u p q w1 (Row.below h hl) (Row.below hq hl))
  obtain ⟨a, cap, rfl⟩ := Row.form2 h
  obtain ⟨a2, cap2, rfl⟩ := Row.form2 hq
  clear h hq
  generalize (checkV p).2 = ep at *
  generalize revV p = rv at *
  generalize joinV p q low high = jv at *
  generalize joinE p q low high = je at *
  generalize withinV p q = wv at *
  generalize pairE p q = we at *
  generalize longV p = lg at *
  generalize longV q = lg2 at *
  have hx := heap_alloc_new w (.cells #[.slice a p.length cap, .slice a2 q.length cap2, .int .i64 low, .int .i64 high] 39)
  have hb0 : Below w.heap.size w (w.alloc (.cells #[.slice a p.length cap, .slice a2 q.length cap2, .int .i64 low, .int .i64 high] 39)) := (Below.refl _ _).alloc (Nat.le_refl _) _
  have hlt0 : w.heap.size < (w.alloc (.cells #[.slice a p.length cap, .slice a2 q.length cap2, .int .i64 low, .int .i64 high] 39)).heap.size := by simp
  have HX0 := Lib.hid hx
  have HB0 := Lib.hid hb0
  clear hx hb0
  go_enter Try.func10, Try.ntmps10
  go_wp2_with fail
  refine (K0.out _ HB0.out).mono ?_
  rintro e w0 ⟨rfl, rfl⟩
  cases lg with
  | true =>
    go_wp2_with fail
    refine (shown_p _).mono ?_
    rintro e w1 ⟨rfl, hb⟩
    have HB := Lib.hid (next HB0.out hb)
    clear hb
    go_wp2_with fail
    go_ret
    exact ⟨rfl, HB.out⟩
  | false =>
    go_wp2_with fail
    refine (K1.out _ HB0.out).mono ?_
    rintro e w0 ⟨rfl, rfl⟩
    cases lg2 with
    | true =>
      go_wp2_with fail
      refine (shown_p _).mono ?_
      rintro e w1 ⟨rfl, hb⟩
      have HB := Lib.hid (next HB0.out hb)
      clear hb
      go_wp2_with fail
      go_ret
      exact ⟨rfl, HB.out⟩
    | false =>
      go_wp2_with fail
      refine (K2.out _ HB0.out).mono ?_
      rintro e w1 ⟨v1, rfl, ho, hb⟩
      have HB1 := Lib.hid (next HB0.out hb)
      have hx := (hb.block w.heap.size hlt0).trans HX0.out
      have HX1 := Lib.hid hx
      have hlt1 : w.heap.size < w1.heap.size := Nat.lt_of_lt_of_le hlt0 hb.size
      have R1 := Lib.hid (Row.of_owns ho)
      clear ho
      obtain ⟨c0, c1, c2, c3⟩ : w1.cell? ⟨w.heap.size, 0, none⟩ = _ ∧ w1.cell? ⟨w.heap.size, 1, none⟩ = _ ∧ w1.cell? ⟨w.heap.size, 2, none⟩ = _ ∧ w1.cell? ⟨w.heap.size, 3, none⟩ = _ := ⟨cell_in hx rfl, cell_in hx rfl, cell_in hx rfl, cell_in hx rfl⟩
      clear hb hx HX0 hlt0
      go_wp2_with fail
      refine (K3.out _ HB1.out).mono ?_
      rintro e w2 ⟨v2, rfl, ho, hb⟩
      have HB2 := Lib.hid (next HB1.out hb)
      have hx := (hb.block w.heap.size hlt1).trans HX1.out
      have HX2 := Lib.hid hx
      have hlt2 : w.heap.size < w2.heap.size := Nat.lt_of_lt_of_le hlt1 hb.size
      replace R1 := Lib.hid (Row.below R1.out hb)
      have R2 := Lib.hid (Row.of_owns ho)
      clear ho
      clear c0 c1 c2 c3
      obtain ⟨c0, c1, c2, c3⟩ : w2.cell? ⟨w.heap.size, 0, none⟩ = _ ∧ w2.cell? ⟨w.heap.size, 1, none⟩ = _ ∧ w2.cell? ⟨w.heap.size, 2, none⟩ = _ ∧ w2.cell? ⟨w.heap.size, 3, none⟩ = _ := ⟨cell_in hx rfl, cell_in hx rfl, cell_in hx rfl, cell_in hx rfl⟩
      clear hb hx HX1 hlt1
      go_wp2_with fail
      refine (K4.out _ HB2.out).mono ?_
      rintro e w3 ⟨v3, rfl, ho, hb⟩
      have HB3 := Lib.hid (next HB2.out hb)
      have hx := (hb.block w.heap.size hlt2).trans HX2.out
      have HX3 := Lib.hid hx
      have hlt3 : w.heap.size < w3.heap.size := Nat.lt_of_lt_of_le hlt2 hb.size
      replace R1 := Lib.hid (Row.below R1.out hb)
      replace R2 := Lib.hid (Row.below R2.out hb)
      have R3 := Lib.hid (Row.of_owns ho)
      clear ho
      clear c0 c1 c2 c3
      obtain ⟨c0, c1, c2, c3⟩ : w3.cell? ⟨w.heap.size, 0, none⟩ = _ ∧ w3.cell? ⟨w.heap.size, 1, none⟩ = _ ∧ w3.cell? ⟨w.heap.size, 2, none⟩ = _ ∧ w3.cell? ⟨w.heap.size, 3, none⟩ = _ := ⟨cell_in hx rfl, cell_in hx rfl, cell_in hx rfl, cell_in hx rfl⟩
      clear hb hx HX2 hlt2
      go_wp2_with fail
      refine (K5.out _ HB3.out).mono ?_
      rintro e w4 ⟨v4, rfl, ho, hb⟩
      have HB4 := Lib.hid (next HB3.out hb)
      have hx := (hb.block w.heap.size hlt3).trans HX3.out
      have HX4 := Lib.hid hx
      have hlt4 : w.heap.size < w4.heap.size := Nat.lt_of_lt_of_le hlt3 hb.size
      replace R1 := Lib.hid (Row.below R1.out hb)
      replace R2 := Lib.hid (Row.below R2.out hb)
      replace R3 := Lib.hid (Row.below R3.out hb)
      have R4 := Lib.hid (Row.of_owns ho)
      clear ho
      clear c0 c1 c2 c3
      obtain ⟨c0, c1, c2, c3⟩ : w4.cell? ⟨w.heap.size, 0, none⟩ = _ ∧ w4.cell? ⟨w.heap.size, 1, none⟩ = _ ∧ w4.cell? ⟨w.heap.size, 2, none⟩ = _ ∧ w4.cell? ⟨w.heap.size, 3, none⟩ = _ := ⟨cell_in hx rfl, cell_in hx rfl, cell_in hx rfl, cell_in hx rfl⟩
      clear hb hx HX3 hlt3
      go_wp2_with fail
      refine (K6.out _ HB4.out).mono ?_
      rintro e w5 ⟨rfl, hb⟩
      have HB5 := Lib.hid (next HB4.out hb)
      have hx := (hb.block w.heap.size hlt4).trans HX4.out
      have HX5 := Lib.hid hx
      have hlt5 : w.heap.size < w5.heap.size := Nat.lt_of_lt_of_le hlt4 hb.size
      replace R1 := Lib.hid (Row.below R1.out hb)
      replace R2 := Lib.hid (Row.below R2.out hb)
      replace R3 := Lib.hid (Row.below R3.out hb)
      replace R4 := Lib.hid (Row.below R4.out hb)
      clear c0 c1 c2 c3
      obtain ⟨c0, c1, c2, c3⟩ : w5.cell? ⟨w.heap.size, 0, none⟩ = _ ∧ w5.cell? ⟨w.heap.size, 1, none⟩ = _ ∧ w5.cell? ⟨w.heap.size, 2, none⟩ = _ ∧ w5.cell? ⟨w.heap.size, 3, none⟩ = _ := ⟨cell_in hx rfl, cell_in hx rfl, cell_in hx rfl, cell_in hx rfl⟩
      clear hb hx HX4 hlt4
      go_wp2_with fail
      refine (K7.out _ HB5.out).mono ?_
      rintro e w6 ⟨rfl, hb⟩
      have HB6 := Lib.hid (next HB5.out hb)
      have hx := (hb.block w.heap.size hlt5).trans HX5.out
      have HX6 := Lib.hid hx
      have hlt6 : w.heap.size < w6.heap.size := Nat.lt_of_lt_of_le hlt5 hb.size
      replace R1 := Lib.hid (Row.below R1.out hb)
      replace R2 := Lib.hid (Row.below R2.out hb)
      replace R3 := Lib.hid (Row.below R3.out hb)
      replace R4 := Lib.hid (Row.below R4.out hb)
      clear c0 c1 c2 c3
      clear hb hx HX5 hlt5
      have S1 := Lib.hid (same_r v1 v2 rv rv w6 R1.out R2.out)
      rw [decide_eq_true (rfl : rv = rv)] at S1
      go_wp2_with fail
      refine (S1.out).mono ?_
      rintro e w7 ⟨rfl, hb⟩
      have HB7 := Lib.hid (next HB6.out hb)
      have hx := (hb.block w.heap.size hlt6).trans HX6.out
      have HX7 := Lib.hid hx
      have hlt7 : w.heap.size < w7.heap.size := Nat.lt_of_lt_of_le hlt6 hb.size
      replace R3 := Lib.hid (Row.below R3.out hb)
      replace R4 := Lib.hid (Row.below R4.out hb)
      clear hb hx HX6 hlt6
      have S2 := Lib.hid (same_r v3 v4 jv jv w7 R3.out R4.out)
      rw [decide_eq_true (rfl : jv = jv)] at S2
      go_wp2_with fail
      refine (S2.out).mono ?_
      rintro e w8 ⟨rfl, hb⟩
      have HB8 := Lib.hid (next HB7.out hb)
      have hx := (hb.block w.heap.size hlt7).trans HX7.out
      have HX8 := Lib.hid hx
      have hlt8 : w.heap.size < w8.heap.size := Nat.lt_of_lt_of_le hlt7 hb.size
      clear hb hx HX7 hlt7
      go_wp2_with fail
      refine (shown_p _).mono ?_
      rintro e w9 ⟨rfl, hb⟩
      have HB9 := Lib.hid (next HB8.out hb)
      have hx := (hb.block w.heap.size hlt8).trans HX8.out
      have HX9 := Lib.hid hx
      have hlt9 : w.heap.size < w9.heap.size := Nat.lt_of_lt_of_le hlt8 hb.size
      clear hb hx HX8 hlt8
      go_wp2_with fail
      go_ret
      exact ⟨rfl, HB9.out⟩

set_option maxRecDepth 100000 in
theorem walk {H : Type} {enc : TypeId × Value → H} {d : DataW H} {p : List MemPlace} {base : Nat} (v : Value) (w : World)
    (hk : DataW.Trod enc Try.prog w 0 (fun _ => true) true 39 v d p) (hv : Value.okWide Try.prog w .any base 39 v) :
    Calls Try.prog 10 #[v] w fun e w' => e = .returned (.bool true) ∧ Below w.heap.size w w' := by
  obtain ⟨v0, v1, v2, v3, t0, t1, t2, t3, n, rfl, -, -, q0, q1, q2, q3⟩ := Go.Joins.open_agg4 Try.underlying39 (by kernel_rfl) (by kernel_rfl) hv hk
  obtain ⟨lo, e2, _⟩ := DataW.trod_int Try.underlying3 q2
  obtain ⟨hi, e3, _⟩ := DataW.trod_int Try.underlying3 q3
  simp at e2 e3
  subst e2 e3
  obtain ⟨l, hl⟩ := pats_of q0
  obtain ⟨l2, hl2⟩ := pats_of q1
  exact walkN _ _ l l2 lo hi w hl hl2

theorem own : ownKnob Try.prog.godebug = none := by kernel_rfl
theorem laidOut : laidOutB Try.prog = true := by kernel_rfl

set_option maxRecDepth 100000 in
theorem lifted (os : Os) (started : os.Started) (H : Type) (enc : TypeId × Value → H) :
    ReturnsInHanded {} Try.checked os 10 .any (Rows.patternsMakesSpec.pre6 enc Try.prog Try.f10 Rows.patternsMakesRow.domain false) (Rows.patternsMakesSpec.post enc Try.prog Try.f10 false true false false) := by
  refine returnsInHanded_of_change (C := Try.checked) own started (by kernel_rfl) Try.func10
    (ChangeSpec.witness6 (enc := enc) (C := Try.checked) false ⟨#[], #[.agg #[.slice none 0 0, .slice none 0 0, .int .i64 0, .int .i64 0]], []⟩ 8 (by kernel_rfl) (by kernel_rfl) (by kernel_rfl) (by kernel_rfl)) ?_
  intro W base args ds gs before hval0 hW hcnd _
  have hval : ∀ (j : Nat) t v, Try.f10.params[j]? = some t → args[j]? = some v → Value.okWide Try.prog W .any base t v := hval0
  have hW' := hW
  obtain ⟨p, q, hA0, hV, rfl, hfz, hnd⟩ := hW
  have hA : DataW.TrodAll enc Try.prog W 0 (fun _ => true) true Try.f10.params.toList args.toList ds p := hA0
  rw [Try.params10] at hA hval
  obtain ⟨v0, vs0, d0, ds0, p0, q0, hargs, rfl, rfl, k0, r0⟩ := trodAll_cons hA
  obtain ⟨rfl, rfl, rfl⟩ := trodAll_nil r0
  obtain rfl : args = #[v0] := by cases args; simp_all
  obtain ⟨rfl, rfl⟩ := trodVars_none hV
  have lt0 : ∀ x ∈ p0, x.block < W.heap.size := by obtain ⟨m, hm⟩ := k0; exact DataW.trod_lt m _ _ _ hm
  clear hA0 hval0
  refine (walk v0 W k0 (hval 0 39 v0 rfl rfl)).mono fun e W' ⟨he, bel⟩ => ?_
  subst he
  exact ⟨_, rfl, _, _, _, [], _, [], hW', trodAll_mk1 (shut_bool Try.underlying4 _), (trodAll_cons_mk (Below.trod laidOut (by kernel_rfl) (of_decide_eq_true (by kernel_rfl)) k0 bel lt0) trodAll_mk0), rfl, bel.frame _, fun h => by cases h⟩

theorem over : Rows.patternsMakesRow.holds Try.pinned (OpenSpec.ofChange Rows.patternsMakesSpec) :=
  OpenClaim.holds_of_wide 10 Try.f10 rfl rfl rfl rfl rfl rfl rfl ⟨rfl, rfl, rfl, rfl, rfl⟩ rfl rfl rfl rfl rfl (by kernel_rfl) Try.func10 (by kernel_rfl)
    (of_decide_eq_true (by kernel_rfl)) (by unfold Func.isWrapper; first | (rw [if_pos (by decide +kernel)]; kernel_rfl) | (rw [if_neg (by decide +kernel)]; exact ⟨rfl, rfl⟩))
    (fun os started H enc _ => lifted os started H enc)

theorem proved : Rows.PatternsMakesSaid := over
#print axioms proved
end Go.Proofs.Ytllkohjmghoipaa.patternsMakes
