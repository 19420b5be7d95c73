/- PatternsJoins: the law returns true: Join matches exactly bytes that the first pattern matches, then any others of a number from low to high, and then bytes that the second one matches. No conditions. -/
import Derived.Test.YtllkohjmghoipaaPaLong
import Derived.Test.YtllkohjmghoipaaPaCut
import Derived.Test.YtllkohjmghoipaaPaJoinV
import Derived.Lib.SmallJoins
namespace Go.Proofs.Ytllkohjmghoipaa.patternsJoins
open Go.ChangeShapes Go.WideShapes Go.ChangeAt Go.RowKit Go.Sort

def TwoAt (w : World) (B : Nat) (v u : Value) (low high : Int) : Prop := w.heap[B]? = some (.cells #[v, u, .int .i64 low, .int .i64 high] 39)
theorem TwoAt.cells {w : World} {B : Nat} {v u : Value} {low high : Int} (h : TwoAt w B v u low high) : w.cell? ⟨B, 0, none⟩ = some v ∧ w.cell? ⟨B, 1, none⟩ = some u ∧ w.cell? ⟨B, 2, none⟩ = some (.int .i64 low) ∧ w.cell? ⟨B, 3, none⟩ = some (.int .i64 high) :=
  ⟨cell_in h rfl, cell_in h rfl, cell_in h rfl, cell_in h rfl⟩
theorem TwoAt.lt {w : World} {B : Nat} {v u : Value} {low high : Int} (h : TwoAt w B v u low high) : B < w.heap.size := (Array.getElem?_eq_some_iff.1 h).1
theorem TwoAt.below {w w' : World} {B : Nat} {v u : Value} {low high : Int} (h : TwoAt w B v u low high) (hb : Below w.heap.size w w') : TwoAt w' B v u low high := (hb.block B h.lt).trans h

set_option maxRecDepth 100000 in
set_option maxHeartbeats 20000000 in
theorem walkN (v u x : Value) (p q : List El) (b : List UInt8) (low high : Int) (w : World) (h : Pats w v p) (hq : Pats w u q) (hb : Bytes w x b) (hc : CapOk x) :
    Calls Try.prog 5 #[.agg #[v, u, .int .i64 low, .int .i64 high], x] w fun e w' => e = .returned (.bool true) ∧ Below w.heap.size w w' := by
  have K0 := Lib.hid (fun w1 (hl : Below w.heap.size w w1) => long_p v p w1 (Row.below h hl))
  have K1 := Lib.hid (fun w1 (hl : Below w.heap.size w w1) => long_p u q w1 (Row.below hq hl))
  have K2 := Lib.hid (fun w1 (hl : Below w.heap.size w w1) => join_p v u p q low high w1 (Row.below h hl) (Row.below hq hl))
  have HP := Lib.hid h
  have HQ := Lib.hid hq
  have HBy := Lib.hid hb
  obtain ⟨a, cap, rfl⟩ := Row.form2 h
  obtain ⟨a2, cap2, rfl⟩ := Row.form2 hq
  obtain ⟨a3, cap3, rfl⟩ := Row.form2 hb
  have hcap := hc.le
  clear h hq hb hc
  generalize longV p = lg at *
  generalize longV q = lg2 at *
  have hx := heap_alloc_new w (.cells #[.slice a p.length cap, .slice a2 q.length cap2, .int .i64 low, .int .i64 high] 39)
  have HX0 : Hid (TwoAt (w.alloc (.cells #[.slice a p.length cap, .slice a2 q.length cap2, .int .i64 low, .int .i64 high] 39)) w.heap.size (.slice a p.length cap) (.slice a2 q.length cap2) low high) := Lib.hid hx
  have hb0 : Below w.heap.size w (w.alloc (.cells #[.slice a p.length cap, .slice a2 q.length cap2, .int .i64 low, .int .i64 high] 39)) := (Below.refl _ _).alloc (Nat.le_refl _) _
  have HB0 := Lib.hid hb0
  clear hx hb0
  cases lg with
  | true =>
    go_enter Try.func5, Try.ntmps5
    go_wp2_with fail
    refine (K0.out _ HB0.out).mono ?_
    rintro e w0 ⟨rfl, rfl⟩
    go_wp2_with fail
    refine (shown_p _).mono ?_
    rintro e w1 ⟨rfl, hb⟩
    have HB := Lib.hid (next HB0.out hb)
    clear hb
    go_wp2_with fail
    go_ret
    exact ⟨rfl, HB.out⟩
  | false =>
    cases lg2 with
    | true =>
      go_enter Try.func5, Try.ntmps5
      go_wp2_with fail
      refine (K0.out _ HB0.out).mono ?_
      rintro e w0 ⟨rfl, rfl⟩
      go_wp2_with fail
      refine (K1.out _ HB0.out).mono ?_
      rintro e w0 ⟨rfl, rfl⟩
      go_wp2_with fail
      refine (shown_p _).mono ?_
      rintro e w1 ⟨rfl, hb⟩
      have HB := Lib.hid (next HB0.out hb)
      clear hb
      go_wp2_with fail
      go_ret
      exact ⟨rfl, HB.out⟩
    | false =>
      by_cases hl : 30 < b.length
      · go_enter Try.func5, Try.ntmps5
        go_wp2_with fail
        refine (K0.out _ HB0.out).mono ?_
        rintro e w0 ⟨rfl, rfl⟩
        go_wp2_with fail
        refine (K1.out _ HB0.out).mono ?_
        rintro e w0 ⟨rfl, rfl⟩
        go_wp2_with fail
        refine (shown_p _).mono ?_
        rintro e w1 ⟨rfl, hb⟩
        have HB := Lib.hid (next HB0.out hb)
        clear hb
        go_wp2_with fail
        go_ret
        exact ⟨rfl, HB.out⟩
      · by_cases hj : joinE p q low high = 0
        · have h0 : (checkV p).2 = 0 := by
            rcases Decidable.em ((checkV p).2 = 0) with h | h
            · exact h
            · unfold joinE at hj; rw [if_neg h] at hj; exact hj
          have h1 : (checkV q).2 = 0 := by
            rcases Decidable.em ((checkV q).2 = 0) with h | h
            · exact h
            · unfold joinE at hj; rw [if_pos h0, if_neg h] at hj; exact hj
          have hr : ¬ (low < 0 ∨ high < low ∨ 16 < high) := fun h => by
            unfold joinE at hj; rw [if_pos h0, if_pos h1, if_pos h] at hj; cases hj
          have hlen : (joinL p q low high).length ≤ 512 := by
            rcases Decidable.em (512 < (joinL p q low high).length) with h | h
            · unfold joinE at hj; rw [if_pos h0, if_pos h1, if_neg hr, if_pos h] at hj; cases hj
            · omega
          have hp := okP_of h0
          have hq := okP_of h1
          have hJ := okP_join hp hq (lo := low) (hi := high) (by omega) (by omega) (by omega) hlen
          have hjv := joinV_ok hj
          obtain ⟨lo, rfl⟩ : ∃ n : Nat, low = n := ⟨low.toNat, by omega⟩
          obtain ⟨hi, rfl⟩ : ∃ n : Nat, high = n := ⟨high.toNat, by omega⟩
          have hlh : lo ≤ hi := by omega
          have hh16 : hi ≤ 16 := by omega
          have HW := Lib.hid (wantTo_join (b := b) (p := p) (q := q) hlh)
          have HS := Lib.hid (fun n (hn : n ≤ b.length) => wantTo_succ b p q lo hi n)
          have HJM := Lib.hid (matV_ok hJ (show b.length ≤ 4096 by omega))
          have HJS := Lib.hid (seekE_ok hJ (show b.length ≤ 4096 by omega))
          have HPok := Lib.hid hp
          have HQok := Lib.hid hq
          rw [hj, hjv] at K2
          clear h0 h1 hr hlen hp hq hJ hj hjv
          go_enter Try.func5, Try.ntmps5
          go_wp2_with fail
          refine (K0.out _ HB0.out).mono ?_
          rintro e w0 ⟨rfl, rfl⟩
          go_wp2_with fail
          refine (K1.out _ HB0.out).mono ?_
          rintro e w0 ⟨rfl, rfl⟩
          go_wp2_with fail
          refine (K2.out _ HB0.out).mono ?_
          rintro e w1 ⟨v1, rfl, ho1, hb1⟩
          have HJ := Lib.hid (Row.of_owns ho1)
          have HB1 := Lib.hid (next HB0.out hb1)
          have HX1 := Lib.hid (HX0.out.below hb1)
          clear ho1 hb1 HB0 HX0 K0 K1 K2
          go_wp2_with fail
          go_loopw [7, 8] (fun tv nv wr => ∃ n : Nat, n ≤ b.length + 1 ∧ tv = .bool (wantTo b p q lo hi n) ∧ nv = .int .i64 (n : Nat) ∧ Below w1.heap.size w1 wr) (fun _ nv _ => b.length + 1 - (intOf nv).toNat)
          case atStart => exact ⟨0, by omega, rfl, rfl, Below.refl _ _⟩
          case round =>
            obtain ⟨n, hn, rfl, rfl, hB⟩ := hrel
            have HWr := Lib.hid hB
            clear hB
            by_cases hlt : n ≤ b.length
            · have HXr := Lib.hid (HX1.out.below HWr.out)
              obtain ⟨c0, c1, c2, c3⟩ := HXr.out.cells
              have HWW := Lib.hid (next HB1.out HWr.out)
              have HBr := Lib.hid (Row.below HBy.out HWW.out)
              obtain ⟨a5, c5, hcut, hby5⟩ := bytes_head HBr.out hcap hlt (n : Int) rfl
              have km := fun d os => matches_p _ _ p (b.take n) (grow (redrawn wr d) os) (Row.below (Row.below HP.out HWW.out) (below_regrown wr d os)) (Row.below (show Bytes wr (.slice a5 (b.take n).length c5) (b.take n) by rw [List.length_take, Nat.min_eq_left hlt]; exact hby5) (below_regrown wr d os))
              have hln : (b.take n).length ≤ 4096 := by rw [List.length_take]; omega
              rw [matV_ok HPok.out hln, seekE_ok HPok.out hln, List.length_take, Nat.min_eq_left hlt] at km
              have KM := Lib.hid km
              have HSn := Lib.hid (HS.out n hlt)
              have i1 : (0 : Int) ≤ (n : Int) := by omega
              have wi1 : IntKind.i64.wrap ((n : Int) + 1) = (n : Int) + 1 := IntWalk.i64_in _ (by omega)
              have p0 := fun d os => cell_regrown c0 d os
              have hcn : cntN b lo hi n = min hi (b.length - n) + 1 - lo := rfl
              generalize matchV p (b.take n) = fv at *
              generalize wantTo b p q lo hi n = wn at *
              clear c0 c1 c2 c3 km hln hby5
              go_wp2_with fail
              refine wp_region_quiet_below (by kernel_rfl) (by kernel_rfl) ?_
              repeat (go_big_quiet_step ((go_at_call 17; exact Calls.regrown_of (KM.out _ _))))
              refine wpQuiet_nil ?_
              intro _ hw'
              obtain ⟨⟨dq, osq⟩, hw''⟩ := hw'
              subst hw''
              have HW6 := Lib.hid (below_regrown wr dq osq)
              have HX6 := Lib.hid (HXr.out.below HW6.out)
              have HO := Lib.hid (HWr.out.trans (HW6.out.mono HWr.out.size))
              clear p0 KM hcut HXr HWW HBr HWr HW6
              generalize grow (redrawn wr dq) osq = wo at *
              clear wr
              obtain ⟨c0, c1, c2, c3⟩ := HX6.out.cells
              go_wp2_with fail
              clear c0 c1 c2 c3
              go_loopw [7, 11] (fun tv kv wr => ∃ k : Nat, lo ≤ k ∧ k ≤ lo + cntN b lo hi n ∧ (fv = false → k = lo) ∧ tv = .bool (wn || (fv && rowTo b q lo n (k - lo))) ∧ kv = .int .i64 (k : Nat) ∧ Below wo.heap.size wo wr) (fun _ kv _ => hi + 1 - (intOf kv).toNat)
              case atStart => exact ⟨lo, by omega, by omega, fun _ => rfl, by rw [Nat.sub_self, show rowTo b q lo n 0 = false from rfl, Bool.and_false, Bool.or_false], rfl, Below.refl _ _⟩
              case round =>
                obtain ⟨k, hk1, hk2, hk3, rfl, rfl, hB⟩ := hrel
                have HWi := Lib.hid hB
                have HOW := Lib.hid (HO.out.trans (hB.mono HO.out.size))
                clear hB
                have HXi := Lib.hid (HX6.out.below HWi.out)
                obtain ⟨c0, c1, c2, c3⟩ := HXi.out.cells
                have k0 : (0 : Int) ≤ (k : Int) := by omega
                have wk1 : IntKind.i64.wrap ((k : Int) + 1) = (k : Int) + 1 := IntWalk.i64_in _ (by omega)
                by_cases hkh : k ≤ hi
                · have hkh' : (k : Int) ≤ (hi : Int) := by omega
                  have wnk : IntKind.i64.wrap ((n : Int) + (k : Int)) = (n : Int) + (k : Int) := IntWalk.i64_in _ (by omega)
                  by_cases hnk : n + k ≤ b.length
                  · have hnk' : (n : Int) + (k : Int) ≤ (b.length : Int) := by omega
                    cases fv with
                    | false =>
                      have hk0 := hk3 rfl
                      have HE := Lib.hid (show wantTo b p q lo hi (n + 1) = wn by rw [HSn.out, Bool.false_and, Bool.or_false])
                      simp only [Bool.false_and, Bool.or_false] at *
                      clear hk3
                      go_wp2_with fail
                      exact ⟨⟨n + 1, by omega, by rw [HE.out], by go_num, HOW.out⟩, by simp [intOf]; omega⟩
                    | true =>
                      have HBi := Lib.hid (Row.below HBy.out (next HB1.out HOW.out))
                      obtain ⟨a6, c6, hcut, hby6⟩ := bytes_tail HBi.out hcap hnk ((n : Int) + (k : Int)) (by omega)
                      have hdl : (b.drop (n + k)).length = b.length - (n + k) := List.length_drop
                      have km := fun d os => matches_p _ _ q (b.drop (n + k)) (grow (redrawn wr d) os) (Row.below (Row.below HQ.out (next HB1.out HOW.out)) (below_regrown wr d os)) (Row.below (show Bytes wr (.slice a6 (b.drop (n + k)).length c6) (b.drop (n + k)) by rw [hdl]; exact hby6) (below_regrown wr d os))
                      have hln : (b.drop (n + k)).length ≤ 4096 := by omega
                      rw [matV_ok HQok.out hln, seekE_ok HQok.out hln, hdl] at km
                      have KM := Lib.hid km
                      have HR := Lib.hid (show rowTo b q lo n (k + 1 - lo) = (rowTo b q lo n (k - lo) || matchV q (b.drop (n + k))) by
                        rw [show k + 1 - lo = (k - lo) + 1 by omega, rowTo_succ, show lo + (k - lo) = k by omega])
                      have HZ := Lib.hid (show (wn || (true && rowTo b q lo n (k + 1 - lo))) = ((wn || (true && rowTo b q lo n (k - lo))) || matchV q (b.drop (n + k))) by rw [HR.out, Bool.true_and, Bool.true_and, Bool.or_assoc])
                      generalize matchV q (b.drop (n + k)) = sv at *
                      generalize (wn || (true && rowTo b q lo n (k - lo))) = z at *
                      have p0 := fun d os => cell_regrown c0 d os
                      have p1 := fun d os => cell_regrown c1 d os
                      have p3 := fun d os => cell_regrown c3 d os
                      clear hk3 c0 c1 c2 km hln hby6 hdl HR
                      go_wp2_with fail
                      refine wp_region_quiet_below (by kernel_rfl) (by kernel_rfl) ?_
                      repeat (go_big_quiet_step ((go_at_call 17; exact Calls.regrown_of (KM.out _ _))))
                      refine wpQuiet_nil ?_
                      intro _ hw'
                      obtain ⟨⟨dq, osq⟩, hw''⟩ := hw'
                      subst hw''
                      have HW6 := Lib.hid (HWi.out.trans ((below_regrown wr dq osq).mono HWi.out.size))
                      clear p0 p1 p3 KM hcut c3
                      cases z with
                      | true =>
                        go_wp2_with fail
                        exact ⟨⟨k + 1, by omega, by omega, (fun h => by cases h), by rw [HZ.out]; rfl, by go_num, HW6.out⟩, by simp [intOf]; omega⟩
                      | false =>
                        go_wp2_with fail
                        exact ⟨⟨k + 1, by omega, by omega, (fun h => by cases h), by rw [HZ.out]; rfl, by go_num, HW6.out⟩, by simp [intOf]; omega⟩
                  · have hnk' : ¬ (n : Int) + (k : Int) ≤ (b.length : Int) := by omega
                    have HE := Lib.hid (show wantTo b p q lo hi (n + 1) = (wn || (fv && rowTo b q lo n (k - lo))) by
                      rw [HSn.out]
                      cases fv
                      · rfl
                      · rw [show cntN b lo hi n = k - lo by omega])
                    generalize (wn || (fv && rowTo b q lo n (k - lo))) = z at *
                    clear hk3
                    go_wp2_with fail
                    exact ⟨⟨n + 1, by omega, by rw [HE.out], by go_num, HOW.out⟩, by simp [intOf]; omega⟩
                · have hkh' : ¬ (k : Int) ≤ (hi : Int) := by omega
                  have HE := Lib.hid (show wantTo b p q lo hi (n + 1) = (wn || (fv && rowTo b q lo n (k - lo))) by
                    rw [HSn.out]
                    cases fv
                    · rfl
                    · rw [show cntN b lo hi n = k - lo by omega])
                  generalize (wn || (fv && rowTo b q lo n (k - lo))) = z at *
                  clear hk3
                  go_wp2_with fail
                  exact ⟨⟨n + 1, by omega, by rw [HE.out], by go_num, HOW.out⟩, by simp [intOf]; omega⟩
            · obtain rfl : n = b.length + 1 := by omega
              have i1 : ¬ (((b.length + 1 : Nat) : Int) ≤ (b.length : Int)) := by omega
              have HWW := Lib.hid (next HB1.out HWr.out)
              obtain ⟨ja, jc, rfl⟩ : ∃ ja jc, v1 = .slice ja (joinL p q lo hi).length jc := Row.form2 HJ.out
              have K := Lib.hid (matches_p _ _ (joinL p q lo hi) b wr (Row.below HJ.out HWr.out) (Row.below HBy.out HWW.out))
              rw [HJM.out, HJS.out] at K
              rw [HW.out]
              generalize matchV (joinL p q lo hi) b = mj at *
              go_wp2_with fail
              with_reducible refine K.out.mono ?_
              rintro e w8 ⟨rfl, hb8⟩
              have HB8 := Lib.hid (next HWW.out hb8)
              clear hb8 K
              go_wp2_with fail
              refine (shown_p _).mono ?_
              rintro e w9 ⟨rfl, hb9⟩
              have HB9 := Lib.hid (next HB8.out hb9)
              clear hb9
              go_wp2_with fail
              go_ret
              exact ⟨rfl, HB9.out⟩
        · have t1 : (joinE p q low high != 0) = true := bne_iff_ne.2 hj
          clear hj
          generalize joinE p q low high = E at *
          generalize joinV p q low high = jv at *
          go_enter Try.func5, Try.ntmps5
          go_wp2_with fail
          refine (K0.out _ HB0.out).mono ?_
          rintro e w0 ⟨rfl, rfl⟩
          go_wp2_with fail
          refine (K1.out _ HB0.out).mono ?_
          rintro e w0 ⟨rfl, rfl⟩
          go_wp2_with fail
          refine (K2.out _ HB0.out).mono ?_
          rintro e w1 ⟨v1, rfl, ho1, hb1⟩
          have HB1 := Lib.hid (next HB0.out hb1)
          clear ho1 hb1
          go_wp2_with fail
          refine (shown_p _).mono ?_
          rintro e w2 ⟨rfl, hb⟩
          have HB := Lib.hid (next HB1.out hb)
          clear hb
          go_wp2_with fail
          go_ret
          exact ⟨rfl, HB.out⟩

set_option maxRecDepth 100000 in
theorem walk {H : Type} {enc : TypeId × Value → H} {d d2 : DataW H} {p p2 : List MemPlace} {base base2 : Nat} (v u : Value) (w : World)
    (hk : DataW.Trod enc Try.prog w 0 (fun _ => true) true 39 v d p) (hv : Value.okWide Try.prog w .any base 39 v)
    (hk2 : DataW.Trod enc Try.prog w 0 (fun _ => true) true 30 u d2 p2) (hv2 : Value.okWide Try.prog w .any base2 30 u) :
    Calls Try.prog 5 #[v, u] w fun e w' => e = .returned (.bool true) ∧ Below w.heap.size w w' := by
  obtain ⟨v0, v1, v2, v3, t0, t1, t2, t3, n, rfl, -, -, q0, q1, q2, q3⟩ := Go.Joins.open_agg4 Try.underlying39 (by kernel_rfl) (by kernel_rfl) hv hk
  obtain ⟨lo, e2, _⟩ := DataW.trod_int Try.underlying3 q2
  obtain ⟨hi, e3, _⟩ := DataW.trod_int Try.underlying3 q3
  simp at e2 e3
  subst e2 e3
  obtain ⟨l, hl⟩ := pats_of q0
  obtain ⟨l2, hl2⟩ := pats_of q1
  obtain ⟨m2, hm2⟩ := hk2
  obtain ⟨a2, len2, cap2, rfl⟩ := okWide_slice Try.underlying30 hv2
  obtain ⟨b, hb⟩ := bytes_of hm2
  exact walkN _ _ _ l l2 b lo hi w hl hl2 hb (cap_of Try.underlying30 hm2)

theorem own : ownKnob Try.prog.godebug = none := by kernel_rfl
theorem laidOut : laidOutB Try.prog = true := by kernel_rfl

set_option maxRecDepth 100000 in
theorem lifted (os : Os) (started : os.Started) (H : Type) (enc : TypeId × Value → H) :
    ReturnsInHanded {} Try.checked os 5 .any (Rows.patternsJoinsSpec.pre6 enc Try.prog Try.f5 Rows.patternsJoinsRow.domain false) (Rows.patternsJoinsSpec.post enc Try.prog Try.f5 false true false false) := by
  refine returnsInHanded_of_change (C := Try.checked) own started (by kernel_rfl) Try.func5
    (ChangeSpec.witness6 (enc := enc) (C := Try.checked) false ⟨#[], #[.agg #[.slice none 0 0, .slice none 0 0, .int .i64 0, .int .i64 0], .slice none 0 0], []⟩ 8 (by kernel_rfl) (by kernel_rfl) (by kernel_rfl) (by kernel_rfl)) ?_
  intro W base args ds gs before hval0 hW hcnd _
  have hval : ∀ (j : Nat) t v, Try.f5.params[j]? = some t → args[j]? = some v → Value.okWide Try.prog W .any base t v := hval0
  have hW' := hW
  obtain ⟨p, q, hA0, hV, rfl, hfz, hnd⟩ := hW
  have hA : DataW.TrodAll enc Try.prog W 0 (fun _ => true) true Try.f5.params.toList args.toList ds p := hA0
  rw [Try.params5] at hA hval
  obtain ⟨v0, vs0, d0, ds0, p0, q0, hargs, rfl, rfl, k0, r0⟩ := trodAll_cons hA
  obtain ⟨v1, vs1, d1, ds1, p1, q1, rfl, rfl, rfl, k1, r1⟩ := trodAll_cons r0
  obtain ⟨rfl, rfl, rfl⟩ := trodAll_nil r1
  obtain rfl : args = #[v0, v1] := by cases args; simp_all
  obtain ⟨rfl, rfl⟩ := trodVars_none hV
  have lt0 : ∀ x ∈ p0, x.block < W.heap.size := by obtain ⟨m, hm⟩ := k0; exact DataW.trod_lt m _ _ _ hm
  have lt1 : ∀ x ∈ p1, x.block < W.heap.size := by obtain ⟨m, hm⟩ := k1; exact DataW.trod_lt m _ _ _ hm
  clear hA0 hval0
  refine (walk v0 v1 W k0 (hval 0 39 v0 rfl rfl) k1 (hval 1 30 v1 rfl rfl)).mono fun e W' ⟨he, bel⟩ => ?_
  subst he
  exact ⟨_, rfl, _, _, _, [], _, [], hW', trodAll_mk1 (shut_bool Try.underlying4 _), (trodAll_cons_mk (Below.trod laidOut (by kernel_rfl) (of_decide_eq_true (by kernel_rfl)) k0 bel lt0) (trodAll_cons_mk (Below.trod laidOut (by kernel_rfl) (of_decide_eq_true (by kernel_rfl)) k1 bel lt1) trodAll_mk0)), rfl, bel.frame _, fun h => by cases h⟩

theorem over : Rows.patternsJoinsRow.holds Try.pinned (OpenSpec.ofChange Rows.patternsJoinsSpec) :=
  OpenClaim.holds_of_wide 5 Try.f5 rfl rfl rfl rfl rfl rfl rfl ⟨rfl, rfl, rfl, rfl, rfl⟩ rfl rfl rfl rfl rfl (by kernel_rfl) Try.func5 (by kernel_rfl)
    (of_decide_eq_true (by kernel_rfl)) (by unfold Func.isWrapper; first | (rw [if_pos (by decide +kernel)]; kernel_rfl) | (rw [if_neg (by decide +kernel)]; exact ⟨rfl, rfl⟩))
    (fun os started H enc _ => lifted os started H enc)

theorem proved : Rows.PatternsJoinsSaid := over
#print axioms proved
end Go.Proofs.Ytllkohjmghoipaa.patternsJoins
