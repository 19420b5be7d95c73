/- PatternsTurn: the law returns true: the reversed pattern matches the reversed bytes if the pattern matches the bytes, and not otherwise. No conditions. -/
import Derived.Test.YtllkohjmghoipaaPaLong
import Derived.Test.YtllkohjmghoipaaPaV5
import Derived.Test.YtllkohjmghoipaaPaRevP
namespace Go.Proofs.Ytllkohjmghoipaa.patternsTurn
open Go.ChangeShapes Go.WideShapes Go.ChangeAt Go.RowKit

theorem infoU8 : (Try.prog.info? 5).map (fun i => (i.zero, i.size, i.bytes)) = some (some (.int .u8 0), 1, 1) := by kernel_rfl
def revB (b : List UInt8) (k : Nat) : List UInt8 := (b.drop k).reverse
theorem revB_len (b : List UInt8) (k : Nat) : (revB b k).length = b.length - k := by simp [revB]
theorem revB_step {b : List UInt8} {k : Nat} (h : k < b.length) : revB b k = revB b (k + 1) ++ [b[k]] := by
  unfold revB
  rw [List.drop_eq_getElem_cons h, List.reverse_cons]

set_option maxRecDepth 100000 in
set_option maxHeartbeats 8000000 in
theorem walkN (v u : Value) (p : List El) (b : List UInt8) (w : World) (h : Pats w v p) (hb : Bytes w u b) :
    Calls Try.prog 8 #[v, u] w fun e w' => e = .returned (.bool true) ∧ Below w.heap.size w w' := by
  have K0 := Lib.hid (long_p v p w h)
  have K1 := Lib.hid (reverse_p v p w h)
  have K2 := Lib.hid (fun w1 (hl : Below w.heap.size w w1) => matches_p v u p b w1 (Row.below h hl) (Row.below hb hl))
  have HB := Lib.hid hb
  have HP := Lib.hid h
  obtain ⟨a, cap, rfl⟩ := Row.form2 h
  obtain ⟨a2, cap2, rfl⟩ := Row.form2 hb
  clear h hb
  generalize longV p = lg at *
  cases lg with
  | true =>
    go_enter Try.func8, Try.ntmps8
    go_wp2_with fail
    refine K0.out.mono ?_
    rintro e w1 ⟨rfl, rfl⟩
    go_wp2_with fail
    refine (shown_p _).mono ?_
    rintro e w1 ⟨rfl, hb⟩
    have HB := Lib.hid hb
    clear hb
    go_wp2_with fail
    go_ret
    exact ⟨rfl, HB.out⟩
  | false =>
    by_cases hl : 60 < b.length
    · go_enter Try.func8, Try.ntmps8
      go_wp2_with fail
      refine K0.out.mono ?_
      rintro e w1 ⟨rfl, rfl⟩
      go_wp2_with fail
      refine (shown_p _).mono ?_
      rintro e w1 ⟨rfl, hb⟩
      have HB := Lib.hid hb
      clear hb
      go_wp2_with fail
      go_ret
      exact ⟨rfl, HB.out⟩
    · by_cases h0 : (checkV p).2 = 0
      · have hok := okP_of h0
        have HS := Lib.hid (seekE_ok hok (show b.length ≤ 4096 by omega))
        have HM := Lib.hid (matV_ok hok (show b.length ≤ 4096 by omega))
        have HM2 := Lib.hid (matV_ok hok.reverse (show b.reverse.length ≤ 4096 by simp; omega))
        have HS2 := Lib.hid (seekE_ok hok.reverse (show b.reverse.length ≤ 4096 by simp; omega))
        have HR := Lib.hid (revV_ok hok)
        have HR2 := Lib.hid (show revV p.reverse = p by rw [revV_ok hok.reverse, List.reverse_reverse])
        have HC2 := Lib.hid hok.reverse.check
        rw [h0, HR.out] at K1
        rw [HS.out, HM.out] at K2
        have wl : IntKind.i64.wrap ((b.length : Int) - 1) = (b.length : Int) - 1 := IntWalk.i64_in _ (by omega)
        obtain ⟨j0, hj, hy0, hy1, hy2⟩ := info_parts infoU8
        clear h0 hok
        go_enter Try.func8, Try.ntmps8
        go_wp2_with fail
        refine K0.out.mono ?_
        rintro e w0 ⟨rfl, rfl⟩
        go_wp2_with fail
        refine K1.out.mono ?_
        rintro e w1 ⟨v1, rfl, ho1, hb1⟩
        have HQ := Lib.hid (Row.of_owns ho1)
        obtain ⟨qa, qc, hqe⟩ := Row.form2 HQ.out
        rw [List.length_reverse] at hqe
        subst hqe
        have HB1 := Lib.hid hb1
        clear ho1 hb1 K0 K1
        go_wp2_with fail
        go_loopw [7, 8] (fun cv nv wr => ∃ n : Nat, n ≤ b.length ∧ nv = .int .i64 ((n : Int) - 1) ∧ wr.ownsRow w1.heap.size 5 1 cv (revB b n).length (bcells (revB b n)) ∧ Below w1.heap.size w1 wr) (fun _ nv _ => (intOf nv + 1).toNat)
        case atStart => exact ⟨b.length, by omega, rfl, by rw [show revB b b.length = [] by simp [revB]]; exact World.ownsRow_nil _ _ _ _, Below.refl _ _⟩
        case round =>
          obtain ⟨n, hn, rfl, hown, hB2⟩ := hrel
          obtain ⟨oa, ocap, rfl⟩ := Row.form2 (Row.of_owns hown)
          have HO := Lib.hid hown
          have HB2 := Lib.hid hB2
          have hs2 := hB2.size
          cases n with
          | zero =>
            have HC := Lib.hid (show Bytes wr (.slice oa (revB b 0).length ocap) b.reverse by
              have := Row.of_owns HO.out
              exact this)
            have HW2 := Lib.hid (next HB1.out HB2.out)
            have HQ2 := Lib.hid (Row.below HQ.out HB2.out)
            clear hown hB2
            go_wp2_with fail
            refine (K2.out wr HW2.out).mono ?_
            rintro e w3 ⟨rfl, hb3⟩
            have HW3 := Lib.hid (next HW2.out hb3)
            have HQ3 := Lib.hid (Row.below HQ2.out hb3)
            have K3 := Lib.hid (matches_p _ _ p.reverse b.reverse w3 (Row.below HQ2.out hb3) (Row.below HC.out hb3))
            rw [HM2.out, HS2.out, matchV_reverse] at K3
            clear hb3
            generalize matchV p b = mv at *
            go_wp2_with fail
            with_reducible refine K3.out.mono ?_
            rintro e w4 ⟨rfl, hb4⟩
            have HW4 := Lib.hid (next HW3.out hb4)
            have K4 := Lib.hid (reverse_p _ p.reverse w4 (Row.below HQ3.out hb4))
            rw [HC2.out, HR2.out] at K4
            clear hb4 K3
            go_wp2_with fail
            with_reducible refine K4.out.mono ?_
            rintro e w5 ⟨v5, rfl, ho5, hb5⟩
            have K5 := Lib.hid (same_r v5 _ p p w5 (Row.of_owns ho5) (Row.below HP.out (next HW4.out hb5)))
            rw [decide_eq_true (rfl : p = p)] at K5
            have HW5 := Lib.hid (next HW4.out hb5)
            obtain ⟨ra, rc, rfl⟩ := Row.form2 (Row.of_owns ho5)
            clear ho5 hb5 K4
            go_wp2_with fail
            with_reducible refine K5.out.mono ?_
            rintro e w6 ⟨rfl, hb6⟩
            have HW6 := Lib.hid (next HW5.out hb6)
            clear hb6 K5
            go_wp2_with fail
            refine (shown_p _).mono ?_
            rintro e w7 ⟨rfl, hb7⟩
            have HW7 := Lib.hid (next HW6.out hb7)
            clear hb7
            go_wp2_with fail
            go_ret
            exact ⟨rfl, HW7.out⟩
          | succ m =>
            have hlt : m < b.length := by omega
            obtain ⟨g, o, hga, hg, c0⟩ := Bytes.at (Row.below HB.out (next HB1.out hB2)) hlt
            subst hga
            have e1 : (((m + 1 : Nat) : Int) - 1) = (m : Int) := by omega
            have n0 : (0 : Int) ≤ (m : Int) := by omega
            have n1 : (m : Int) < (b.length : Int) := by omega
            have wn1 : IntKind.i64.wrap ((m : Int) - 1) = (m : Int) - 1 := IntWalk.i64_in _ (by omega)
            have HE := Lib.hid (revB_step hlt)
            have hlen : (revB b (m + 1)).length ≤ 60 := by rw [revB_len]; omega
            clear hown hB2
            generalize b[m] = x at *
            rw [e1]
            go_wp2_with (at_builtin; refine wpList_append_lies _ rfl _ _ _ rfl w1.heap.size 5 j0 _ 1 1 Try.underlying30 hj hy0 hy1 hy2 rfl (by decide) (.slice oa (revB b (m + 1)).length ocap) (revB b (m + 1)).length (bcells (revB b (m + 1))) rfl (HO.out.alloc _) ⟨wr.heap.size, 0, none⟩ 1 1 [.int .u8 (x.toNat : Int)] rfl rfl (World.news_of_block (cs := #[.int .u8 (x.toNat : Int)]) (t := 5) (fr := (0, 0)) (heap_alloc_new wr _)) (by simp [Value.oneCell']) (by decide) (by unfold maxLen; omega) (by omega) (by simp; omega) (wr.heap.size + 1) (by simp) ?_; intro g9 cap9 w9 hown9 hgrow9 hat9 hlt9)
            have hal := (Below.refl w1.heap.size wr).alloc hs2 (.cells #[.int .u8 (x.toNat : Int)] 5)
            have hb9 : Below w1.heap.size wr w9 := hal.grown hgrow9 (by simp; omega) (fun q e => (HO.out.lt q e).1)
            have hend : w9.ownsRow w1.heap.size 5 1 (.slice (some ⟨g9, 0, none⟩) ((revB b (m + 1)).length + 1) cap9) (revB b m).length (bcells (revB b m)) := by
              rw [HE.out, List.length_append, List.length_singleton, show bcells (revB b (m + 1) ++ [x]) = bcells (revB b (m + 1)) ++ [.int .u8 (x.toNat : Int)] by simp [bcells]]
              exact hown9
            exact ⟨⟨m, by omega, by go_num, hend, HB2.out.trans hb9⟩, by simp [intOf]⟩
      · have t1 : ((checkV p).2 != 0) = true := bne_iff_ne.2 h0
        generalize (checkV p).2 = E at *
        generalize revV p = rv at *
        clear h0
        go_enter Try.func8, Try.ntmps8
        go_wp2_with fail
        refine K0.out.mono ?_
        rintro e w0 ⟨rfl, rfl⟩
        go_wp2_with fail
        refine K1.out.mono ?_
        rintro e w1 ⟨v1, rfl, ho1, hb1⟩
        have HB1 := Lib.hid hb1
        clear ho1 hb1 K1
        go_wp2_with fail
        refine (shown_p _).mono ?_
        rintro e w2 ⟨rfl, hb⟩
        have HW := Lib.hid (next HB1.out hb)
        clear hb
        go_wp2_with fail
        go_ret
        exact ⟨rfl, HW.out⟩

set_option maxRecDepth 100000 in
theorem walk {H : Type} {enc : TypeId × Value → H} {d d2 : DataW H} {p p2 : List MemPlace} {base base2 : Nat} (v u : Value) (w : World)
    (hk : DataW.Trod enc Try.prog w 0 (fun _ => true) true 22 v d p) (hv : Value.okWide Try.prog w .any base 22 v)
    (hk2 : DataW.Trod enc Try.prog w 0 (fun _ => true) true 30 u d2 p2) (hv2 : Value.okWide Try.prog w .any base2 30 u) :
    Calls Try.prog 8 #[v, u] w fun e w' => e = .returned (.bool true) ∧ Below w.heap.size w w' := by
  obtain ⟨m, hm⟩ := hk
  obtain ⟨m2, hm2⟩ := hk2
  obtain ⟨a, len, cap, rfl⟩ := okWide_slice Try.underlying22 hv
  obtain ⟨a2, len2, cap2, rfl⟩ := okWide_slice Try.underlying30 hv2
  obtain ⟨l, hl⟩ := pats_of hm
  obtain ⟨b, hb⟩ := bytes_of hm2
  exact walkN _ _ l b w hl hb

theorem own : ownKnob Try.prog.godebug = none := by kernel_rfl
theorem laidOut : laidOutB Try.prog = true := by kernel_rfl

set_option maxRecDepth 100000 in
theorem lifted (os : Os) (started : os.Started) (H : Type) (enc : TypeId × Value → H) :
    ReturnsInHanded {} Try.checked os 8 .any (Rows.patternsTurnSpec.pre6 enc Try.prog Try.f8 Rows.patternsTurnRow.domain false) (Rows.patternsTurnSpec.post enc Try.prog Try.f8 false true false false) := by
  refine returnsInHanded_of_change (C := Try.checked) own started (by kernel_rfl) Try.func8
    (ChangeSpec.witness6 (enc := enc) (C := Try.checked) false ⟨#[], #[.slice none 0 0, .slice none 0 0], []⟩ 8 (by kernel_rfl) (by kernel_rfl) (by kernel_rfl) (by kernel_rfl)) ?_
  intro W base args ds gs before hval0 hW hcnd _
  have hval : ∀ (j : Nat) t v, Try.f8.params[j]? = some t → args[j]? = some v → Value.okWide Try.prog W .any base t v := hval0
  have hW' := hW
  obtain ⟨p, q, hA0, hV, rfl, hfz, hnd⟩ := hW
  have hA : DataW.TrodAll enc Try.prog W 0 (fun _ => true) true Try.f8.params.toList args.toList ds p := hA0
  rw [Try.params8] at hA hval
  obtain ⟨v0, vs0, d0, ds0, p0, q0, hargs, rfl, rfl, k0, r0⟩ := trodAll_cons hA
  obtain ⟨v1, vs1, d1, ds1, p1, q1, rfl, rfl, rfl, k1, r1⟩ := trodAll_cons r0
  obtain ⟨rfl, rfl, rfl⟩ := trodAll_nil r1
  obtain rfl : args = #[v0, v1] := by cases args; simp_all
  obtain ⟨rfl, rfl⟩ := trodVars_none hV
  have lt0 : ∀ x ∈ p0, x.block < W.heap.size := by obtain ⟨m, hm⟩ := k0; exact DataW.trod_lt m _ _ _ hm
  have lt1 : ∀ x ∈ p1, x.block < W.heap.size := by obtain ⟨m, hm⟩ := k1; exact DataW.trod_lt m _ _ _ hm
  clear hA0 hval0
  refine (walk v0 v1 W k0 (hval 0 22 v0 rfl rfl) k1 (hval 1 30 v1 rfl rfl)).mono fun e W' ⟨he, bel⟩ => ?_
  subst he
  exact ⟨_, rfl, _, _, _, [], _, [], hW', trodAll_mk1 (shut_bool Try.underlying4 _), (trodAll_cons_mk (Below.trod laidOut (by kernel_rfl) (of_decide_eq_true (by kernel_rfl)) k0 bel lt0) (trodAll_cons_mk (Below.trod laidOut (by kernel_rfl) (of_decide_eq_true (by kernel_rfl)) k1 bel lt1) trodAll_mk0)), rfl, bel.frame _, fun h => by cases h⟩

theorem over : Rows.patternsTurnRow.holds Try.pinned (OpenSpec.ofChange Rows.patternsTurnSpec) :=
  OpenClaim.holds_of_wide 8 Try.f8 rfl rfl rfl rfl rfl rfl rfl ⟨rfl, rfl, rfl, rfl, rfl⟩ rfl rfl rfl rfl rfl (by kernel_rfl) Try.func8 (by kernel_rfl)
    (of_decide_eq_true (by kernel_rfl)) (by unfold Func.isWrapper; first | (rw [if_pos (by decide +kernel)]; kernel_rfl) | (rw [if_neg (by decide +kernel)]; exact ⟨rfl, rfl⟩))
    (fun os started H enc _ => lifted os started H enc)

theorem proved : Rows.PatternsTurnSaid := over
#print axioms proved
end Go.Proofs.Ytllkohjmghoipaa.patternsTurn
