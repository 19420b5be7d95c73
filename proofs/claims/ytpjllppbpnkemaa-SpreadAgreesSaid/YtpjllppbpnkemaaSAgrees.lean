/- SpreadAgrees: the law returns true: some line matches exactly if the pattern does; the ends are the same. No conditions. -/
import Derived.Test.YtpjllppbpnkemaaSpEndP
namespace Go.Proofs.Ytpjllppbpnkemaa.spreadAgrees
open Go.ChangeShapes Go.WideShapes Go.ChangeAt Go.RowKit

theorem nums_of {w : World} {v : Value} {l : List Nat} (h : Row w 1 v l.length (ncells l)) : Nums w v (l.map fun (n : Nat) => (n : Int)) := by
  unfold Nums
  rw [List.length_map, List.map_map]
  exact h
set_option maxRecDepth 100000 in
set_option maxHeartbeats 20000000 in
theorem walkN (v : Value) (p : List El) (ba : Option Addr) (bc : Nat) (b : List UInt8) (w : World) (h : Pats w v p) (hb : Bytes w (.slice ba b.length bc) b) (hcap : b.length ≤ bc) :
    Calls Try.prog 3 #[v, .slice ba b.length bc] w fun e w' => e = .returned (.bool true) ∧ Below w.heap.size w w' := by
  have K0 := Lib.hid (long_p v p w h)
  have K1 := Lib.hid (fun w1 (hl : Below w.heap.size w w1) => lines_p v p w1 (Row.below h hl))
  have K2 := Lib.hid (fun w1 (hl : Below w.heap.size w w1) => matches_p v _ p b w1 (Row.below h hl) (Row.below hb hl))
  have K3 := Lib.hid (fun w1 (hl : Below w.heap.size w w1) => ends_p v _ p b w1 (Row.below h hl) (Row.below hb hl))
  have HY := Lib.hid hb
  unfold LinesP at K1
  unfold EndP at K3
  obtain ⟨a, cap, rfl⟩ := Row.form2 h
  clear h hb
  generalize longV p = lg at *
  cases lg with
  | true =>
    go_enter Try.func3, Try.ntmps3
    go_wp2_with fail
    refine K0.out.mono ?_
    rintro e w1 ⟨rfl, rfl⟩
    go_wp2_with fail
    refine (shown_p _).mono ?_
    rintro e w1 ⟨rfl, hb⟩
    have HB := Lib.hid hb
    clear hb
    go_wp2_with fail
    go_ret
    exact ⟨rfl, HB.out⟩
  | false =>
    by_cases h60 : (60 : Int) < (b.length : Int)
    · go_enter Try.func3, Try.ntmps3
      go_wp2_with fail
      refine K0.out.mono ?_
      rintro e w1 ⟨rfl, rfl⟩
      go_wp2_with fail
      refine (shown_p _).mono ?_
      rintro e w1 ⟨rfl, hb⟩
      have HB := Lib.hid hb
      clear hb
      go_wp2_with fail
      go_ret
      exact ⟨rfl, HB.out⟩
    · by_cases h0 : posE p = 0
      · have hok := (cntE_ok (posE_ok h0).1).1
        have hsk : seekE p b = 0 := by unfold seekE; rw [if_neg (by rw [hok.check]; simp), if_neg (by omega)]
        have hmv : matV p b = (linesV p).any (fun l => lineM l b) := by unfold matV; rw [if_pos hsk, lines_match h0]
        have hev : endV p b = linesEnds (linesV p) b := by unfold endV; rw [if_pos hsk, lines_endsV h0]
        rw [hmv, hsk] at K2
        rw [hev, hsk] at K3
        rw [h0] at K1
        have HPS := Lib.hid (lines_pos h0)
        have hl64 : (linesV p).length ≤ 64 := by unfold linesV; rw [List.length_map]; exact chos_len
        have K4 := Lib.hid (fun w1 (hl : Below w.heap.size w w1) Lv (hL : Lines w1 Lv (linesV p)) => endsS_p Lv (linesV p) b ba bc w1 hL (Row.below HY.out hl) hcap HPS.out (by omega) hl64)
        unfold EndP at K4
        clear h0 hok hsk hmv hev HPS
        generalize linesV p = L at *
        go_enter Try.func3, Try.ntmps3
        go_wp2_with fail
        refine K0.out.mono ?_
        rintro e w1 ⟨rfl, rfl⟩
        go_wp2_with fail
        with_reducible refine (K1.out w (Below.refl _ _)).mono ?_
        rintro e w2 ⟨lv, rfl, hl1, hb1⟩
        have HB2 := Lib.hid hb1
        have HL := Lib.hid hl1.lines
        obtain ⟨la, lc, rfl⟩ := hl1.lines.form
        clear hl1 hb1 K1
        go_wp2_with fail
        go_loopw [7, 8] (fun sv iv wr => ∃ i : Nat, i ≤ L.length ∧ iv = .int .i64 (i : Nat) ∧ sv = .bool ((L.take i).any fun l => lineM l b) ∧ Below w2.heap.size w2 wr) (fun _ iv _ => L.length - (intOf iv).toNat)
        case atStart => exact ⟨0, by omega, rfl, rfl, Below.refl _ _⟩
        case round =>
          obtain ⟨i, hi, rfl, rfl, hB⟩ := hrel
          have HB := Lib.hid hB
          have HBW := Lib.hid (next HB2.out hB)
          clear hB
          by_cases hlt : i < L.length
          · have i1 : (0 : Int) ≤ (i : Int) := by omega
            have i2 : (i : Int) < (L.length : Int) := by omega
            have wi1 : IntKind.i64.wrap ((i : Int) + 1) = (i : Int) + 1 := IntWalk.i64_in _ (by omega)
            obtain ⟨g, o, xa, xc, hga, hg, hc, hx⟩ := (HL.out.below HB.out).at hlt
            subst hga
            have KM := Lib.hid (matchS_p _ _ L[i] b wr hx (Row.below HY.out HBW.out))
            have HST := Lib.hid (show ((L.take (i + 1)).any fun l => lineM l b) = (((L.take i).any fun l => lineM l b) || lineM L[i] b) by rw [List.take_succ_eq_append_getElem hlt, List.any_append]; simp)
            clear hx
            generalize (L.take i).any (fun l => lineM l b) = s1 at *
            generalize L[i] = l at *
            cases s1 with
            | true =>
              go_wp2_with fail
              exact ⟨⟨i + 1, by omega, by go_num, by rw [HST.out]; rfl, HB.out⟩, by simp [intOf]; omega⟩
            | false =>
              go_wp2_with fail
              with_reducible refine KM.out.mono ?_
              rintro e w3 ⟨rfl, hb3⟩
              have HB3 := Lib.hid (next HB.out hb3)
              clear hb3 KM
              go_wp2_with fail
              exact ⟨⟨i + 1, by omega, by go_num, by rw [HST.out]; rfl, HB3.out⟩, by simp [intOf]; omega⟩
          · obtain rfl : i = L.length := by omega
            have i2 : ¬ (L.length : Int) < (L.length : Int) := by omega
            rw [List.take_length]
            generalize (L.any fun l => lineM l b) = sm at *
            go_wp2_with fail
            with_reducible refine (K2.out wr HBW.out).mono ?_
            rintro e w3 ⟨rfl, hb3⟩
            have HB3 := Lib.hid (next HBW.out hb3)
            replace HL := Lib.hid ((HL.out.below HB.out).below hb3)
            clear hb3 K2
            go_wp2_with fail
            with_reducible refine (K4.out w3 HB3.out _ HL.out).mono ?_
            rintro e w4 ⟨v4, rfl, ho4, hb4⟩
            have HB4 := Lib.hid (next HB3.out hb4)
            have HN4 := Lib.hid (Row.of_owns ho4)
            obtain ⟨a4, q4, rfl⟩ := Row.form2 HN4.out
            clear hb4 ho4 K4
            go_wp2_with fail
            with_reducible refine (K3.out w4 HB4.out).mono ?_
            rintro e w5 ⟨v5, rfl, ho5, hb5⟩
            have HB5 := Lib.hid (next HB4.out hb5)
            have hn5 := nums_of (Row.of_owns ho5)
            have KI := intsS_r _ _ _ _ w5 (nums_of (Row.below HN4.out hb5)) hn5
            obtain ⟨a5, q5, rfl⟩ := Row.form2 (Row.of_owns ho5)
            simp only [decide_true] at KI
            have KI := Lib.hid KI
            clear hb5 ho5 K3 hn5 HN4
            generalize (linesEnds L b).length = n5 at *
            go_wp2_with fail
            with_reducible refine KI.out.mono ?_
            rintro e w6 ⟨rfl, hb6⟩
            have HB6 := Lib.hid (next HB5.out hb6)
            clear hb6 KI
            go_wp2_with fail
            refine (shown_p _).mono ?_
            rintro e w7 ⟨rfl, hb7⟩
            have HB7 := Lib.hid (next HB6.out hb7)
            clear hb7
            go_wp2_with fail
            go_ret
            exact ⟨rfl, HB7.out⟩
      · have t1 : (posE p != 0) = true := bne_iff_ne.2 h0
        generalize posE p = E at *
        clear h0
        go_enter Try.func3, Try.ntmps3
        go_wp2_with fail
        refine K0.out.mono ?_
        rintro e w1 ⟨rfl, rfl⟩
        go_wp2_with fail
        with_reducible refine (K1.out w (Below.refl _ _)).mono ?_
        rintro e w2 ⟨lv, rfl, hl1, hb1⟩
        have HB1 := Lib.hid hb1
        obtain ⟨la, lc, rfl⟩ := hl1.lines.form
        clear hl1 hb1 K1
        go_wp2_with fail
        refine (shown_p _).mono ?_
        rintro e w3 ⟨rfl, hb⟩
        have HB := Lib.hid (next HB1.out hb)
        clear hb
        go_wp2_with fail
        go_ret
        exact ⟨rfl, HB.out⟩

set_option maxRecDepth 100000 in
theorem walk {H : Type} {enc : TypeId × Value → H} {d d2 : DataW H} {p p2 : List MemPlace} {base base2 : Nat} (v u : Value) (w : World)
    (hk : DataW.Trod enc Try.prog w 0 (fun _ => true) true 22 v d p) (hv : Value.okWide Try.prog w .any base 22 v)
    (hk2 : DataW.Trod enc Try.prog w 0 (fun _ => true) true 23 u d2 p2) (hv2 : Value.okWide Try.prog w .any base2 23 u) :
    Calls Try.prog 3 #[v, u] w fun e w' => e = .returned (.bool true) ∧ Below w.heap.size w w' := by
  obtain ⟨m, hm⟩ := hk
  obtain ⟨m2, hm2⟩ := hk2
  obtain ⟨a, len, cap, rfl⟩ := okWide_slice Try.underlying22 hv
  obtain ⟨a2, len2, cap2, rfl⟩ := okWide_slice Try.underlying23 hv2
  obtain ⟨l, hl⟩ := pats_of hm
  obtain ⟨b, hb⟩ := bytes_of hm2
  have hc := (cap_of Try.underlying23 hm2).le
  obtain ⟨ba, bc, e⟩ := Row.form2 hb
  cases e
  exact walkN _ l _ _ b w hl hb hc

theorem own : ownKnob Try.prog.godebug = none := by kernel_rfl
theorem laidOut : laidOutB Try.prog = true := by kernel_rfl

set_option maxRecDepth 100000 in
theorem lifted (os : Os) (started : os.Started) (H : Type) (enc : TypeId × Value → H) :
    ReturnsInHanded {} Try.checked os 3 .any (Rows.spreadAgreesSpec.pre6 enc Try.prog Try.f3 Rows.spreadAgreesRow.domain false) (Rows.spreadAgreesSpec.post enc Try.prog Try.f3 false true false false) := by
  refine returnsInHanded_of_change (C := Try.checked) own started (by kernel_rfl) Try.func3
    (ChangeSpec.witness6 (enc := enc) (C := Try.checked) false ⟨#[], #[.slice none 0 0, .slice none 0 0], []⟩ 8 (by kernel_rfl) (by kernel_rfl) (by kernel_rfl) (by kernel_rfl)) ?_
  intro W base args ds gs before hval0 hW hcnd _
  have hval : ∀ (j : Nat) t v, Try.f3.params[j]? = some t → args[j]? = some v → Value.okWide Try.prog W .any base t v := hval0
  have hW' := hW
  obtain ⟨p, q, hA0, hV, rfl, hfz, hnd⟩ := hW
  have hA : DataW.TrodAll enc Try.prog W 0 (fun _ => true) true Try.f3.params.toList args.toList ds p := hA0
  rw [Try.params3] at hA hval
  obtain ⟨v0, vs0, d0, ds0, p0, q0, hargs, rfl, rfl, k0, r0⟩ := trodAll_cons hA
  obtain ⟨v1, vs1, d1, ds1, p1, q1, rfl, rfl, rfl, k1, r1⟩ := trodAll_cons r0
  obtain ⟨rfl, rfl, rfl⟩ := trodAll_nil r1
  obtain rfl : args = #[v0, v1] := by cases args; simp_all
  obtain ⟨rfl, rfl⟩ := trodVars_none hV
  have lt0 : ∀ x ∈ p0, x.block < W.heap.size := by obtain ⟨m, hm⟩ := k0; exact DataW.trod_lt m _ _ _ hm
  have lt1 : ∀ x ∈ p1, x.block < W.heap.size := by obtain ⟨m, hm⟩ := k1; exact DataW.trod_lt m _ _ _ hm
  clear hA0 hval0
  refine (walk v0 v1 W k0 (hval 0 22 v0 rfl rfl) k1 (hval 1 23 v1 rfl rfl)).mono fun e W' ⟨he, bel⟩ => ?_
  subst he
  exact ⟨_, rfl, _, _, _, [], _, [], hW', trodAll_mk1 (shut_bool Try.underlying4 _), (trodAll_cons_mk (Below.trod laidOut (by kernel_rfl) (of_decide_eq_true (by kernel_rfl)) k0 bel lt0) (trodAll_cons_mk (Below.trod laidOut (by kernel_rfl) (of_decide_eq_true (by kernel_rfl)) k1 bel lt1) trodAll_mk0)), rfl, bel.frame _, fun h => by cases h⟩

theorem over : Rows.spreadAgreesRow.holds Try.pinned (OpenSpec.ofChange Rows.spreadAgreesSpec) :=
  OpenClaim.holds_of_wide 3 Try.f3 rfl rfl rfl rfl rfl rfl rfl ⟨rfl, rfl, rfl, rfl, rfl⟩ rfl rfl rfl rfl rfl (by kernel_rfl) Try.func3 (by kernel_rfl)
    (of_decide_eq_true (by kernel_rfl)) (by unfold Func.isWrapper; first | (rw [if_pos (by decide +kernel)]; kernel_rfl) | (rw [if_neg (by decide +kernel)]; exact ⟨rfl, rfl⟩))
    (fun os started H enc _ => lifted os started H enc)

theorem proved : Rows.SpreadAgreesSaid := over
#print axioms proved
end Go.Proofs.Ytpjllppbpnkemaa.spreadAgrees
