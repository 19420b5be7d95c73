/- SpreadTurn: the law returns true: the reversed lines are lines of the reversed pattern. No conditions. -/
import Derived.Test.YtpjllppbpnkemaaMg7
import Derived.Test.YtpjllppbpnkemaaMg6
import Derived.Test.YtpjllppbpnkemaaMg5
namespace Go.Proofs.Ytpjllppbpnkemaa.spreadTurn
open Go.ChangeShapes Go.WideShapes Go.ChangeAt Go.RowKit

theorem back_step (l : List CSet) {m : Nat} (h : m < l.length) : (l.drop m).reverse = (l.drop (m + 1)).reverse ++ [l[m]] := by
  rw [List.drop_eq_getElem_cons h, List.reverse_cons]
set_option maxRecDepth 100000 in
set_option maxHeartbeats 20000000 in
theorem walkN (v : Value) (p : List El) (w : World) (h : Pats w v p) :
    Calls Try.prog 9 #[v] w fun e w' => e = .returned (.bool true) ∧ Below w.heap.size w w' := by
  have K0 := Lib.hid (long_p v p w h)
  have K1 := Lib.hid (fun w1 (hb : Below w.heap.size w w1) => lines_p v p w1 (Row.below h hb))
  have K2 := Lib.hid (fun w1 (hb : Below w.heap.size w w1) => reverse_p v p w1 (Row.below h hb))
  unfold LinesP at K1
  unfold PatP at K2
  obtain ⟨a, cap, rfl⟩ := Row.form2 h
  clear h
  generalize longV p = lg at *
  obtain ⟨i0, hi0, hz0, hz1, hz2⟩ := info_parts infoB
  by_cases h0 : posE p = 0
  · have hok := (cntE_ok (posE_ok h0).1).1
    have eR : revV p = p.reverse := by unfold revV; rw [if_pos (by rw [hok.check])]
    have eC : (checkV p).2 = 0 := by rw [hok.check]
    have h0r := posE_rev h0
    rw [h0] at K1
    rw [eR, eC] at K2
    have HE := Lib.hid h0r
    have hT := turned_perm h0
    have hN : 1 ≤ (linesV p).length := by unfold linesV; rw [List.length_map]; exact (chosL_len h0).2
    have hN2 : (linesV p).length ≤ 64 := by unfold linesV; rw [List.length_map]; exact chos_len
    have K3 := Lib.hid (fun qv w1 (hq : Pats w1 qv p.reverse) => lines_p qv p.reverse w1 hq)
    unfold LinesP at K3
    rw [h0r] at K3
    have hTL : (linesV p.reverse).length = (linesV p).length := by rw [hT.length_eq, List.length_map]
    have HTP := Lib.hid hT
    have HSH := Lib.hid (lines_short h0)
    clear h0 hok eR eC h0r hT
    generalize linesV p = L at *
    generalize linesV p.reverse = T at *
    go_enter Try.func9, Try.ntmps9
    go_wp2_with fail
    refine K0.out.mono ?_
    rintro e w1 ⟨rfl, rfl⟩
    cases lg with
    | true =>
      go_wp2_with fail
      refine (shown_p _).mono ?_
      rintro e w1 ⟨rfl, hb⟩
      have HB := Lib.hid hb
      clear hb
      go_wp2_with fail
      go_ret
      exact ⟨rfl, HB.out⟩
    | false =>
      go_wp2_with fail
      with_reducible refine (K1.out w (Below.refl _ _)).mono ?_
      rintro e w1 ⟨lv, rfl, hl1, hb1⟩
      have HB1 := Lib.hid hb1
      have HL := Lib.hid hl1.lines
      obtain ⟨la, lc, rfl⟩ := hl1.lines.form
      clear hl1 hb1 K1
      go_wp2_with fail
      with_reducible refine (K2.out w1 HB1.out).mono ?_
      rintro e w2 ⟨qv, rfl, hq, hb2⟩
      have HB2 := Lib.hid (next HB1.out hb2)
      replace HL := Lib.hid (HL.out.below hb2)
      have KT := K3.out qv w2 (Row.of_owns hq)
      obtain ⟨qa, qc, rfl⟩ := Row.form2 (Row.of_owns hq)
      rw [List.length_reverse] at KT
      have KT := Lib.hid KT
      clear hb2 hq K2 K3
      go_wp2_with fail
      with_reducible refine KT.out.mono ?_
      rintro e w4 ⟨tv, rfl, ht1, hb4⟩
      have HB4 := Lib.hid (next HB2.out hb4)
      replace HL := Lib.hid (HL.out.below hb4)
      have HT := Lib.hid ht1.lines
      obtain ⟨ta, tc, rfl⟩ := ht1.lines.form
      clear hb4 ht1 KT
      have HTL := Lib.hid hTL
      rw [hTL]
      obtain ⟨N, hNN⟩ : ∃ N, N = L.length := ⟨_, rfl⟩
      rw [← hNN] at hN hN2 hTL ⊢
      have HNN := Lib.hid hNN
      have tN : ((N : Int) != (N : Int)) = false := bne_self_eq_false _
      clear hTL hNN
      go_wp2_with (at_make; refine wpList_make_full _ rfl _ _ 58 rfl w4.heap.size 4 i0 _ 1 Try.underlying58 hi0 hz0 hz1 _ _ _ _ N rfl rfl (by omega) (by omega) (by rw [hz2]; omega) (by unfold maxLen; omega) (Nat.le_refl _) ?_; intro w5 hown hgrow)
      have hr5 := bools_made (by omega) hown
      have hb5 : Below w4.heap.size w4 w5 := (Below.refl _ _).grown hgrow (Nat.le_refl _) (fun q e => by cases e)
      have HR5 := Lib.hid hr5
      have HB5 := Lib.hid hb5
      clear hown hgrow hr5 hb5
      obtain ⟨G, hG⟩ : ∃ G, G = w4.heap.size := ⟨_, rfl⟩
      rw [← hG] at HR5 HB5 ⊢
      have HG := Lib.hid hG
      clear hG
      go_loopw [9] (fun iv wr => ∃ (i : Nat) (f : Nat → Bool), i ≤ N ∧ iv = .int .i64 (i : Nat) ∧ BRow wr G N f ∧ (leftF f T).Perm ((L.map List.reverse).drop i) ∧ Below G w4 wr) (fun iv _ => N - (intOf iv).toNat)
      case atStart => exact ⟨0, fun _ => false, by omega, rfl, HR5.out, by rw [leftF_none T _ (fun _ => rfl)]; exact HTP.out, HB5.out⟩
      case round =>
        obtain ⟨i, f, hi, rfl, hr, hp, hB⟩ := hrel
        have hB' : Below w4.heap.size w4 wr := by rw [← HG.out]; exact hB
        have HB := Lib.hid hB'
        have HR := Lib.hid hr
        have HP := Lib.hid hp
        clear hr hp hB
        obtain ⟨W2, rfl⟩ : ∃ W2, W2 = wr := ⟨_, rfl⟩
        by_cases hlt : i < N
        · obtain ⟨gl, ol, b, c, hla, _, d0, hline⟩ := (HL.out.below hB').at (i := i) (by rw [← HNN.out]; exact hlt)
          subst hla
          have hsl := HSH.out (L[i]'(by rw [← HNN.out]; exact hlt)) (List.getElem_mem _)
          have HMI := Lib.hid (show (L.map List.reverse)[i]? = some ((L[i]'(by rw [← HNN.out]; exact hlt)).reverse) by rw [List.getElem?_map, List.getElem?_eq_getElem]; rfl)
          generalize (L[i]'(by rw [← HNN.out]; exact hlt)) = l at *
          have HLI := Lib.hid hline
          have HD0 := Lib.hid d0
          have i1 : (0 : Int) ≤ (i : Int) := by omega
          have i2 : (i : Int) < (N : Int) := by omega
          have wi1 : IntKind.i64.wrap ((i : Int) + 1) = (i : Int) + 1 := IntWalk.i64_in _ (by omega)
          have wl1 : IntKind.i64.wrap ((l.length : Int) - 1) = (l.length : Int) - 1 := IntWalk.i64_in _ (by omega)
          clear hline hB'
          go_wp2_with fail
          clear d0
          go_loopw [10, 11] (fun ov kv w6 => ∃ (m : Nat) (ow : Value), ow = ov ∧ m ≤ l.length ∧ kv = .int .i64 ((m : Int) - 1) ∧ w6.ownsRow W2.heap.size 61 4 ow (l.drop m).reverse.length (ccells (l.drop m).reverse) ∧ Below W2.heap.size W2 w6) (fun _ kv _ => (intOf kv + 1).toNat)
          case atStart => exact ⟨l.length, _, rfl, Nat.le_refl _, rfl, by rw [List.drop_length]; exact World.ownsRow_nil _ _ _ _, Below.refl _ _⟩
          case round =>
            obtain ⟨m, ow, rfl, hm, rfl, hown, hB6⟩ := hrel
            have HB6 := Lib.hid hB6
            have HO6 := Lib.hid hown
            have d0 := (hB6.cell (block_lt_of_cell HD0.out)).trans HD0.out
            clear hown hB6
            by_cases hm0 : m = 0
            · subst hm0
              rw [List.drop_zero] at HO6
              have e1 : ((0 : Nat) : Int) - 1 = -1 := rfl
              rw [e1]
              obtain ⟨W3, rfl⟩ : ∃ W3, W3 = wr := ⟨_, rfl⟩
              obtain ⟨ba, bc, rfl⟩ : ∃ a c, ow = .slice a l.length c := by
                obtain ⟨a, c, e, _⟩ := own_form HO6.out
                exact ⟨a, c, by rw [e, List.length_reverse]⟩
              have HLB := Lib.hid (show Line W3 (.slice ba l.length bc) l.reverse from Row.of_owns HO6.out)
              have HB43 := Lib.hid (HB.out.trans (HB6.out.mono HB.out.size))
              have HR3 := Lib.hid (HR.out.below HB6.out)
              have hGlt : G < W3.heap.size := HR3.out.lt
              clear d0 e1
              go_wp2_with fail
              go_loopw [12, 13] (fun fv kv w7 => ∃ (k : Nat) (fd : Bool), fv = .bool fd ∧ k ≤ N ∧ kv = .int .i64 (k : Nat) ∧ ((fd = false ∧ Below W3.heap.size W3 w7 ∧ ∀ j (hj : j < T.length), j < k → f j = false → T[j] ≠ l.reverse) ∨
                (fd = true ∧ ∃ f', BRow w7 G N f' ∧ (leftF f' T).Perm ((L.map List.reverse).drop (i + 1)) ∧ Below G w4 w7))) (fun _ kv _ => N - (intOf kv).toNat)
              case atStart => exact ⟨0, false, rfl, by omega, rfl, .inl ⟨rfl, Below.refl _ _, fun j _ hj => absurd hj (by omega)⟩⟩
              case round =>
                obtain ⟨k, fd, rfl, hk, rfl, hcs⟩ := hrel
                rcases hcs with ⟨rfl, hB7, hno⟩ | ⟨rfl, f', hr', hp', hB7⟩
                · have HNO := Lib.hid hno
                  have HB7 := Lib.hid hB7
                  have HB47 := Lib.hid (HB43.out.trans (hB7.mono HB43.out.size))
                  have hr7 := HR3.out.below hB7
                  clear hno hB7
                  by_cases hkN : k < N
                  · have hkT : k < T.length := by rw [HTL.out, ← HNN.out]; exact hkN
                    have u0 := hr7.cell hkN
                    have uf := hr7.free k
                    have HR7 := Lib.hid hr7
                    obtain ⟨gt, ot, tb, tcc, hta, _, t0, htl⟩ := (HT.out.below HB47.out).at (i := k) hkT
                    subst hta
                    have k1 : (0 : Int) ≤ (k : Int) := by omega
                    have k2 : (k : Int) < (N : Int) := by omega
                    have wk1 : IntKind.i64.wrap ((k : Int) + 1) = (k : Int) + 1 := IntWalk.i64_in _ (by omega)
                    clear hr7
                    cases hfk : f k with
                    | true =>
                      have HN2 := Lib.hid (show ∀ j (hj : j < T.length), j < k + 1 → f j = false → T[j] ≠ l.reverse from fun j hj h1 h2 => by
                        by_cases e : j = k
                        · subst e; rw [hfk] at h2; cases h2
                        · exact HNO.out j hj (by omega) h2)
                      rw [hfk] at u0
                      clear hfk
                      go_wp2_with fail
                      exact ⟨⟨k + 1, false, rfl, by omega, by go_num, .inl ⟨rfl, HB7.out, HN2.out⟩⟩, by simp [intOf] <;> omega⟩
                    | false =>
                      have HFK := Lib.hid hfk
                      have KS := sameLine_r _ _ l.reverse T[k] wr (HLB.out.below HB7.out) htl
                      rw [hfk] at u0
                      clear hfk htl
                      by_cases heq : l.reverse = T[k]
                      · have HEQ := Lib.hid heq
                        have HS2 := Lib.hid ((left_round (R := L.map List.reverse) (i := i) (by rw [List.length_map, ← HNN.out]; exact hlt) HP.out).2 k hkT HFK.out (by
                          have h1 := HMI.out
                          rw [List.getElem?_eq_getElem (by rw [List.length_map, ← HNN.out]; exact hlt)] at h1
                          simp only [Option.some.injEq] at h1
                          rw [h1]; exact heq.symm))
                        rw [decide_eq_true heq] at KS
                        have KS := Lib.hid KS
                        clear heq
                        go_wp2_with fail
                        with_reducible refine KS.out.mono ?_
                        rintro e w8 ⟨rfl, hb8⟩
                        have hr8 := HR7.out.below hb8
                        have HR8 := Lib.hid (hr8.set k)
                        have u1 := hr8.cell hkN
                        have uf1 := hr8.free k
                        have HB8 := Lib.hid ((show Below G w4 wr by rw [HG.out]; exact HB47.out).trans (hb8.mono (Nat.le_of_lt HR7.out.lt)) |>.setCell (p := ⟨G, k, none⟩) (Nat.le_refl _) (.bool true))
                        clear hr8 hb8 KS u0 uf
                        go_wp2_with fail
                        exact ⟨⟨k + 1, true, rfl, by omega, by go_num, .inr ⟨rfl, _, HR8.out, HS2.out, HB8.out⟩⟩, by simp [intOf] <;> omega⟩
                      · have HN2 := Lib.hid (show ∀ j (hj : j < T.length), j < k + 1 → f j = false → T[j] ≠ l.reverse from fun j hj h1 h2 => by
                          by_cases e : j = k
                          · subst e; exact fun e => heq e.symm
                          · exact HNO.out j hj (by omega) h2)
                        rw [decide_eq_false heq] at KS
                        have KS := Lib.hid KS
                        clear heq
                        go_wp2_with fail
                        with_reducible refine KS.out.mono ?_
                        rintro e w8 ⟨rfl, hb8⟩
                        have HB8 := Lib.hid (HB7.out.trans (hb8.mono HB7.out.size))
                        clear hb8 KS
                        go_wp2_with fail
                        exact ⟨⟨k + 1, false, rfl, by omega, by go_num, .inl ⟨rfl, HB8.out, HN2.out⟩⟩, by simp [intOf] <;> omega⟩
                  · exfalso
                    obtain rfl : k = N := by omega
                    obtain ⟨j, hj, h1, h2⟩ := (left_round (R := L.map List.reverse) (i := i) (by rw [List.length_map, ← HNN.out]; exact hlt) HP.out).1
                    have h3 := HMI.out
                    rw [List.getElem?_eq_getElem (by rw [List.length_map, ← HNN.out]; exact hlt)] at h3
                    simp only [Option.some.injEq] at h3
                    exact HNO.out j hj (by have := HTL.out; have := HNN.out; omega) h1 (by rw [h2, h3])
                · have HR8 := Lib.hid hr'
                  have HP8 := Lib.hid hp'
                  have HB8 := Lib.hid hB7
                  clear hr' hp' hB7
                  by_cases hkN : k < N
                  · have k2 : (k : Int) < (N : Int) := by omega
                    go_wp2_with fail
                    exact ⟨⟨i + 1, f', by omega, by go_num, HR8.out, HP8.out, HB8.out⟩, by simp [intOf] <;> omega⟩
                  · have k2 : ¬ (k : Int) < (N : Int) := by omega
                    go_wp2_with fail
                    exact ⟨⟨i + 1, f', by omega, by go_num, HR8.out, HP8.out, HB8.out⟩, by simp [intOf] <;> omega⟩
            · obtain ⟨m, rfl⟩ : ∃ k, m = k + 1 := ⟨m - 1, by omega⟩
              have e1 : ((m + 1 : Nat) : Int) - 1 = (m : Int) := by omega
              rw [e1]
              obtain ⟨g, o, hg, _, c0, c1, c2, c3⟩ := (HLI.out.below HB6.out).at (i := m) (by omega)
              subst hg
              have HBK := Lib.hid (back_step l (show m < l.length by omega))
              obtain ⟨aa, acc, wa, hra, hoa, hba⟩ := app_cl (HO6.out.alloc (.cells (scells (l[m]'(by omega))) 61)) (lit_cl wr (l[m]'(by omega))) (by simp only [List.length_reverse, List.length_drop, List.length_cons, List.length_nil]; omega) (Nat.le_trans HB6.out.size (by simp))
              rw [← HBK.out] at hra hoa
              generalize Value.slice aa _ acc = va at hra hoa
              have HRA := Lib.hid hra
              have HO7 := Lib.hid hoa
              have HB7 := Lib.hid ((HB6.out.alloc HB6.out.size (.cells (scells (l[m]'(by omega))) 61)).trans hba)
              unfold scells at HRA
              have m0 : (0 : Int) ≤ (m : Int) := by omega
              have m1 : (m : Int) < (l.length : Int) := by omega
              have wm1 : IntKind.i64.wrap ((m : Int) - 1) = (m : Int) - 1 := IntWalk.i64_in _ (by omega)
              clear hra hoa hba e1
              go_wp2_with (at_builtin; refine wpList_append_run rfl rfl rfl rfl HRA.out ?_)
              exact ⟨⟨m, _, rfl, by omega, rfl, HO7.out, HB7.out⟩, by simp [intOf]⟩
        · obtain rfl : i = N := by omega
          have i2 : ¬ (i : Int) < (i : Int) := by omega
          have HBW := Lib.hid (next HB4.out HB.out)
          go_wp2_with fail
          refine (shown_p _).mono ?_
          rintro e w6 ⟨rfl, hb⟩
          have HB6 := Lib.hid (next HBW.out hb)
          clear hb
          go_wp2_with fail
          go_ret
          exact ⟨rfl, HB6.out⟩
  · have t1 : (posE p != 0) = true := bne_iff_ne.2 h0
    generalize posE p = E at *
    clear h0 hi0 hz0 hz1 hz2
    go_enter Try.func9, Try.ntmps9
    go_wp2_with fail
    refine K0.out.mono ?_
    rintro e w1 ⟨rfl, rfl⟩
    cases lg with
    | true =>
      go_wp2_with fail
      refine (shown_p _).mono ?_
      rintro e w1 ⟨rfl, hb⟩
      have HB := Lib.hid hb
      clear hb
      go_wp2_with fail
      go_ret
      exact ⟨rfl, HB.out⟩
    | false =>
      go_wp2_with fail
      with_reducible refine (K1.out w (Below.refl _ _)).mono ?_
      rintro e w1 ⟨lv, rfl, hl1, hb1⟩
      have HB1 := Lib.hid hb1
      obtain ⟨la, lc, rfl⟩ := hl1.lines.form
      clear hl1 hb1 K1
      go_wp2_with fail
      refine (shown_p _).mono ?_
      rintro e w2 ⟨rfl, hb⟩
      have HB := Lib.hid (next HB1.out hb)
      clear hb
      go_wp2_with fail
      go_ret
      exact ⟨rfl, HB.out⟩

set_option maxRecDepth 100000 in
theorem walk {H : Type} {enc : TypeId × Value → H} {d : DataW H} {p : List MemPlace} {base : Nat} (v : Value) (w : World)
    (hk : DataW.Trod enc Try.prog w 0 (fun _ => true) true 22 v d p) (hv : Value.okWide Try.prog w .any base 22 v) :
    Calls Try.prog 9 #[v] w fun e w' => e = .returned (.bool true) ∧ Below w.heap.size w w' := by
  obtain ⟨m, hm⟩ := hk
  obtain ⟨a, len, cap, rfl⟩ := okWide_slice Try.underlying22 hv
  obtain ⟨l, hl⟩ := pats_of hm
  exact walkN _ l w hl

theorem own : ownKnob Try.prog.godebug = none := by kernel_rfl
theorem laidOut : laidOutB Try.prog = true := by kernel_rfl

set_option maxRecDepth 100000 in
theorem lifted (os : Os) (started : os.Started) (H : Type) (enc : TypeId × Value → H) :
    ReturnsInHanded {} Try.checked os 9 .any (Rows.spreadTurnSpec.pre6 enc Try.prog Try.f9 Rows.spreadTurnRow.domain false) (Rows.spreadTurnSpec.post enc Try.prog Try.f9 false true false false) := by
  refine returnsInHanded_of_change (C := Try.checked) own started (by kernel_rfl) Try.func9
    (ChangeSpec.witness6 (enc := enc) (C := Try.checked) false ⟨#[], #[.slice none 0 0], []⟩ 8 (by kernel_rfl) (by kernel_rfl) (by kernel_rfl) (by kernel_rfl)) ?_
  intro W base args ds gs before hval0 hW hcnd _
  have hval : ∀ (j : Nat) t v, Try.f9.params[j]? = some t → args[j]? = some v → Value.okWide Try.prog W .any base t v := hval0
  have hW' := hW
  obtain ⟨p, q, hA0, hV, rfl, hfz, hnd⟩ := hW
  have hA : DataW.TrodAll enc Try.prog W 0 (fun _ => true) true Try.f9.params.toList args.toList ds p := hA0
  rw [Try.params9] at hA hval
  obtain ⟨v0, vs0, d0, ds0, p0, q0, hargs, rfl, rfl, k0, r0⟩ := trodAll_cons hA
  obtain ⟨rfl, rfl, rfl⟩ := trodAll_nil r0
  obtain rfl : args = #[v0] := by cases args; simp_all
  obtain ⟨rfl, rfl⟩ := trodVars_none hV
  have lt0 : ∀ x ∈ p0, x.block < W.heap.size := by obtain ⟨m, hm⟩ := k0; exact DataW.trod_lt m _ _ _ hm
  clear hA0 hval0
  refine (walk v0 W k0 (hval 0 22 v0 rfl rfl)).mono fun e W' ⟨he, bel⟩ => ?_
  subst he
  exact ⟨_, rfl, _, _, _, [], _, [], hW', trodAll_mk1 (shut_bool Try.underlying4 _), (trodAll_cons_mk (Below.trod laidOut (by kernel_rfl) (of_decide_eq_true (by kernel_rfl)) k0 bel lt0) trodAll_mk0), rfl, bel.frame _, fun h => by cases h⟩

theorem over : Rows.spreadTurnRow.holds Try.pinned (OpenSpec.ofChange Rows.spreadTurnSpec) :=
  OpenClaim.holds_of_wide 9 Try.f9 rfl rfl rfl rfl rfl rfl rfl ⟨rfl, rfl, rfl, rfl, rfl⟩ rfl rfl rfl rfl rfl (by kernel_rfl) Try.func9 (by kernel_rfl)
    (of_decide_eq_true (by kernel_rfl)) (by unfold Func.isWrapper; first | (rw [if_pos (by decide +kernel)]; kernel_rfl) | (rw [if_neg (by decide +kernel)]; exact ⟨rfl, rfl⟩))
    (fun os started H enc _ => lifted os started H enc)

theorem proved : Rows.SpreadTurnSaid := over
#print axioms proved
end Go.Proofs.Ytpjllppbpnkemaa.spreadTurn
