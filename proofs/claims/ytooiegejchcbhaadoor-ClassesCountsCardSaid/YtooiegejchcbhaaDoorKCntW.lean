/- ClassesCounts: the law returns true. No conditions beside the laid table. -/
import Derived.Test.YtooiegejchcbhaaDoorKLawS
import Derived.Test.YtooiegejchcbhaaDoorTie
import Derived.Test.YtooiegejchcbhaaDoorCards
import Derived.SevenTiedAt
namespace Go.Proofs.YtooiegejchcbhaaDoor.classesCounts
open Go.ChangeShapes Go.WideShapes Go.ChangeAt Go.RowKit Go.Sort

theorem listS_any (s : CSet) (b : Nat) (hb : b < 256) : ((listS s).any fun y => y.toNat == b) = hasB s b := by
  unfold listS listTo
  rw [List.any_map, List.any_filter, Bool.eq_iff_iff, List.any_eq_true]
  constructor
  · rintro ⟨k, hk, h⟩
    have hk' := List.mem_range.1 hk
    simp only [Function.comp_apply, Bool.and_eq_true, beq_iff_eq] at h
    obtain ⟨h1, h2⟩ := h
    rw [UInt8.toNat_ofNat', Nat.mod_eq_of_lt hk'] at h2
    subst h2
    exact h1
  · intro h
    refine ⟨b, List.mem_range.2 hb, ?_⟩
    simp only [Function.comp_apply, Bool.and_eq_true, beq_iff_eq]
    exact ⟨h, by rw [UInt8.toNat_ofNat', Nat.mod_eq_of_lt hb]⟩
theorem ofL_list (s : CSet) : ofL (listS s) = s := set_ext fun b hb => by rw [hasB_ofL, listS_any s b hb]
theorem cnt_sum (a b : CSet) : ∀ n, cntB (a ||| b) n + cntB (a &&& b) n = cntB a n + cntB b n
  | 0 => rfl
  | n + 1 => by
    have ih := cnt_sum a b n
    have e : hasB (a &&& b) n = (hasB a n && hasB b n) := by simp [hasB]
    unfold cntB at *
    simp only [List.range_succ, List.countP_append, List.countP_cons, List.countP_nil, hasB_or, e]
    cases hasB a n <;> cases hasB b n <;> simp <;> omega
theorem list_up (s : CSet) (i : Nat) (hi : i + 1 < (listS s).length) : ((listS s)[i]).toNat < ((listS s)[i + 1]).toNat := by
  have e : listS s = (itemsTo s 256).map UInt8.ofNat := rfl
  have hl : (listS s).length = (itemsTo s 256).length := by rw [e, List.length_map]
  have h := List.pairwise_iff_getElem.1 (items_sorted s 256) i (i + 1) (by omega) (by omega) (by omega)
  have m1 := List.mem_range.1 (List.mem_filter.1 (List.getElem_mem (l := itemsTo s 256) (n := i) (by omega))).1
  have m2 := List.mem_range.1 (List.mem_filter.1 (List.getElem_mem (l := itemsTo s 256) (n := i + 1) (by omega))).1
  simp only [e, List.getElem_map, UInt8.toNat_ofNat', Nat.mod_eq_of_lt m1, Nat.mod_eq_of_lt m2]
  exact h
theorem any_take {L : List UInt8} {x i : Nat} (h : i < L.length) : ((L.take (i + 1)).any fun y => y.toNat == x) = (((L.take i).any fun y => y.toNat == x) || (L[i].toNat == x)) := by
  rw [List.take_succ_eq_append_getElem h, List.any_append]; simp

set_option maxRecDepth 100000 in
set_option maxHeartbeats 8000000 in
theorem walkB (a b : CSet) (z : UInt8) (w : World) (hT : Tab w) :
    Calls Tryd.prog 8 #[setV a, setV b, .int .u8 (z.toNat : Int)] w fun e w' => e = .returned (.bool true) ∧ Below w.heap.size w w' := by
  have hx : z.toNat < 256 := z.toNat_lt
  have HT := Lib.hid hT
  have HS := Lib.hid (Hd2.start w a b)
  clear hT
  obtain ⟨L, hL, hcn, hup, hany, hof⟩ : ∃ L, listS a = L ∧ cntB a 256 = L.length ∧ (∀ i (hi : i + 1 < L.length), L[i].toNat < L[i + 1].toNat) ∧ (L.any fun y => y.toNat == z.toNat) = hasB a z.toNat ∧ ofL L = a :=
    ⟨_, rfl, list_cnt a, list_up a, listS_any a z.toNat hx, ofL_list a⟩
  have hsum := cnt_sum a b 256
  have n1 := cntB_le (a ||| b) 256
  have n2 := cntB_le (a &&& b) 256
  have n3 := cntB_le a 256
  have n4 := cntB_le b 256
  rw [hcn] at hsum n3
  have kl := fun w h => list_p a w h
  rw [hL] at kl
  have ko := fun v w h => of_p v L w h
  rw [hof] at ko
  have kca := fun w => count_p a w
  rw [hcn] at kca
  have k1 := fun v w h => of_p v [z] w h
  rw [show ofL [z] = bit z.toNat by simp [ofL]] at k1
  have KL := Lib.hid kl
  have KO := Lib.hid ko
  have KCA := Lib.hid kca
  have KCB := Lib.hid (fun w => count_p b w)
  have KCU := Lib.hid (fun w => count_p (a ||| b) w)
  have KCM := Lib.hid (fun w => count_p (a &&& b) w)
  have KU := Lib.hid (fun w => union_p a b w)
  have KM := Lib.hid (fun w => meet_p a b w)
  have KN := Lib.hid (fun w => minus_p a b w)
  have KSB := Lib.hid (fun w => sub_p a b w)
  have KH := Lib.hid (fun w => has_p a z.toNat hx w)
  have KA := Lib.hid (fun w => add_p a z.toNat hx w)
  have KD := Lib.hid (fun w => drop_p a z.toNat hx w)
  have K1 := Lib.hid k1
  have KU1 := Lib.hid (fun w => union_p a (bit z.toNat) w)
  have KN1 := Lib.hid (fun w => minus_p a (bit z.toNat) w)
  have ee := fun w => eq_empty w (a &&& ~~~b)
  have es := eq_self
  have HUP := Lib.hid hup
  have HANY := Lib.hid hany
  clear hL kl ko kca k1 hup hany hof hcn
  generalize decide (a &&& ~~~b = 0#256) = q at *
  generalize a &&& ~~~b = X3 at *
  generalize cntB (a ||| b) 256 = nU at *
  generalize cntB (a &&& b) 256 = nM at *
  generalize cntB b 256 = nB at *
  generalize a ||| b = X1 at *
  generalize a &&& b = X2 at *
  generalize a ||| bit z.toNat = XA at *
  generalize a &&& ~~~(bit z.toNat) = XD at *
  generalize bit z.toNat = X1b at *
  generalize hasB a z.toNat = hb at *
  obtain ⟨N, hN⟩ : ∃ N : Int, N = (nU : Int) + (nM : Int) := ⟨_, rfl⟩
  have w1 : IntKind.i64.wrap ((nU : Int) + (nM : Int)) = N := (IntWalk.i64_in _ (by omega)).trans hN.symm
  have w2 : IntKind.i64.wrap ((L.length : Int) + (nB : Int)) = N := (IntWalk.i64_in _ (by omega)).trans (by omega)
  clear hN hsum n1 n2 n4
  obtain ⟨⟨c0, c1, c2, c3⟩, ⟨d0, d1, d2, d3⟩⟩ := HS.out.cells
  unfold setV setC at *
  go_enter Tryd.func8, Tryd.ntmps8
  go_wp2_with fail
  refine (KL.out _ (HT.out.below HS.out.bel)).mono ?_
  rintro e v1 ⟨rv, rfl, hr, hb1⟩
  have HRW := Lib.hid (Row.of_owns hr)
  obtain ⟨rp, rc, rfl⟩ : ∃ a cap, rv = .slice a L.length cap := by obtain ⟨_, _, a, cap, e, _⟩ := HRW.out; exact ⟨a, cap, e⟩
  replace HS := Lib.hid (HS.out.keep hb1 rfl)
  clear hr hb1 c0 c1 c2 c3 d0 d1 d2 d3
  go_wp2_with fail
  obtain ⟨⟨c0, c1, c2, c3⟩, ⟨d0, d1, d2, d3⟩⟩ := HS.out.cells
  have g0 := fun d os => cell_regrown c0 d os
  have g1 := fun d os => cell_regrown c1 d os
  have g2 := fun d os => cell_regrown c2 d os
  have g3 := fun d os => cell_regrown c3 d os
  have g4 := fun d os => cell_regrown d0 d os
  have g5 := fun d os => cell_regrown d1 d os
  have g6 := fun d os => cell_regrown d2 d os
  have g7 := fun d os => cell_regrown d3 d os
  have HCO := Lib.hid (fun d os => Calls.regrown_of (d := d) (os := os) (KO.out _ _ (Row.below HRW.out (below_regrown v1 d os))))
  clear c0 c1 c2 c3 d0 d1 d2 d3
  refine wp_region_quiet_below (by kernel_rfl) (by kernel_rfl) ?_
  repeat (go_big_quiet_step ((first
    | (go_at_call 17; exact HCO.out _ _)
    | (go_at_call 34; first | with_reducible exact Calls.regrown_of (KCA.out _) | with_reducible exact Calls.regrown_of (KCU.out _) | with_reducible exact Calls.regrown_of (KCM.out _) | with_reducible exact Calls.regrown_of (KCB.out _))
    | (go_at_call 15; exact Calls.regrown_of (KU.out _))
    | (go_at_call 25; exact Calls.regrown_of (KM.out _))
    | (go_at_call 27; exact Calls.regrown_of (KN.out _))
    | (go_at_call 32; exact Calls.regrown_of (KSB.out _)))))
  refine wpQuiet_nil ?_
  intro _ hw'
  obtain ⟨⟨dq, osq⟩, hw''⟩ := hw'
  subst hw''
  have hgr := below_regrown v1 dq osq
  replace HS := Lib.hid (HS.out.keep hgr rfl)
  replace HRW := Lib.hid (Row.below HRW.out hgr)
  generalize grow (redrawn v1 dq) osq = v2 at *
  clear g0 g1 g2 g3 g4 g5 g6 g7 hgr HCO w1 w2
  go_wp2_with fail
  go_loopw [8, 9] (fun v8 v9 wr => ∃ i : Nat, i ≤ L.length ∧ v8 = .bool ((L.take i).any fun y => y.toNat == z.toNat) ∧ v9 = .int .i64 (i : Nat) ∧ Below v2.heap.size v2 wr) (fun _ v9 _ => L.length - (intOf v9).toNat)
  case atStart => exact ⟨0, by omega, rfl, rfl, Below.refl _ _⟩
  case round =>
    obtain ⟨i, hi, rfl, rfl, hB⟩ := hrel
    by_cases hlt : i < L.length
    · obtain ⟨g, o, cap', hv', hg, hcell⟩ := Row.byteAt (Row.below HRW.out hB) hlt
      cases hv'
      have i1 : (0 : Int) ≤ (i : Int) := by omega
      have i2 : (i : Int) < (L.length : Int) := by omega
      have HNX := Lib.hid (any_take (x := z.toNat) hlt)
      generalize ((L.take i).any fun y => y.toNat == z.toNat) = bb at *
      obtain ⟨y, hy⟩ : ∃ y, L[i].toNat = y := ⟨_, rfl⟩
      rw [hy] at HNX hcell
      have hyl : y < 256 := by rw [← hy]; exact L[i].toNat_lt
      by_cases h0 : i = 0
      case' pos =>
        have t0 : ¬ ((0 : Int) < (i : Int)) := by omega
        have t0d : decide ((0 : Int) < (i : Int)) = false := decide_eq_false (by omega)
        have t0n : decide (0 < i) = false := decide_eq_false (by omega)
        clear h0
        go_wp2_with fail
        refine wp_region_quiet_below (by kernel_rfl) (by kernel_rfl) ?_
        repeat (go_big_quiet_step (fail))
        refine wpQuiet_nil ?_
        intro _ hw'
        obtain ⟨⟨dq, osq⟩, hw''⟩ := hw'
        subst hw''
        clear t0 t0d t0n
      case' neg =>
        obtain ⟨k, hk⟩ : ∃ k, k + 1 = i := ⟨i - 1, by omega⟩
        have hkl : k < L.length := by omega
        obtain ⟨g2, o2, cap2, e2, hg2, hd1⟩ := Row.byteAt (Row.below HRW.out hB) hkl
        cases e2
        have hup := HUP.out k (by omega)
        have e9 : L[k + 1].toNat = y := by subst hk; exact hy
        rw [e9] at hup
        obtain ⟨u, hu⟩ : ∃ u, L[k].toNat = u := ⟨_, rfl⟩
        rw [hu] at hup hd1
        have t0 : ((0 : Int) < (i : Int)) := by omega
        have t0d : decide ((0 : Int) < (i : Int)) = true := decide_eq_true (by omega)
        have t0n : decide (0 < i) = true := decide_eq_true (by omega)
        have wi : IntKind.i64.wrap ((i : Int) - 1) = (k : Int) := (IntWalk.i64_in _ (by omega)).trans (by omega)
        have k1 : (0 : Int) ≤ (k : Int) := by omega
        have k2 : (k : Int) < (L.length : Int) := by omega
        have t1 : ¬ ((y : Int) ≤ (u : Int)) := by omega
        have t1d : decide ((y : Int) ≤ (u : Int)) = false := decide_eq_false (by omega)
        have t1n : decide (y ≤ u) = false := decide_eq_false (by omega)
        have g0 := fun d os => cell_regrown hcell d os
        have g1 := fun d os => cell_regrown hd1 d os
        clear hk hup e9 hu
        go_wp2_with fail
        refine wp_region_quiet_below (by kernel_rfl) (by kernel_rfl) ?_
        repeat (go_big_quiet_step (fail))
        refine wpQuiet_nil ?_
        intro _ hw'
        obtain ⟨⟨dq, osq⟩, hw''⟩ := hw'
        subst hw''
        clear t0 t0d t0n t1 t1d t1n g0 g1 k1 k2 wi hd1 hg2
      all_goals
        have hgr := below_regrown wr dq osq
        have HB9 := Lib.hid (next hB hgr)
        have hc9 := (hgr.cell (p := ⟨g, o + i, none⟩) hg).trans hcell
        generalize grow (redrawn wr dq) osq = W9 at *
        have wi1 : IntKind.i64.wrap ((i : Int) + 1) = (i : Int) + 1 := IntWalk.i64_in _ (by omega)
        clear hgr hcell hB hy
        cases bb
        · by_cases hyx : y = z.toNat
          · have HZ := Lib.hid hyx
            have t5 : ((y : Int) == (z.toNat : Int)) = true := beq_iff_eq.2 (by omega)
            have t5n : (y == z.toNat) = true := beq_iff_eq.2 hyx
            clear hyx
            go_wp2_with fail
            exact ⟨⟨i + 1, by omega, by rw [HNX.out]; simp [HZ.out], by go_num, HB9.out⟩, by simp [intOf]; omega⟩
          · have HZ := Lib.hid hyx
            have t5 : ((y : Int) == (z.toNat : Int)) = false := beq_eq_false_iff_ne.2 (by omega)
            have t5n : (y == z.toNat) = false := beq_eq_false_iff_ne.2 hyx
            have t5d : decide (y = z.toNat) = false := decide_eq_false hyx
            go_wp2_with fail
            exact ⟨⟨i + 1, by omega, by rw [HNX.out]; simp [HZ.out], by go_num, HB9.out⟩, by simp [intOf]; omega⟩
        · go_wp2_with fail
          exact ⟨⟨i + 1, by omega, by rw [HNX.out]; simp, by go_num, HB9.out⟩, by simp [intOf]; omega⟩
    · obtain rfl : L.length = i := by omega
      have i1 : ¬ ((L.length : Int) < (L.length : Int)) := by omega
      rw [List.take_length, HANY.out]
      have HS3 := Lib.hid (HS.out.keep hB rfl)
      have HS4 := Lib.hid (HS3.out.keep ((Below.refl _ _).alloc (Nat.le_refl _) (.cells #[.int .u8 (z.toNat : Int)] 5)) rfl)
      clear hB
      go_wp2_with fail
      refine (K1.out _ _ (Row.lit wr 5 1 1 (bcells [z]) rfl (by decide))).mono ?_
      rintro e v3 ⟨rfl, hb3⟩
      have HS5 := Lib.hid (HS4.out.keep hb3 rfl)
      have HS6 := Lib.hid (HS5.out.keep ((Below.refl _ _).alloc (Nat.le_refl _) (.cells (setC X1b) 24)) rfl)
      have HN := Lib.hid (SetAt.new v3 X1b)
      clear hb3 HS3 HS4 HS5
      unfold setV setC at *
      go_wp2_with fail
      generalize v3.alloc (.cells #[.int .u64 (word X1b 0 : Int), .int .u64 (word X1b 1 : Int), .int .u64 (word X1b 2 : Int), .int .u64 (word X1b 3 : Int)] 24) = v4 at *
      obtain ⟨⟨c0, c1, c2, c3⟩, _⟩ := HS6.out.cells
      obtain ⟨d0, d1, d2, d3⟩ := SetAt.cells HN.out
      have g0 := fun d os => cell_regrown c0 d os
      have g1 := fun d os => cell_regrown c1 d os
      have g2 := fun d os => cell_regrown c2 d os
      have g3 := fun d os => cell_regrown c3 d os
      have g4 := fun d os => cell_regrown d0 d os
      have g5 := fun d os => cell_regrown d1 d os
      have g6 := fun d os => cell_regrown d2 d os
      have g7 := fun d os => cell_regrown d3 d os
      have HCS := Lib.hid (fun d os => Calls.regrown_of (d := d) (os := os) (shown_p _ ((HT.out.below HS6.out.bel).below (below_regrown v4 d os))))
      clear c0 c1 c2 c3 d0 d1 d2 d3
      refine wp_region_quiet_below (by kernel_rfl) (by kernel_rfl) ?_
      repeat (go_big_quiet_step ((first
        | (go_at_call 20; exact Calls.regrown_of (KH.out _))
        | (go_at_call 22; exact Calls.regrown_of (KA.out _))
        | (go_at_call 16; exact Calls.regrown_of (KD.out _))
        | (go_at_call 15; exact Calls.regrown_of (KU1.out _))
        | (go_at_call 27; exact Calls.regrown_of (KN1.out _))
        | (go_at_call 9; exact HCS.out _ _))))
      refine wpQuiet_nil ?_
      intro _ hw'
      obtain ⟨⟨dq, osq⟩, hw''⟩ := hw'
      subst hw''
      clear g0 g1 g2 g3 g4 g5 g6 g7
      go_wp2_with fail
      go_ret
      exact ⟨rfl, next HS6.out.bel (below_regrown _ _ _)⟩

theorem walk (cs cd : Array Value) (x : Int) (w : World) (hT : Tab w) (hz : cs.size = [22, 22, 22, 22].length)
    (hc : ∀ (i : Nat) (u : TypeId) (x : Value), [22, 22, 22, 22][i]? = some u → cs[i]? = some x → Cell.okWide Tryd.prog w .any w.heap.size u x)
    (hy : cd.size = [22, 22, 22, 22].length)
    (hd : ∀ (i : Nat) (u : TypeId) (x : Value), [22, 22, 22, 22][i]? = some u → cd[i]? = some x → Cell.okWide Tryd.prog w .any w.heap.size u x) (hx : IntKind.u8.has x) :
    Calls Tryd.prog 8 #[.agg cs, .agg cd, .int .u8 x] w fun e w' => e = .returned (.bool true) ∧ Below w.heap.size w w' := by
  obtain ⟨s, hs⟩ := set_of hz hc
  obtain ⟨t, ht⟩ := set_of hy hd
  have h8 := has_u8 hx
  obtain ⟨z, hz⟩ : ∃ z : UInt8, x = (z.toNat : Int) := ⟨UInt8.ofNat x.toNat, by rw [UInt8.toNat_ofNat']; omega⟩
  rw [hs, ht, hz]
  exact walkB s t z w hT

theorem own : ownKnob Tryd.prog.godebug = none := by kernel_rfl
theorem laidOut : laidOutB Tryd.prog = true := by kernel_rfl
abbrev laidL : List (String × DataW Unit) := [("math/bits.deBruijn64tab", Rows.laid_math_bits_deBruijn64tab)]

set_option maxRecDepth 100000 in
theorem lifted (os : Os) (started : os.Started) (H : Type) (enc : TypeId × Value → H) :
    ReturnsInHanded {} Tryd.checked os 8 .any (fun w args => (Rows.classesCountsSpec.pre enc Tryd.prog Tryd.f8 [] false w args ∧ laidMetH Tryd.prog laidL w) ∧ sizedMet enc Tryd.prog Tryd.f8 (OpenSpec.ofChange Rows.classesCountsSpec) false w args) (Rows.classesCountsSpec.post enc Tryd.prog Tryd.f8 false true false false) := by
  refine returnsInHanded_of_change_and (C := Tryd.checked) (X := fun w _ => laidMetH Tryd.prog laidL w) (fun _ _ _ hh h => h.of_heap hh) own started (by kernel_rfl) Tryd.func8
    (ChangeSpec.witness_shaped (enc := enc) (C := Tryd.checked) (os := os) (X := fun w _ => laidMetH Tryd.prog laidL w) false (World.doorLaid Tryd.prog 400 os) #[.agg #[.int .u64 0, .int .u64 0, .int .u64 0, .int .u64 0], .agg #[.int .u64 0, .int .u64 0, .int .u64 0, .int .u64 0], .int .u8 0] 8 rfl (World.shaped_of_RefB (by kernel_rfl) (by kernel_rfl)) (by kernel_rfl) (by kernel_rfl) (by kernel_rfl) (door_met os _)) ?_
  intro W base args ds gs before hval0 hW _ _ hL _
  have hT : Tab W := tab_of_laid hL
  have hval : ∀ (j : Nat) t v, Tryd.f8.params[j]? = some t → args[j]? = some v → Value.okWide Tryd.prog W .any base t v := hval0
  have hW' := hW
  obtain ⟨p, q, hA0, hV, rfl, hfz, hnd⟩ := hW
  have hA : DataW.TrodAll enc Tryd.prog W 0 (fun _ => true) true Tryd.f8.params.toList args.toList ds p := hA0
  rw [Tryd.params8] at hA hval
  obtain ⟨v0, vs0, d0, ds0, p0, q0, hargs, rfl, rfl, k0, r0⟩ := trodAll_cons hA
  obtain ⟨v1, vs1, d1, ds1, p1, q1, rfl, rfl, rfl, k1, r1⟩ := trodAll_cons r0
  obtain ⟨v2, vs2, d2, ds2, p2, q2, rfl, rfl, rfl, k2, r2⟩ := trodAll_cons r1
  obtain ⟨rfl, rfl, rfl⟩ := trodAll_nil r2
  obtain rfl : args = #[v0, v1, v2] := by cases args; simp_all
  obtain ⟨rfl, rfl⟩ := trodVars_none hV
  have lt0 : ∀ x ∈ p0, x.block < W.heap.size := by obtain ⟨m, hm⟩ := k0; exact DataW.trod_lt m _ _ _ hm
  have lt1 : ∀ x ∈ p1, x.block < W.heap.size := by obtain ⟨m, hm⟩ := k1; exact DataW.trod_lt m _ _ _ hm
  have lt2 : ∀ x ∈ p2, x.block < W.heap.size := by obtain ⟨m, hm⟩ := k2; exact DataW.trod_lt m _ _ _ hm
  obtain ⟨c0, rfl, z0, g0⟩ := arg_agg (ts := [22, 22, 22, 22]) (by kernel_rfl) (by kernel_rfl) (by kernel_rfl) (hval 0 24 v0 rfl rfl)
  obtain ⟨c1, rfl, z1, g1⟩ := arg_agg (ts := [22, 22, 22, 22]) (by kernel_rfl) (by kernel_rfl) (by kernel_rfl) (hval 1 24 v1 rfl rfl)
  obtain ⟨a2, rfl, w2⟩ := arg_int Tryd.underlying5 (hval 2 5 v2 rfl rfl)
  clear hA0 hval0
  refine (walk c0 c1 a2 W hT z0 g0 z1 g1 w2).mono fun e W' ⟨he, bel⟩ => ?_
  subst he
  exact ⟨_, rfl, _, _, _, [], _, [], hW', trodAll_mk1 (shut_bool Tryd.underlying4 _), (trodAll_cons_mk (Below.trod laidOut (by kernel_rfl) (of_decide_eq_true (by kernel_rfl)) k0 bel lt0) (trodAll_cons_mk (Below.trod laidOut (by kernel_rfl) (of_decide_eq_true (by kernel_rfl)) k1 bel lt1) (trodAll_cons_mk (Below.trod laidOut (by kernel_rfl) (of_decide_eq_true (by kernel_rfl)) k2 bel lt2) trodAll_mk0))), rfl, bel.frame _, fun h => by cases h⟩

theorem over : Rows.classesCountsRow.holds Tryd.pinned (OpenSpec.ofChange Rows.classesCountsSpec) :=
  OpenClaim.holds_of_wide 8 Tryd.f8 rfl rfl rfl rfl rfl rfl rfl ⟨rfl, rfl, rfl, rfl, rfl⟩ rfl rfl rfl rfl rfl (by kernel_rfl) Tryd.func8 (by kernel_rfl)
    (of_decide_eq_true (by kernel_rfl)) (by unfold Func.isWrapper; first | (rw [if_pos (by decide +kernel)]; kernel_rfl) | (rw [if_neg (by decide +kernel)]; exact ⟨rfl, rfl⟩))
    (fun os started H enc _ => lifted os started H enc)

theorem proved : Rows.ClassesCountsCardSaid :=
  Claim7.holds_tied_plain_at .later [] [.data] true (true, "22bfa03ded28fcdf6dce186b205dc0d6516f7b640c39f0a6a20e7c48906351c0") false
    over (fun _ h => by cases h) (by kernel_rfl) (fun _ h => by cases h) classesCounts_row_tie rfl ⟨rfl, rfl⟩ (by kernel_rfl) rfl
    (fun f fn hf hfn => by
      obtain rfl : f = 8 := Option.some.inj ((show Tryd.prog.funcNamed "dragnet/dragnetlaw03.ClassesCounts" = some 8 by kernel_rfl).symm.trans hf) |>.symm
      obtain rfl : fn = Tryd.f8 := (Option.some.inj (Tryd.func8.symm.trans hfn)).symm
      exact ⟨by kernel_rfl, fun j t ht => by
        rw [Tryd.params8] at ht
        have hm : t ∈ ([24, 24, 5] : List Nat) := by simpa using Array.mem_of_getElem? ht
        have hall : (([24, 24, 5] : List Nat).all fun u => !Tryd.prog.wantsStandIn u) = true := by kernel_rfl
        exact (show Tryd.prog.wantsStandIn t = false by simpa using List.all_eq_true.1 hall t hm)⟩)
    (by kernel_rfl)
#print axioms proved
end Go.Proofs.YtooiegejchcbhaaDoor.classesCounts
