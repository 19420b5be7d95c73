/- ArenaPlays: whatever is called, an arena answers as the document says. Printed by tools/gen_ar7.py. -/
import Derived.Test.YtomjefplacgoeaaDoorArDoes
import Derived.Test.YtomjefplacgoeaaDoorDLaid
import Derived.Test.YtomjefplacgoeaaDoorTie
import Derived.Test.YtomjefplacgoeaaDoorCards
import Derived.SevenTiedAt
namespace Go.Proofs.YtomjefplacgoeaaDoor.arenaPlays
open Go.ChangeShapes Go.WideShapes Go.ChangeAt Go.RowKit Go.Sort

set_option maxRecDepth 100000 in
set_option maxHeartbeats 40000000 in
theorem walkK (c : Int) (v : Value) (L : List Cl) (w : World) (hL : Cls w v L) (hok : ∀ p ∈ L, p.ok) :
    Calls Tryd.prog 8 #[.int .i64 c, v] w fun e w' => e = .returned (.bool true) ∧ Below w.heap.size w w' := by
  have KF := Lib.hid (far_p v L w hL)
  have HL := Lib.hid hL
  obtain ⟨a, capa, rfl⟩ := Row.form2 hL
  clear hL
  by_cases hf : farV L = true
  · rw [hf] at KF
    go_enter Tryd.func8, Tryd.ntmps8
    go_wp2_with fail
    refine KF.out.mono ?_
    rintro e w1 ⟨rfl, hb1⟩
    go_wp2_with fail
    refine (awake_p _).mono ?_
    rintro e w2 ⟨rfl, hb2⟩
    go_wp2_with fail
    go_ret
    exact ⟨rfl, next hb1 hb2⟩
  · rw [Bool.not_eq_true] at hf
    rw [hf] at KF
    obtain ⟨h200, hnames⟩ := not_far hf
    clear hf
    by_cases hc1 : 300 < c
    · by_cases hc2 : c ≤ 65536
      · go_enter Tryd.func8, Tryd.ntmps8
        go_wp2_with fail
        refine KF.out.mono ?_
        rintro e w1 ⟨rfl, hb1⟩
        go_wp2_with fail
        refine (awake_p _).mono ?_
        rintro e w2 ⟨rfl, hb2⟩
        go_wp2_with fail
        go_ret
        exact ⟨rfl, next hb1 hb2⟩
      · have KN := Lib.hid (fun w => new_bad (W := w) c (by omega))
        have KR := Lib.hid (fun w => rnew_bad (W := w) c (by omega))
        go_enter Tryd.func8, Tryd.ntmps8
        go_wp2_with fail
        refine KF.out.mono ?_
        rintro e w1 ⟨rfl, hb1⟩
        go_wp2_with fail
        refine (KN.out _).mono ?_
        rintro e w2 ⟨rfl, rfl⟩
        go_wp2_with fail
        refine (KR.out _).mono ?_
        rintro e w2 ⟨rfl, rfl⟩
        go_wp2_with fail
        refine (awake_p _).mono ?_
        rintro e w2 ⟨rfl, hb2⟩
        go_wp2_with fail
        go_ret
        exact ⟨rfl, next hb1 hb2⟩
    · by_cases hc2 : c < 1
      · have KN := Lib.hid (fun w => new_bad (W := w) c (by omega))
        have KR := Lib.hid (fun w => rnew_bad (W := w) c (by omega))
        go_enter Tryd.func8, Tryd.ntmps8
        go_wp2_with fail
        refine KF.out.mono ?_
        rintro e w1 ⟨rfl, hb1⟩
        go_wp2_with fail
        refine (KN.out _).mono ?_
        rintro e w2 ⟨rfl, rfl⟩
        go_wp2_with fail
        refine (KR.out _).mono ?_
        rintro e w2 ⟨rfl, rfl⟩
        go_wp2_with fail
        refine (awake_p _).mono ?_
        rintro e w2 ⟨rfl, hb2⟩
        go_wp2_with fail
        go_ret
        exact ⟨rfl, next hb1 hb2⟩
      · obtain ⟨n, rfl⟩ : ∃ n : Nat, c = n := ⟨c.toNat, by omega⟩
        have KN := Lib.hid (fun w => new_o (w := w) n (by omega) (by omega))
        have KR := Lib.hid (fun w base hb => rnew_p (W := w) n base (by omega) (by omega) hb)
        go_enter Tryd.func8, Tryd.ntmps8
        go_wp2_with fail
        refine KF.out.mono ?_
        rintro e w1 ⟨rfl, hb1⟩
        have HB1 := Lib.hid hb1
        clear hb1
        go_wp2_with fail
        refine (KN.out w1).mono ?_
        rintro e w2 ⟨A, F, rfl, hO, -⟩
        have HO := Lib.hid hO
        have K2 := Lib.hid (KR.out w2 w1.heap.size hO.b.size)
        clear hO
        go_wp2_with fail
        refine K2.out.mono ?_
        rintro e w3 ⟨B, G, rfl, hR, hG, hB3⟩
        have HP := Lib.hid (show Pair w1 w3 A B (List.replicate n 0) [] [] (List.replicate n 0) [] [] from by
          have hs := HO.out.b.size
          refine ⟨F, _, HO.out.below hB3, ⟨hR.shrink, fun k hk => ?_, HO.out.b.trans (hB3.mono hs)⟩, fun k hk hg => ?_⟩
          · rw [List.mem_filter] at hk
            exact ⟨Nat.le_trans hs (hG k hk.1), by simpa using hk.2⟩
          · rw [List.mem_filter] at hg
            have h1 := (HO.out.lo k hk).2
            have h2 := hG k hg.1
            omega)
        clear hR hG hB3 K2
        go_wp2_with fail
        have hm1 : L.length ≤ 9223372036854775807 := by omega
        go_loopw [9] (fun iv wr => ∃ k : Nat, k ≤ L.length ∧ iv = .int .i64 (k : Nat) ∧ ∃ cs rs ev, Pair w1 wr A B cs rs ev cs rs ev ∧ cs.length = n ∧ RegsOk n rs) (fun iv _ => L.length - (intOf iv).toNat)
        case atStart => exact ⟨0, by omega, rfl, _, _, _, HP.out, by simp, regsOk_nil _⟩
        case round =>
          obtain ⟨k, hk, rfl, cs, rs, ev, hP, hcl, hro⟩ := hrel
          have HP1 := Lib.hid hP
          have HRO := Lib.hid hro
          clear hP hro
          by_cases hlt : k < L.length
          · obtain ⟨g, o, hga, hg, d0, d1, d2, d3, d4⟩ := Cls.at (Row.below HL.out (next HB1.out HP1.out.b)) hlt
            subst hga
            have i1 : (0 : Int) ≤ (k : Int) := by omega
            have i2 : (k : Int) < (L.length : Int) := by omega
            have wi1 : IntKind.i64.wrap ((k : Int) + 1) = (k : Int) + 1 := IntWalk.i64_in _ (by omega)
            have K := Lib.hid (does_p L[k] (hok _ (List.getElem_mem hlt)) (hnames _ (List.getElem_mem hlt)) HP1.out (by rw [hcl]; exact HRO.out))
            unfold PA at K
            rw [hcl] at K
            generalize L[k] = x at *
            go_wp2_with fail
            refine K.out.mono ?_
            rintro e w4 ⟨rfl, cs2, rs2, ev2, hP4, hcl4, hro4⟩
            have K1 := Lib.hid (a_steps hP4)
            have K2 := Lib.hid (fun v (hb : Below w4.heap.size w4 v) => b_steps (hP4.below hb))
            unfold PA at K1 K2
            have HP4 := Lib.hid hP4
            have HCL4 := Lib.hid hcl4
            have HRO4 := Lib.hid hro4
            clear hP4 hcl4 hro4 K d0 d1 d2 d3 d4
            go_wp2_with fail
            refine K1.out.mono ?_
            rintro e w5 ⟨rfl, hb5⟩
            have HB5 := Lib.hid hb5
            clear hb5 K1
            go_wp2_with fail
            refine (K2.out _ HB5.out).mono ?_
            rintro e w6 ⟨rfl, hb6⟩
            have HP6 := Lib.hid (HP4.out.below (next HB5.out hb6))
            clear hb6 K2
            go_wp2_with fail
            exact ⟨⟨k + 1, by omega, by go_num, cs2, rs2, ev2, HP6.out, HCL4.out, HRO4.out⟩, by simp [intOf]; omega⟩
          · obtain rfl : L.length = k := by omega
            have i1 : ¬ ((L.length : Int) < (L.length : Int)) := by omega
            have K := Lib.hid (a_events HP1.out)
            unfold PA at K
            go_wp2_with fail
            refine K.out.mono ?_
            rintro e v1 ⟨r1, rfl, hr1, hb1⟩
            have HP2 := Lib.hid (HP1.out.below hb1)
            have HR1 := Lib.hid hr1
            have K2 := Lib.hid (b_events HP2.out)
            unfold PA at K2
            clear hb1 hr1 K
            go_wp2_with fail
            refine K2.out.mono ?_
            rintro e v2 ⟨r2, rfl, hr2, hb2⟩
            have HP3 := Lib.hid (HP2.out.below hb2)
            have K3 := Lib.hid (same_ev r1 r2 _ _ v2 (Row.below HR1.out hb2) hr2)
            rw [decide_eq_true rfl] at K3
            clear hb2 hr2 K2
            go_wp2_with fail
            refine K3.out.mono ?_
            rintro e v3 ⟨rfl, hb3⟩
            have HP4 := Lib.hid (HP3.out.below hb3)
            have K4 := Lib.hid (a_regions HP4.out)
            unfold PA at K4
            clear hb3 K3
            go_wp2_with fail
            refine K4.out.mono ?_
            rintro e v4 ⟨r3, rfl, hr3, hb4⟩
            have HP5 := Lib.hid (HP4.out.below hb4)
            have HR3 := Lib.hid hr3
            have K5 := Lib.hid (b_regions HP5.out)
            unfold PA at K5
            clear hb4 hr3 K4
            go_wp2_with fail
            refine K5.out.mono ?_
            rintro e v5 ⟨r4, rfl, hr4, hb5⟩
            have HP6 := Lib.hid (HP5.out.below hb5)
            have K6 := Lib.hid (same_reg r3 r4 _ _ v5 (Row.below HR3.out hb5) hr4)
            rw [decide_eq_true rfl] at K6
            clear hb5 hr4 K5
            go_wp2_with fail
            refine K6.out.mono ?_
            rintro e v6 ⟨rfl, hb6⟩
            have HP7 := Lib.hid (HP6.out.below hb6)
            have K7 := Lib.hid (a_cells HP7.out)
            unfold PA at K7
            clear hb6 K6
            go_wp2_with fail
            refine K7.out.mono ?_
            rintro e v7 ⟨r5, rfl, hr5, hb7⟩
            have HP8 := Lib.hid (HP7.out.below hb7)
            have HR5 := Lib.hid hr5
            have K8 := Lib.hid (b_cells HP8.out)
            unfold PA at K8
            clear hb7 hr5 K7
            go_wp2_with fail
            refine K8.out.mono ?_
            rintro e v8 ⟨r6, rfl, hr6, hb8⟩
            have HP9 := Lib.hid (HP8.out.below hb8)
            have K9 := Lib.hid (same_u r5 r6 _ _ v8 (Row.below HR5.out hb8) hr6)
            rw [decide_eq_true rfl] at K9
            clear hb8 hr6 K8
            go_wp2_with fail
            refine K9.out.mono ?_
            rintro e v9 ⟨rfl, hb9⟩
            have HP10 := Lib.hid (HP9.out.below hb9)
            clear hb9 K9
            go_wp2_with fail
            refine (awake_p _).mono ?_
            rintro e w9 ⟨rfl, hb9⟩
            go_wp2_with fail
            go_ret
            exact ⟨rfl, next (next HB1.out HP10.out.b) hb9⟩
set_option maxRecDepth 100000 in
theorem walk {H : Type} {enc : TypeId × Value → H} {d : DataW H} {q : List MemPlace} {base : Nat} (a : Int) (v : Value) (w : World) (_ : IntKind.i64.has a)
    (hk : DataW.Trod enc Tryd.prog w 0 (fun _ => true) true 23 v d q) (_ : Value.okWide Tryd.prog w .any base 23 v) :
    Calls Tryd.prog 8 #[.int .i64 a, v] w fun e w' => e = .returned (.bool true) ∧ Below w.heap.size w w' := by
  obtain ⟨m, hn⟩ := hk
  rename_i hv
  obtain ⟨z, len, cap, rfl⟩ := okWide_slice Tryd.underlying23 hv
  obtain ⟨L, hL, hok⟩ := calls_of hn
  exact walkK a _ L w hL hok

theorem own : ownKnob Tryd.prog.godebug = none := by kernel_rfl
theorem laidOut : laidOutB Tryd.prog = true := by kernel_rfl
abbrev laidL : List (String × DataW Unit) := [("unicode/utf8.acceptRanges", Rows.laid_unicode_utf8_acceptRanges), ("unicode/utf8.first", Rows.laid_unicode_utf8_first)]

set_option maxRecDepth 100000 in
theorem lifted (os : Os) (started : os.Started) (H : Type) (enc : TypeId × Value → H) :
    ReturnsInHanded {} Tryd.checked os 8 .any (fun w args => (Rows.arenaPlaysSpec.pre enc Tryd.prog Tryd.f8 [] false w args ∧ laidMetH Tryd.prog laidL w) ∧ sizedMet enc Tryd.prog Tryd.f8 (OpenSpec.ofChange Rows.arenaPlaysSpec) false w args) (Rows.arenaPlaysSpec.post enc Tryd.prog Tryd.f8 false true false false) := by
  refine returnsInHanded_of_change_and (C := Tryd.checked) (X := fun w _ => laidMetH Tryd.prog laidL w) (fun _ _ _ hh h => h.of_heap hh) own started (by kernel_rfl) Tryd.func8
    (ChangeSpec.witness_shaped (enc := enc) (C := Tryd.checked) (os := os) (X := fun w _ => laidMetH Tryd.prog laidL w) false (laidWorld os) #[.int .i64 0, .slice none 0 0] 8 rfl (World.shaped_of_RefB (by kernel_rfl) (by kernel_rfl)) (by kernel_rfl) (by kernel_rfl) (by kernel_rfl) (door_met os _)) ?_
  intro W base args ds gs before hval0 hW _ _ _ _
  have hval : ∀ (j : Nat) t v, Tryd.f8.params[j]? = some t → args[j]? = some v → Value.okWide Tryd.prog W .any base t v := hval0
  have hW' := hW
  obtain ⟨p, q, hA0, hV, rfl, hfz, hnd⟩ := hW
  have hA : DataW.TrodAll enc Tryd.prog W 0 (fun _ => true) true Tryd.f8.params.toList args.toList ds p := hA0
  rw [Tryd.params8] at hA hval
  obtain ⟨v0, vs0, d0, ds0, p0, q0, hargs, rfl, rfl, k0, r0⟩ := trodAll_cons hA
  obtain ⟨v1, vs1, d1, ds1, p1, q1, rfl, rfl, rfl, k1, r1⟩ := trodAll_cons r0
  obtain ⟨rfl, rfl, rfl⟩ := trodAll_nil r1
  obtain rfl : args = #[v0, v1] := by cases args; simp_all
  obtain ⟨rfl, rfl⟩ := trodVars_none hV
  have lt0 : ∀ x ∈ p0, x.block < W.heap.size := by obtain ⟨m, hm⟩ := k0; exact DataW.trod_lt m _ _ _ hm
  have lt1 : ∀ x ∈ p1, x.block < W.heap.size := by obtain ⟨m, hm⟩ := k1; exact DataW.trod_lt m _ _ _ hm
  obtain ⟨a0, rfl, w0⟩ := arg_int Tryd.underlying3 (hval 0 3 v0 rfl rfl)
  clear hA0 hval0
  refine (walk a0 v1 W w0 k1 (hval 1 23 v1 rfl rfl)).mono fun e W' ⟨he, bel⟩ => ?_
  subst he
  exact ⟨_, rfl, _, _, _, [], _, [], hW', trodAll_mk1 (shut_bool Tryd.underlying4 _), (trodAll_cons_mk (Below.trod laidOut (by kernel_rfl) (of_decide_eq_true (by kernel_rfl)) k0 bel lt0) (trodAll_cons_mk (Below.trod laidOut (by kernel_rfl) (of_decide_eq_true (by kernel_rfl)) k1 bel lt1) trodAll_mk0)), rfl, bel.frame _, fun h => by cases h⟩

theorem over : Rows.arenaPlaysRow.holds Tryd.pinned (OpenSpec.ofChange Rows.arenaPlaysSpec) :=
  OpenClaim.holds_of_wide 8 Tryd.f8 rfl rfl rfl rfl rfl rfl rfl ⟨rfl, rfl, rfl, rfl, rfl⟩ rfl rfl rfl rfl rfl (by kernel_rfl) Tryd.func8 (by kernel_rfl)
    (of_decide_eq_true (by kernel_rfl)) (by unfold Func.isWrapper; first | (rw [if_pos (by decide +kernel)]; kernel_rfl) | (rw [if_neg (by decide +kernel)]; exact ⟨rfl, rfl⟩))
    (fun os started H enc _ => lifted os started H enc)

theorem proved : Rows.ArenaPlaysCardSaid :=
  Claim7.holds_tied_plain_at .later [] [.data, .pinned] true (true, "fa0ba3bc22dc5505d8766bf6efcc6355ea8fadaca26ff31e805dd7d45e3f142c") false
    over (fun _ h => by cases h) (by kernel_rfl) (fun _ h => by cases h) arenaPlays_row_tie rfl ⟨rfl, rfl⟩ (by kernel_rfl) rfl
    (fun f fn hf hfn => by
      obtain rfl : f = 8 := Option.some.inj ((show Tryd.prog.funcNamed "dragnet/dragnetlaw05.ArenaPlays" = some 8 by kernel_rfl).symm.trans hf) |>.symm
      obtain rfl : fn = Tryd.f8 := (Option.some.inj (Tryd.func8.symm.trans hfn)).symm
      exact ⟨by kernel_rfl, fun j t ht => by
        rw [Tryd.params8] at ht
        have hm : t ∈ ([3, 23] : List Nat) := by simpa using Array.mem_of_getElem? ht
        have hall : (([3, 23] : List Nat).all fun u => !Tryd.prog.wantsStandIn u) = true := by kernel_rfl
        exact (show Tryd.prog.wantsStandIn t = false by simpa using List.all_eq_true.1 hall t hm)⟩)
    (by kernel_rfl)
#print axioms proved
end Go.Proofs.YtomjefplacgoeaaDoor.arenaPlays
