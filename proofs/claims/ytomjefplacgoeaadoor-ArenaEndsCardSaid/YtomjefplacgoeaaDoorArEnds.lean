/- ArenaEnds: steps up to the limit, and beyond: each is made as long as there is room, and then none. -/
import Derived.Test.YtomjefplacgoeaaDoorArArg
import Derived.Test.YtomjefplacgoeaaDoorDLaid
import Derived.Test.YtomjefplacgoeaaDoorTie
import Derived.Test.YtomjefplacgoeaaDoorCards
import Derived.SevenTiedAt
namespace Go.Proofs.YtomjefplacgoeaaDoor.arenaEnds
open Go.ChangeShapes Go.WideShapes Go.ChangeAt Go.RowKit Go.Sort

def evF (i : Nat) : Ev := (if i % 2 = 0 then 2 else 1, i % 3)
def evs (n : Nat) : List Ev := (List.range n).map evF
theorem evs_len (n : Nat) : (evs n).length = n := by simp [evs]
theorem evs_succ (n : Nat) : evs (n + 1) = evs n ++ [evF n] := by simp [evs, List.range_succ]
theorem evs_tail (n : Nat) : (evs (n + 2)).drop n = [evF n, evF (n + 1)] := by
  rw [evs_succ, evs_succ, List.append_assoc, List.drop_left' (evs_len n)]
  rfl
theorem evs_end : ∃ ev, evs 8388608 = ev ∧ ev.length = 8388608 ∧ sinceV ev 8388606 = [(2, 0), (1, 1)] ∧ sinceE 8388608 8388606 = 0 := by
  refine ⟨_, rfl, evs_len _, ?_, by decide⟩
  have h := evs_tail 8388606
  unfold sinceV
  rw [evs_len, if_pos (by decide)]
  exact h.trans (by decide)
set_option maxRecDepth 100000 in
set_option maxHeartbeats 20000000 in
theorem walk (w : World) :
    Calls Tryd.prog 6 #[] w fun e w' => e = .returned (.bool true) ∧ Below w.heap.size w w' := by
  have KN := Lib.hid (new_o (w := w) 3 (by omega) (by omega))
  go_enter Tryd.func6, Tryd.ntmps6
  go_wp2_with fail
  refine KN.out.mono ?_
  rintro e w1 ⟨A, F, rfl, hO, _⟩
  rw [show List.replicate 3 0 = [0, 0, 0] by rfl] at hO
  have K1 := Lib.hid (room_o 8388608 hO)
  have K2 := Lib.hid (room_o 8388609 hO)
  rw [show roomE ([] : List Ev).length 8388608 = 0 by decide +kernel] at K1
  rw [show roomE ([] : List Ev).length 8388609 = 3 by decide +kernel] at K2
  have HO := Lib.hid hO
  clear hO KN
  go_wp2_with fail
  refine K1.out.mono ?_
  rintro e w2 ⟨rfl, rfl⟩
  go_wp2_with fail
  refine K2.out.mono ?_
  rintro e w3 ⟨rfl, rfl⟩
  clear K1 K2
  go_wp2_with fail
  go_loopw [3] (fun iv wr => ∃ i : Nat, i ≤ 8388608 ∧ iv = .int .i64 (i : Nat) ∧ ∃ F cs, cs.length = 3 ∧ Own w wr F A cs [] (evs i)) (fun iv _ => 8388608 - (intOf iv).toNat)
  case atStart => exact ⟨0, by omega, rfl, F, _, rfl, HO.out⟩
  case round =>
    obtain ⟨i, hi, rfl, F1, cs, hcl, hO⟩ := hrel
    by_cases hlt : i < 8388608
    · have i1 : (i : Int) < 8388608 := by omega
      have wi1 : IntKind.i64.wrap ((i : Int) + 1) = (i : Int) + 1 := IntWalk.i64_in _ (by omega)
      have wi2 : IntKind.u64.wrap (i : Int) = (i : Int) := by rw [IntKind.wrap_u64]; omega
      obtain ⟨r, hr⟩ : ∃ r, i % 3 = r := ⟨_, rfl⟩
      have hr3 : r < 3 := by omega
      have m3 : (i : Int) % 3 = (r : Int) := by omega
      have m3' : (i : Int).tmod 3 = (r : Int) := by rw [Int.tmod_eq_emod_of_nonneg (by omega)]; exact m3
      have hE : stepE cs.length (evs i).length (r : Int) = 0 := by unfold stepE; rw [evs_len, if_neg (by omega), if_neg (by omega)]
      by_cases h2 : i % 2 = 0
      · have m2 : (i : Int) % 2 = 0 := by omega
        have m2' : (i : Int).tmod 2 = 0 := by rw [Int.tmod_eq_emod_of_nonneg (by omega)]; exact m2
        have K := Lib.hid (store_o (r : Int) i (by omega) hO)
        rw [show stepV cs.length (evs i) 2 (r : Int) = evs (i + 1) by unfold stepV; rw [hE, if_pos rfl, evs_succ]; simp [evF, h2, hr], hE] at K
        have hl2 : (storeV cs (evs i).length (r : Int) i).length = 3 := by unfold storeV; split <;> simp [hcl]
        clear hO hE m2 hr h2
        generalize storeV cs (evs i).length (r : Int) i = cs2 at *
        go_wp2_with fail
        refine K.out.mono ?_
        rintro e w4 ⟨rfl, F4, hO, -⟩
        have HO4 := Lib.hid hO
        clear hO K
        go_wp2_with fail
        exact ⟨⟨i + 1, by omega, by go_num, F4, cs2, hl2, HO4.out⟩, by simp [intOf]; omega⟩
      · have m2 : (i : Int) % 2 = 1 := by omega
        have m2' : (i : Int).tmod 2 = 1 := by rw [Int.tmod_eq_emod_of_nonneg (by omega)]; exact m2
        have K := Lib.hid (load_o (r : Int) hO)
        rw [show stepV cs.length (evs i) 1 (r : Int) = evs (i + 1) by unfold stepV; rw [hE, if_pos rfl, evs_succ]; simp [evF, h2, hr], hE] at K
        clear hO hE m2 hr h2
        generalize loadV cs (evs i).length (r : Int) = q at *
        go_wp2_with fail
        refine K.out.mono ?_
        rintro e w4 ⟨rfl, F4, hO, -⟩
        have HO4 := Lib.hid hO
        clear hO K
        go_wp2_with fail
        exact ⟨⟨i + 1, by omega, by go_num, F4, cs, hcl, HO4.out⟩, by simp [intOf]; omega⟩
    · obtain rfl : i = 8388608 := by omega
      obtain ⟨ev, he, hel, hsv, hse⟩ := evs_end
      rw [he] at hO
      have hse2 : sinceE ev.length 8388606 = 0 := by rw [hel]; exact hse
      have K := Lib.hid (cells_o hO)
      have HO1 := Lib.hid hO
      have HL := Lib.hid hel
      have HS := Lib.hid (And.intro hsv hse2)
      clear hO HO he hel hsv hse hse2
      go_wp2_with fail
      refine K.out.mono ?_
      rintro e w2 ⟨v4, rfl, hR, hOff, hO, -⟩
      have HU := Lib.hid hR
      have HF := Lib.hid hOff
      have HO2 := Lib.hid hO
      have K1 := Lib.hid (room_o 0 hO)
      have K2 := Lib.hid (room_o 1 hO)
      have K3 := Lib.hid (steps_o hO)
      rw [show roomE ev.length 0 = 0 by rw [HL.out]; decide +kernel] at K1
      rw [show roomE ev.length 1 = 3 by rw [HL.out]; decide +kernel] at K2
      rw [HL.out] at K3
      clear hO hR hOff K HO1
      go_wp2_with fail
      refine K1.out.mono ?_
      rintro e w3 ⟨rfl, rfl⟩
      go_wp2_with fail
      refine K2.out.mono ?_
      rintro e w3 ⟨rfl, rfl⟩
      go_wp2_with fail
      refine K3.out.mono ?_
      rintro e w3 ⟨rfl, rfl⟩
      clear K1 K2 K3
      go_wp2_with fail
      go_loopw [5] (fun jv wr => ∃ j : Nat, j ≤ 9 ∧ jv = .int .i64 (j : Nat) ∧ ∃ F2, Own w wr F2 A cs [] ev ∧ Us wr v4 cs ∧ Off F2 wr v4) (fun jv _ => 9 - (intOf jv).toNat)
      case atStart => exact ⟨0, by omega, rfl, _, HO2.out, HU.out, HF.out⟩
      case round =>
        obtain ⟨j, hj, rfl, F2, hO, hU, hF⟩ := hrel
        by_cases hjt : j < 9
        · have i1 : (j : Int) < 9 := by omega
          have wi1 : IntKind.i64.wrap ((j : Int) + 1) = (j : Int) + 1 := IntWalk.i64_in _ (by omega)
          obtain ⟨r, hr⟩ : ∃ r, j % 3 = r := ⟨_, rfl⟩
          have hr3 : r < 3 := by omega
          have m3 : (j : Int) % 3 = (r : Int) := by omega
          have m3' : (j : Int).tmod 3 = (r : Int) := by rw [Int.tmod_eq_emod_of_nonneg (by omega)]; exact m3
          have hE : stepE cs.length ev.length (r : Int) = 3 := by unfold stepE; rw [if_neg (by omega), if_pos HL.out]
          have hE3 : stepE cs.length ev.length 3 = 7 := by unfold stepE; rw [if_pos (by omega)]
          have K1 := Lib.hid (load_o (r : Int) hO)
          rw [show stepV cs.length ev 1 (r : Int) = ev by unfold stepV; rw [hE, if_neg (by decide)], show loadV cs ev.length (r : Int) = 0 by unfold loadV; rw [hE, if_neg (by decide)], hE] at K1
          have HU1 := Lib.hid hU
          have HF1 := Lib.hid hF
          clear hO hU hF hr
          go_wp2_with fail
          refine K1.out.mono ?_
          rintro e w5 ⟨rfl, F5, hO5, hT5⟩
          have hU5 := Row.turn HU1.out HF1.out hT5
          have hF5 := Off.turn HF1.out hT5
          have K2 := Lib.hid (store_o (r : Int) 5 (by omega) hO5)
          rw [show stepV cs.length ev 2 (r : Int) = ev by unfold stepV; rw [hE, if_neg (by decide)], show storeV cs ev.length (r : Int) 5 = cs by unfold storeV; rw [hE, if_neg (by decide)], hE] at K2
          have HU5 := Lib.hid hU5
          have HF5 := Lib.hid hF5
          clear hO5 hT5 hU5 hF5 K1
          go_wp2_with fail
          refine K2.out.mono ?_
          rintro e w6 ⟨rfl, F6, hO6, hT6⟩
          have hU6 := Row.turn HU5.out HF5.out hT6
          have hF6 := Off.turn HF5.out hT6
          have K3 := Lib.hid (load_o 3 hO6)
          rw [show stepV cs.length ev 1 3 = ev by unfold stepV; rw [hE3, if_neg (by decide)], show loadV cs ev.length 3 = 0 by unfold loadV; rw [hE3, if_neg (by decide)], hE3] at K3
          have HU6 := Lib.hid hU6
          have HF6 := Lib.hid hF6
          clear hO6 hT6 hU6 hF6 K2
          go_wp2_with fail
          refine K3.out.mono ?_
          rintro e w7 ⟨rfl, F7, hO7, hT7⟩
          have HO7 := Lib.hid hO7
          have HU7 := Lib.hid (Row.turn HU6.out HF6.out hT7)
          have HF7 := Lib.hid (Off.turn HF6.out hT7)
          clear hO7 hT7 K3
          go_wp2_with fail
          exact ⟨⟨j + 1, by omega, by go_num, F7, HO7.out, HU7.out, HF7.out⟩, by simp [intOf]; omega⟩
        · obtain rfl : j = 9 := by omega
          have HO3 := Lib.hid hO
          have HU3 := Lib.hid hU
          have HF3 := Lib.hid hF
          have K1 := Lib.hid (since_o 8388606 hO)
          rw [HS.out.1, HS.out.2] at K1
          clear hO hU hF
          go_wp2_with fail
          refine K1.out.mono ?_
          rintro e w5 ⟨v, rfl, hr, -, hO5, hT5⟩
          have HU5 := Lib.hid (Row.turn HU3.out HF3.out hT5)
          have HF5 := Lib.hid (Off.turn HF3.out hT5)
          have HR := Lib.hid hr
          have HO5 := Lib.hid hO5
          clear hr hO5 hT5 K1
          have hb7 : Below w5.heap.size w5 (w5.alloc (.cells #[.int .i32 2, .int .i32 0, .int .i32 1, .int .i32 1] 54)) := (Below.refl _ _).alloc (Nat.le_refl _) _
          have hrow : Evs (w5.alloc (.cells #[.int .i32 2, .int .i32 0, .int .i32 1, .int .i32 1] 54)) (.slice (some ⟨w5.heap.size, 0, none⟩) 2 2) [(2, 0), (1, 1)] := by
            refine Row.of_owns (base := w5.heap.size) (e := 54) (World.ownsRow_lit w5 #[.int .i32 2, .int .i32 0, .int .i32 1, .int .i32 1] 2 (Nat.le_refl _) (by decide) rfl)
          have K2 := Lib.hid (same_ev v _ _ _ _ (Row.below HR.out hb7) hrow)
          rw [decide_eq_true rfl] at K2
          have hO6 := HO5.out.below hb7
          have HB7 := Lib.hid hb7
          have HO6 := Lib.hid hO6
          clear hb7 hrow hO6
          go_wp2_with fail
          refine K2.out.mono ?_
          rintro e w6 ⟨rfl, hb6⟩
          have HB6 := Lib.hid (next HB7.out hb6)
          have hO7 := HO5.out.below HB6.out
          have HO7 := Lib.hid hO7
          have K3 := Lib.hid (cells_o hO7)
          clear hO7 hb6 K2
          go_wp2_with fail
          refine K3.out.mono ?_
          rintro e w7 ⟨v7, rfl, hR7, -, hO7, hT7⟩
          have hU7 := Row.turn (Row.below HU5.out HB6.out) (fun a n c e => ⟨(HF5.out a n c e).1, Nat.lt_of_lt_of_le (HF5.out a n c e).2 HB6.out.size⟩) hT7
          have K4 := Lib.hid (same_u v7 v4 _ _ w7 hR7 hU7)
          rw [decide_eq_true rfl] at K4
          have HO8 := Lib.hid hO7
          clear hR7 hU7 hO7 hT7 K3
          go_wp2_with fail
          refine K4.out.mono ?_
          rintro e w8 ⟨rfl, hb8⟩
          have hO9 := HO8.out.below hb8
          have K5 := Lib.hid (steps_o hO9)
          rw [HL.out] at K5
          have K6 := Lib.hid (forget_o hO9)
          clear hO9 hb8 K4
          go_wp2_with fail
          refine K5.out.mono ?_
          rintro e w9 ⟨rfl, rfl⟩
          go_wp2_with fail
          refine K6.out.mono ?_
          rintro e w10 ⟨rfl, F10, hO10, -⟩
          have K7 := Lib.hid (steps_o hO10)
          have K8 := Lib.hid (store_o 0 9 (by omega) hO10)
          rw [show stepE cs.length ([] : List Ev).length 0 = 0 by rw [hcl]; decide, show stepV cs.length [] 2 0 = [(2, 0)] by rw [hcl]; decide] at K8
          clear hO10 K5 K6
          go_wp2_with fail
          refine K7.out.mono ?_
          rintro e w11 ⟨rfl, rfl⟩
          go_wp2_with fail
          refine K8.out.mono ?_
          rintro e w12 ⟨rfl, F12, hO12, -⟩
          have K9 := Lib.hid (steps_o hO12)
          have HB12 := Lib.hid hO12.b
          clear hO12 K7 K8
          go_wp2_with fail
          refine K9.out.mono ?_
          rintro e w13 ⟨rfl, rfl⟩
          go_wp2_with fail
          refine (awake_p _).mono ?_
          rintro e w14 ⟨rfl, hb14⟩
          go_wp2_with fail
          go_ret
          exact ⟨rfl, next HB12.out hb14⟩

theorem own : ownKnob Tryd.prog.godebug = none := by kernel_rfl
theorem laidOut : laidOutB Tryd.prog = true := by kernel_rfl
abbrev laidL : List (String × DataW Unit) := [("unicode/utf8.acceptRanges", Rows.laid_unicode_utf8_acceptRanges), ("unicode/utf8.first", Rows.laid_unicode_utf8_first)]

set_option maxRecDepth 100000 in
theorem lifted (os : Os) (started : os.Started) (H : Type) (enc : TypeId × Value → H) :
    ReturnsInHanded {} Tryd.checked os 6 .any (fun w args => (Rows.arenaEndsSpec.pre enc Tryd.prog Tryd.f6 [] false w args ∧ laidMetH Tryd.prog laidL w) ∧ sizedMet enc Tryd.prog Tryd.f6 (OpenSpec.ofChange Rows.arenaEndsSpec) false w args) (Rows.arenaEndsSpec.post enc Tryd.prog Tryd.f6 false true false false) := by
  refine returnsInHanded_of_change_and (C := Tryd.checked) (X := fun w _ => laidMetH Tryd.prog laidL w) (fun _ _ _ hh h => h.of_heap hh) own started (by kernel_rfl) Tryd.func6
    (ChangeSpec.witness_shaped (enc := enc) (C := Tryd.checked) (os := os) (X := fun w _ => laidMetH Tryd.prog laidL w) false (laidWorld os) #[] 8 rfl (World.shaped_of_RefB (by kernel_rfl) (by kernel_rfl)) (by kernel_rfl) (by kernel_rfl) (by kernel_rfl) (door_met os _)) ?_
  intro W base args ds gs before hval0 hW _ _ _ _
  have hval : ∀ (j : Nat) t v, Tryd.f6.params[j]? = some t → args[j]? = some v → Value.okWide Tryd.prog W .any base t v := hval0
  have hW' := hW
  obtain ⟨p, q, hA0, hV, rfl, hfz, hnd⟩ := hW
  have hA : DataW.TrodAll enc Tryd.prog W 0 (fun _ => true) true Tryd.f6.params.toList args.toList ds p := hA0
  rw [Tryd.params6] at hA hval
  obtain ⟨hargs, rfl, rfl⟩ := trodAll_nil hA
  obtain rfl : args = #[] := by cases args; simp_all
  obtain ⟨rfl, rfl⟩ := trodVars_none hV
  clear hA0 hval0
  refine (walk W).mono fun e W' ⟨he, bel⟩ => ?_
  subst he
  exact ⟨_, rfl, _, _, _, [], _, [], hW', trodAll_mk1 (shut_bool Tryd.underlying4 _), trodAll_mk0, rfl, bel.frame _, fun h => by cases h⟩

theorem over : Rows.arenaEndsRow.holds Tryd.pinned (OpenSpec.ofChange Rows.arenaEndsSpec) :=
  OpenClaim.holds_of_wide 6 Tryd.f6 rfl rfl rfl rfl rfl rfl rfl ⟨rfl, rfl, rfl, rfl, rfl⟩ rfl rfl rfl rfl rfl (by kernel_rfl) Tryd.func6 (by kernel_rfl)
    (of_decide_eq_true (by kernel_rfl)) (by unfold Func.isWrapper; first | (rw [if_pos (by decide +kernel)]; kernel_rfl) | (rw [if_neg (by decide +kernel)]; exact ⟨rfl, rfl⟩))
    (fun os started H enc _ => lifted os started H enc)

theorem proved : Rows.ArenaEndsCardSaid :=
  Claim7.holds_tied_plain_at .later [] [.data, .pinned] true (true, "fa0ba3bc22dc5505d8766bf6efcc6355ea8fadaca26ff31e805dd7d45e3f142c") false
    over (fun _ h => by cases h) (by kernel_rfl) (fun _ h => by cases h) arenaEnds_row_tie rfl ⟨rfl, rfl⟩ (by kernel_rfl) rfl
    (fun f fn hf hfn => by
      obtain rfl : f = 6 := Option.some.inj ((show Tryd.prog.funcNamed "dragnet/dragnetlaw05.ArenaEnds" = some 6 by kernel_rfl).symm.trans hf) |>.symm
      obtain rfl : fn = Tryd.f6 := (Option.some.inj (Tryd.func6.symm.trans hfn)).symm
      exact ⟨by kernel_rfl, fun j t ht => by
        rw [Tryd.params6] at ht
        have hm : t ∈ ([] : List Nat) := by simpa using Array.mem_of_getElem? ht
        have hall : (([] : List Nat).all fun u => !Tryd.prog.wantsStandIn u) = true := by kernel_rfl
        exact (show Tryd.prog.wantsStandIn t = false by simpa using List.all_eq_true.1 hall t hm)⟩)
    (by kernel_rfl)
#print axioms proved
end Go.Proofs.YtomjefplacgoeaaDoor.arenaEnds
