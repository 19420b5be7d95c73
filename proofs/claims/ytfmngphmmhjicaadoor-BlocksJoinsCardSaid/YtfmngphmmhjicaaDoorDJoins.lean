/- BlocksJoins: the law returns true. No conditions. -/
import Derived.Test.YtfmngphmmhjicaaDoorDArg
import Derived.Test.YtfmngphmmhjicaaDoorDJoinR
import Derived.Test.YtfmngphmmhjicaaDoorDAwake
import Derived.Test.YtfmngphmmhjicaaDoorDLaid
import Derived.Test.YtfmngphmmhjicaaDoorTie
import Derived.Test.YtfmngphmmhjicaaDoorCards
import Derived.SevenTiedAt
namespace Go.Proofs.YtfmngphmmhjicaaDoor.blocksJoins
open Go.ChangeShapes Go.WideShapes Go.ChangeAt Go.RowKit

set_option maxRecDepth 100000 in
set_option maxHeartbeats 4000000 in
theorem walkB (v : Value) (L : List Part) (b x0 x1 : Int) (w : World) (hv : Parts w v L) (hn : ∀ p ∈ L, numOk p) :
    Calls Tryd.prog 4 #[v, .int .i64 b, .agg #[.int .i64 x0, .int .i64 x1]] w fun e w' => e = .returned (.bool true) ∧ Below w.heap.size w w' := by
  obtain ⟨a, cap, rfl⟩ := Row.form2 hv
  have HV0 := Lib.hid (Row.below hv ((Below.refl w.heap.size w).alloc (Nat.le_refl _) (.cells #[.int .i64 x0, .int .i64 x1] 36)))
  have HB0 := Lib.hid ((Below.refl w.heap.size w).alloc (Nat.le_refl _) (.cells #[.int .i64 x0, .int .i64 x1] 36))
  have hh0 : (w.alloc (.cells #[.int .i64 x0, .int .i64 x1] 36)).heap[w.heap.size]? = some (.cells #[.int .i64 x0, .int .i64 x1] 36) := heap_alloc_new w _
  have HH0 := Lib.hid hh0
  have hlt0 : w.heap.size < (w.alloc (.cells #[.int .i64 x0, .int .i64 x1] 36)).heap.size := by simp
  have hmax : L.length ≤ 9223372036854775807 := by have := hv.2.1; unfold maxLen at this; omega
  have HN := Lib.hid hn
  clear hv hh0 hn
  go_enter Tryd.func4, Tryd.ntmps4
  go_wp2_with fail
  refine (far_l _ L _ HV0.out).mono ?_
  rintro e w1 ⟨rfl, hb1⟩
  have HB1 := Lib.hid (next HB0.out hb1)
  have HV1 := Lib.hid (Row.below HV0.out hb1)
  have HH1 := Lib.hid ((hb1.block w.heap.size hlt0).trans HH0.out)
  have hlt1 : w.heap.size < w1.heap.size := Nat.lt_of_lt_of_le hlt0 hb1.size
  clear hb1 HB0 HV0 HH0 hlt0
  by_cases hf : farV L = true
  · rw [hf]
    clear hf
    go_wp2_with fail
    refine (awake_p _).mono ?_
    rintro e w2 ⟨rfl, hb2⟩
    go_wp2_with fail
    go_ret
    exact ⟨rfl, next HB1.out hb2⟩
  have hf' : farV L = false := by simpa using hf
  obtain ⟨hl70, hl40⟩ := far_no hf'
  have hok : ∀ p ∈ L, okPart p := fun p hp => ⟨Nat.le_trans (hl40 p hp) (by omega), HN.out p hp⟩
  have HOK := Lib.hid hok
  have H40 := Lib.hid hl40
  rw [hf']
  clear hf hf' hok hl40
  have KP := Lib.hid (fun w h => join_p (.slice a L.length cap) L b w h (by omega) HOK.out)
  have KR := Lib.hid (fun w h => join_r (.slice a L.length cap) L b w h (by omega) HOK.out)
  generalize joinV L b = r at *
  obtain ⟨s, n, e9⟩ := r
  go_wp2_with fail
  refine (KP.out _ HV1.out).mono ?_
  rintro e w2 ⟨rfl, hb2⟩
  have HB2 := Lib.hid (next HB1.out hb2)
  have HV2 := Lib.hid (Row.below HV1.out hb2)
  have HH2 := Lib.hid ((hb2.block w.heap.size hlt1).trans HH1.out)
  have hlt2 : w.heap.size < w2.heap.size := Nat.lt_of_lt_of_le hlt1 hb2.size
  clear hb2 HB1 HV1 HH1 hlt1
  go_wp2_with fail
  refine (KR.out _ HV2.out).mono ?_
  rintro e w3 ⟨rfl, hb3⟩
  have HB3 := Lib.hid (next HB2.out hb3)
  have HV3 := Lib.hid (Row.below HV2.out hb3)
  have hh3 := (hb3.block w.heap.size hlt2).trans HH2.out
  have hlt3 : w.heap.size < w3.heap.size := Nat.lt_of_lt_of_le hlt2 hb3.size
  clear hb3 HB2 HV2 HH2 hlt2 KP KR
  have HH3 := Lib.hid hh3
  by_cases h0 : L.length = 0
  · obtain rfl := List.length_eq_zero_iff.1 h0
    clear h0 hh3
    go_wp2_with fail
    refine (awake_p _).mono ?_
    rintro e w4 ⟨rfl, hb4⟩
    go_wp2_with fail
    go_ret
    exact ⟨rfl, next HB3.out hb4⟩
  · have h0i : ((L.length : Int) == 0) = false := beq_eq_false_iff_ne.2 (by omega)
    have d0 : w3.cell? ⟨w.heap.size, 0, none⟩ = some (.int .i64 x0) := by unfold World.cell?; rw [hh3]; rfl
    have d1 : w3.cell? ⟨w.heap.size, 1, none⟩ = some (.int .i64 x1) := by unfold World.cell?; rw [hh3]; rfl
    obtain ⟨X, hX⟩ : ∃ X : Nat, IntKind.u64.wrap x0 = (X : Int) := ⟨(IntKind.u64.wrap x0).toNat, by rw [IntKind.wrap_u64]; omega⟩
    have hXl : (X : Int) < 18446744073709551616 := by rw [IntKind.wrap_u64] at hX; omega
    have wl : IntKind.u64.wrap (L.length : Int) = (L.length : Int) := by rw [IntKind.wrap_u64]; omega
    obtain ⟨k, hk⟩ : ∃ k, X % L.length = k := ⟨_, rfl⟩
    have hkl : k < L.length := by rw [← hk]; exact Nat.mod_lt _ (by omega)
    have hrm : (X : Int) % (L.length : Int) = (k : Int) := by rw [← hk]; push_cast; rfl
    have hrt : (X : Int).tmod (L.length : Int) = (k : Int) := by rw [Int.tmod_eq_emod_of_nonneg (by omega)]; exact hrm
    have wk : IntKind.i64.wrap (k : Int) = (k : Int) := IntWalk.i64_in _ (by omega)
    have wk2 : IntKind.u64.wrap (k : Int) = (k : Int) := by rw [IntKind.wrap_u64]; omega
    have i1 : (0 : Int) ≤ (k : Int) := by omega
    have i2 : (k : Int) < (L.length : Int) := by omega
    obtain ⟨g, o, hga, hg, hc0, hc1, hc2⟩ := Parts.at HV3.out hkl
    subst hga
    have hp40 := H40.out L[k] (List.getElem_mem hkl)
    generalize L[k] = p at *
    have HK := Lib.hid hk
    clear hk hh3
    go_wp2_with fail
    have KE := Lib.hid (fun w => end_p p x1 w (by omega))
    have KF := Lib.hid (fun w => end_r p x1 w (by omega))
    generalize endV p x1 = ev at *
    generalize endE p x1 = ee at *
    have HB4 := Lib.hid (HB3.out.alloc HB3.out.size (.cells #[.string (str p.1), .int .i64 p.2.1, .int .i64 p.2.2] 33))
    have hn4 : (w3.alloc (.cells #[.string (str p.1), .int .i64 p.2.1, .int .i64 p.2.2] 33)).heap[w3.heap.size]? = some (.cells #[.string (str p.1), .int .i64 p.2.1, .int .i64 p.2.2] 33) := heap_alloc_new w3 _
    have hlt4 : w3.heap.size < (w3.alloc (.cells #[.string (str p.1), .int .i64 p.2.1, .int .i64 p.2.2] 33)).heap.size := by simp
    have ho4 : (w3.alloc (.cells #[.string (str p.1), .int .i64 p.2.1, .int .i64 p.2.2] 33)).heap[w.heap.size]? = some (.cells #[.int .i64 x0, .int .i64 x1] 36) := (Below.heap_alloc _ _ _ hlt3).trans HH3.out
    have HN4 := Lib.hid hn4
    have HO4 := Lib.hid ho4
    clear hn4 ho4 d0 d1 hc0 hc1 hc2 hX hXl wl hkl hrm hrt wk wk2 i1 i2
    refine (KE.out _).mono ?_
    rintro e w5 ⟨rfl, hb5⟩
    have HB5 := Lib.hid (next HB4.out hb5)
    have hn5 := (hb5.block w3.heap.size hlt4).trans HN4.out
    have ho5 := (hb5.block w.heap.size (by omega)).trans HO4.out
    have d0 : w5.cell? ⟨w3.heap.size, 0, none⟩ = some (.string (str p.1)) := by unfold World.cell?; rw [hn5]; rfl
    have d1 : w5.cell? ⟨w3.heap.size, 1, none⟩ = some (.int .i64 p.2.1) := by unfold World.cell?; rw [hn5]; rfl
    have d2 : w5.cell? ⟨w3.heap.size, 2, none⟩ = some (.int .i64 p.2.2) := by unfold World.cell?; rw [hn5]; rfl
    have f1 : w5.cell? ⟨w.heap.size, 1, none⟩ = some (.int .i64 x1) := by unfold World.cell?; rw [ho5]; rfl
    clear hb5 hn5 ho5 HN4 HO4 hlt4
    go_wp2_with fail
    refine (KF.out _).mono ?_
    rintro e w6 ⟨rfl, hb6⟩
    have HB6 := Lib.hid (next HB5.out hb6)
    clear hb6 d0 d1 d2 f1
    go_wp2_with fail
    refine (awake_p _).mono ?_
    rintro e w7 ⟨rfl, hb7⟩
    go_wp2_with fail
    go_ret
    exact ⟨rfl, next HB6.out hb7⟩

theorem walk {H : Type} {enc : TypeId × Value → H} {d : DataW H} {p : List MemPlace} {base : Nat} (v : Value) (b : Int) (cs : Array Value) (w : World)
    (hk : DataW.Trod enc Tryd.prog w 0 (fun _ => true) true 22 v d p) (hv : Value.okWide Tryd.prog w .any base 22 v) (_ : IntKind.i64.has b)
    (hz : cs.size = [3, 3].length)
    (hc : ∀ (i : Nat) (u : TypeId) (x : Value), [3, 3][i]? = some u → cs[i]? = some x → Cell.okWide Tryd.prog w .any w.heap.size u x) :
    Calls Tryd.prog 4 #[v, .int .i64 b, .agg cs] w fun e w' => e = .returned (.bool true) ∧ Below w.heap.size w w' := by
  obtain ⟨n, hn⟩ := hk
  obtain ⟨a, len, cap, rfl⟩ := okWide_slice Tryd.underlying22 hv
  obtain ⟨L, hL, hnum⟩ := parts_of hn
  obtain ⟨c0, c1, rfl⟩ : ∃ c0 c1, cs = #[c0, c1] := by
    have h2 : cs.size = 2 := hz
    obtain ⟨l⟩ := cs
    match l, h2 with
    | [c0, c1], _ => exact ⟨c0, c1, rfl⟩
  obtain ⟨x0, rfl, _⟩ := cell_int Tryd.underlying3 (hc 0 _ _ rfl rfl)
  obtain ⟨x1, rfl, _⟩ := cell_int Tryd.underlying3 (hc 1 _ _ rfl rfl)
  exact walkB _ L b x0 x1 w hL hnum

theorem own : ownKnob Tryd.prog.godebug = none := by kernel_rfl
theorem laidOut : laidOutB Tryd.prog = true := by kernel_rfl
abbrev laidL : List (String × DataW Unit) := [("unicode/utf8.acceptRanges", Rows.laid_unicode_utf8_acceptRanges), ("unicode/utf8.first", Rows.laid_unicode_utf8_first)]

set_option maxRecDepth 100000 in
theorem lifted (os : Os) (started : os.Started) (H : Type) (enc : TypeId × Value → H) :
    ReturnsInHanded {} Tryd.checked os 4 .any (fun w args => (Rows.blocksJoinsSpec.pre enc Tryd.prog Tryd.f4 [] false w args ∧ laidMetH Tryd.prog laidL w) ∧ sizedMet enc Tryd.prog Tryd.f4 (OpenSpec.ofChange Rows.blocksJoinsSpec) false w args) (Rows.blocksJoinsSpec.post enc Tryd.prog Tryd.f4 false true false false) := by
  refine returnsInHanded_of_change_and (C := Tryd.checked) (X := fun w _ => laidMetH Tryd.prog laidL w) (fun _ _ _ hh h => h.of_heap hh) own started (by kernel_rfl) Tryd.func4
    (ChangeSpec.witness_shaped (enc := enc) (C := Tryd.checked) (os := os) (X := fun w _ => laidMetH Tryd.prog laidL w) false (laidWorld os) #[.slice none 0 0, .int .i64 0, .agg #[.int .i64 0, .int .i64 0]] 8 rfl (World.shaped_of_RefB (by kernel_rfl) (by kernel_rfl)) (by kernel_rfl) (by kernel_rfl) (by kernel_rfl) (door_met os _)) ?_
  intro W base args ds gs before hval0 hW _ _ _ _
  have hval : ∀ (j : Nat) t v, Tryd.f4.params[j]? = some t → args[j]? = some v → Value.okWide Tryd.prog W .any base t v := hval0
  have hW' := hW
  obtain ⟨p, q, hA0, hV, rfl, hfz, hnd⟩ := hW
  have hA : DataW.TrodAll enc Tryd.prog W 0 (fun _ => true) true Tryd.f4.params.toList args.toList ds p := hA0
  rw [Tryd.params4] at hA hval
  obtain ⟨v0, vs0, d0, ds0, p0, q0, hargs, rfl, rfl, k0, r0⟩ := trodAll_cons hA
  obtain ⟨v1, vs1, d1, ds1, p1, q1, rfl, rfl, rfl, k1, r1⟩ := trodAll_cons r0
  obtain ⟨v2, vs2, d2, ds2, p2, q2, rfl, rfl, rfl, k2, r2⟩ := trodAll_cons r1
  obtain ⟨rfl, rfl, rfl⟩ := trodAll_nil r2
  obtain rfl : args = #[v0, v1, v2] := by cases args; simp_all
  obtain ⟨rfl, rfl⟩ := trodVars_none hV
  have lt0 : ∀ x ∈ p0, x.block < W.heap.size := by obtain ⟨m, hm⟩ := k0; exact DataW.trod_lt m _ _ _ hm
  have lt1 : ∀ x ∈ p1, x.block < W.heap.size := by obtain ⟨m, hm⟩ := k1; exact DataW.trod_lt m _ _ _ hm
  have lt2 : ∀ x ∈ p2, x.block < W.heap.size := by obtain ⟨m, hm⟩ := k2; exact DataW.trod_lt m _ _ _ hm
  obtain ⟨a1, rfl, w1⟩ := arg_int Tryd.underlying3 (hval 1 3 v1 rfl rfl)
  obtain ⟨c2, rfl, z2, g2⟩ := arg_agg (ts := [3, 3]) (by kernel_rfl) (by kernel_rfl) (by kernel_rfl) (hval 2 36 v2 rfl rfl)
  clear hA0 hval0
  refine (walk v0 a1 c2 W k0 (hval 0 22 v0 rfl rfl) w1 z2 g2).mono fun e W' ⟨he, bel⟩ => ?_
  subst he
  exact ⟨_, rfl, _, _, _, [], _, [], hW', trodAll_mk1 (shut_bool Tryd.underlying4 _), (trodAll_cons_mk (Below.trod laidOut (by kernel_rfl) (of_decide_eq_true (by kernel_rfl)) k0 bel lt0) (trodAll_cons_mk (Below.trod laidOut (by kernel_rfl) (of_decide_eq_true (by kernel_rfl)) k1 bel lt1) (trodAll_cons_mk (Below.trod laidOut (by kernel_rfl) (of_decide_eq_true (by kernel_rfl)) k2 bel lt2) trodAll_mk0))), rfl, bel.frame _, fun h => by cases h⟩

theorem over : Rows.blocksJoinsRow.holds Tryd.pinned (OpenSpec.ofChange Rows.blocksJoinsSpec) :=
  OpenClaim.holds_of_wide 4 Tryd.f4 rfl rfl rfl rfl rfl rfl rfl ⟨rfl, rfl, rfl, rfl, rfl⟩ rfl rfl rfl rfl rfl (by kernel_rfl) Tryd.func4 (by kernel_rfl)
    (of_decide_eq_true (by kernel_rfl)) (by unfold Func.isWrapper; first | (rw [if_pos (by decide +kernel)]; kernel_rfl) | (rw [if_neg (by decide +kernel)]; exact ⟨rfl, rfl⟩))
    (fun os started H enc _ => lifted os started H enc)

theorem proved : Rows.BlocksJoinsCardSaid :=
  Claim7.holds_tied_plain_at .later [] [.data, .pinned] true (true, "bb2bdf44fbfcb8064622bec54d6487936d9def301811342a99e7e446278b78f2") false
    over (fun _ h => by cases h) (by kernel_rfl) (fun _ h => by cases h) blocksJoins_row_tie rfl ⟨rfl, rfl⟩ (by kernel_rfl) rfl
    (fun f fn hf hfn => by
      obtain rfl : f = 4 := Option.some.inj ((show Tryd.prog.funcNamed "dragnet/dragnetlaw27.BlocksJoins" = some 4 by kernel_rfl).symm.trans hf) |>.symm
      obtain rfl : fn = Tryd.f4 := (Option.some.inj (Tryd.func4.symm.trans hfn)).symm
      exact ⟨by kernel_rfl, fun j t ht => by
        rw [Tryd.params4] at ht
        have hm : t ∈ ([22, 3, 36] : List Nat) := by simpa using Array.mem_of_getElem? ht
        have hall : (([22, 3, 36] : List Nat).all fun u => !Tryd.prog.wantsStandIn u) = true := by kernel_rfl
        exact (show Tryd.prog.wantsStandIn t = false by simpa using List.all_eq_true.1 hall t hm)⟩)
    (by kernel_rfl)
#print axioms proved
end Go.Proofs.YtfmngphmmhjicaaDoor.blocksJoins
