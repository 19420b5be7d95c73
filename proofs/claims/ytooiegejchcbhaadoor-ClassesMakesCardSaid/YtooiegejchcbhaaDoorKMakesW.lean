/- ClassesMakes: the law returns true. No conditions beside the laid table. -/
import Derived.Test.YtooiegejchcbhaaDoorKLawS
import Derived.Test.YtooiegejchcbhaaDoorKRowArg
import Derived.Test.YtooiegejchcbhaaDoorTie
import Derived.Test.YtooiegejchcbhaaDoorCards
import Derived.SevenTiedAt
namespace Go.Proofs.YtooiegejchcbhaaDoor.classesMakes
open Go.ChangeShapes Go.WideShapes Go.ChangeAt Go.RowKit

set_option maxRecDepth 100000 in
set_option maxHeartbeats 4000000 in
theorem walkB (v : Value) (l : List UInt8) (x y : Int) (w : World) (hT : Tab w) (hR : Row w 1 v l.length (bcells l)) :
    Calls Tryd.prog 5 #[v, .int .i64 x, .int .i64 y] w fun e w' => e = .returned (.bool true) ∧ Below w.heap.size w w' := by
  have HT := Lib.hid hT
  have HR := Lib.hid hR
  have hmax : l.length ≤ maxLen := hR.2.1
  unfold maxLen at hmax
  clear hT
  obtain ⟨a, cap, hv⟩ : ∃ a cap, v = .slice a l.length cap := by obtain ⟨_, _, a, cap, e, _⟩ := hR; exact ⟨a, cap, e⟩
  clear hR
  subst hv
  by_cases hlen : 1000 < l.length
  · have t1 : (1000 : Int) < (l.length : Int) := by omega
    go_enter Tryd.func5, Tryd.ntmps5
    go_wp2_with fail
    refine (shown_p _ HT.out).mono ?_
    rintro e w1 ⟨rfl, hb1⟩
    go_wp2_with fail
    go_ret
    exact ⟨rfl, hb1⟩
  have t1 : ¬ (1000 : Int) < (l.length : Int) := by omega
  obtain ⟨c, hc⟩ : ∃ c : Nat, IntKind.u8.wrap x = (c : Int) := ⟨(IntKind.u8.wrap x).toNat, by rw [IntKind.wrap_u8]; omega⟩
  have hc256 : c < 256 := by rw [IntKind.wrap_u8] at hc; omega
  have es := eq_self
  have KO := Lib.hid (fun w h => of_p (.slice a l.length cap) l w h)
  have KP := Lib.hid (fun w h => of_r (.slice a l.length cap) l w h)
  have KG := Lib.hid (fun w => range_p x y w)
  have KH := Lib.hid (fun w => range_r x y w)
  generalize rangeS x y = R at *
  generalize rangeE x y = E at *
  generalize ofL l = S at *
  have K1 := Lib.hid (fun w => has_p S c hc256 w)
  have K2 := Lib.hid (fun w => has_r S c hc256 w)
  have K3 := Lib.hid (fun w => add_p S c hc256 w)
  have K4 := Lib.hid (fun w => add_r S c hc256 w)
  have K5 := Lib.hid (fun w => drop_p S c hc256 w)
  have K6 := Lib.hid (fun w => drop_r S c hc256 w)
  generalize S ||| bit c = SA at *
  generalize S &&& ~~~(bit c) = SD at *
  generalize hasB S c = SH at *
  unfold setV setC at *
  go_enter Tryd.func5, Tryd.ntmps5
  go_wp2_with fail
  refine (KO.out _ HR.out).mono ?_
  rintro e w1 ⟨rfl, hb1⟩
  have HA1 := Lib.hid (SetAt.new w1 S)
  have HB1 := Lib.hid (hb1.alloc hb1.size (.cells (setC S) 24))
  clear hb1
  unfold setC at *
  go_wp2_with fail
  refine (KG.out _).mono ?_
  rintro e w2 ⟨rfl, hb2⟩
  have HA2 := Lib.hid ((HA1.out.below hb2 (by simp)).alloc (.cells (setC R) 24))
  have HC2 := Lib.hid (SetAt.new w2 R)
  have hB2 := next HB1.out hb2
  have HB2 := Lib.hid (hB2.alloc hB2.size (.cells (setC R) 24))
  have l2 : w1.heap.size < w2.heap.size := by have h := hb2.size; simp at h; omega
  clear hb2 hB2 HA1 HB1
  unfold setC at *
  go_wp2_with fail
  refine (KH.out _).mono ?_
  rintro e w3 ⟨rfl, hb3⟩
  have HA3 := Lib.hid ((HA2.out.below hb3 (by simp; omega)).alloc (.cells (setC R) 24))
  have HC3 := Lib.hid ((HC2.out.below hb3 (by simp)).alloc (.cells (setC R) 24))
  have HD3 := Lib.hid (SetAt.new w3 R)
  have hB3 := next HB2.out hb3
  have HB3 := Lib.hid (hB3.alloc hB3.size (.cells (setC R) 24))
  clear hb3 hB3 HA2 HB2 HC2 l2
  unfold setC at *
  go_wp2_with fail
  generalize w3.alloc (.cells #[.int .u64 (word R 0 : Int), .int .u64 (word R 1 : Int), .int .u64 (word R 2 : Int), .int .u64 (word R 3 : Int)] 24) = W at *
  obtain ⟨x0, x1, x2, x3⟩ := HA3.out.cells
  obtain ⟨y0, y1, y2, y3⟩ := HC3.out.cells
  obtain ⟨z0, z1, z2, z3⟩ := HD3.out.cells
  have gx0 := fun d os => cell_regrown x0 d os
  have gx1 := fun d os => cell_regrown x1 d os
  have gx2 := fun d os => cell_regrown x2 d os
  have gx3 := fun d os => cell_regrown x3 d os
  have gy0 := fun d os => cell_regrown y0 d os
  have gy1 := fun d os => cell_regrown y1 d os
  have gy2 := fun d os => cell_regrown y2 d os
  have gy3 := fun d os => cell_regrown y3 d os
  have gz0 := fun d os => cell_regrown z0 d os
  have gz1 := fun d os => cell_regrown z1 d os
  have gz2 := fun d os => cell_regrown z2 d os
  have gz3 := fun d os => cell_regrown z3 d os
  have HCP := Lib.hid (fun d os => Calls.regrown_of (d := d) (os := os) (KP.out _ (Row.below (Row.below HR.out HB3.out) (below_regrown W d os))))
  have HCS := Lib.hid (fun d os => Calls.regrown_of (d := d) (os := os) (shown_p _ ((HT.out.below HB3.out).below (below_regrown W d os))))
  clear x0 x1 x2 x3 y0 y1 y2 y3 z0 z1 z2 z3
  refine wp_region_quiet_below (by kernel_rfl) (by kernel_rfl) ?_
  repeat (go_big_quiet_step ((first
    | (go_at_call 19; exact HCP.out _ _)
    | (go_at_call 20; exact Calls.regrown_of (K1.out _))
    | (go_at_call 21; exact Calls.regrown_of (K2.out _))
    | (go_at_call 22; exact Calls.regrown_of (K3.out _))
    | (go_at_call 23; exact Calls.regrown_of (K4.out _))
    | (go_at_call 16; exact Calls.regrown_of (K5.out _))
    | (go_at_call 24; exact Calls.regrown_of (K6.out _))
    | (go_at_call 9; exact HCS.out _ _))))
  refine wpQuiet_nil ?_
  intro _ hw'
  obtain ⟨⟨dq, osq⟩, hw''⟩ := hw'
  subst hw''
  clear gx0 gx1 gx2 gx3 gy0 gy1 gy2 gy3 gz0 gz1 gz2 gz3
  go_wp2_with fail
  go_ret
  exact ⟨rfl, next HB3.out (below_regrown _ _ _)⟩

theorem walk {H : Type} {enc : TypeId × Value → H} {d : DataW H} {p : List MemPlace} {base : Nat} (v : Value) (x y : Int) (w : World) (hT : Tab w)
    (hk : DataW.Trod enc Tryd.prog w 0 (fun _ => true) true 39 v d p) (hv : Value.okWide Tryd.prog w .any base 39 v) (_ : IntKind.i64.has x) (_ : IntKind.i64.has y) :
    Calls Tryd.prog 5 #[v, .int .i64 x, .int .i64 y] w fun e w' => e = .returned (.bool true) ∧ Below w.heap.size w w' := by
  obtain ⟨n, hn⟩ := hk
  obtain ⟨a, len, cap, rfl⟩ := okWide_slice Tryd.underlying39 hv
  obtain ⟨l, hl⟩ := bytes_of hn
  exact walkB _ l x y w hT hl

theorem own : ownKnob Tryd.prog.godebug = none := by kernel_rfl
theorem laidOut : laidOutB Tryd.prog = true := by kernel_rfl
abbrev laidL : List (String × DataW Unit) := [("math/bits.deBruijn64tab", Rows.laid_math_bits_deBruijn64tab)]

set_option maxRecDepth 100000 in
theorem lifted (os : Os) (started : os.Started) (H : Type) (enc : TypeId × Value → H) :
    ReturnsInHanded {} Tryd.checked os 5 .any (fun w args => (Rows.classesMakesSpec.pre enc Tryd.prog Tryd.f5 [] false w args ∧ laidMetH Tryd.prog laidL w) ∧ sizedMet enc Tryd.prog Tryd.f5 (OpenSpec.ofChange Rows.classesMakesSpec) false w args) (Rows.classesMakesSpec.post enc Tryd.prog Tryd.f5 false true false false) := by
  refine returnsInHanded_of_change_and (C := Tryd.checked) (X := fun w _ => laidMetH Tryd.prog laidL w) (fun _ _ _ hh h => h.of_heap hh) own started (by kernel_rfl) Tryd.func5
    (ChangeSpec.witness_shaped (enc := enc) (C := Tryd.checked) (os := os) (X := fun w _ => laidMetH Tryd.prog laidL w) false (World.doorLaid Tryd.prog 400 os) #[.slice none 0 0, .int .i64 0, .int .i64 0] 8 rfl (World.shaped_of_RefB (by kernel_rfl) (by kernel_rfl)) (by kernel_rfl) (by kernel_rfl) (by kernel_rfl) (door_met os _)) ?_
  intro W base args ds gs before hval0 hW _ _ hL _
  have hT : Tab W := tab_of_laid hL
  have hval : ∀ (j : Nat) t v, Tryd.f5.params[j]? = some t → args[j]? = some v → Value.okWide Tryd.prog W .any base t v := hval0
  have hW' := hW
  obtain ⟨p, q, hA0, hV, rfl, hfz, hnd⟩ := hW
  have hA : DataW.TrodAll enc Tryd.prog W 0 (fun _ => true) true Tryd.f5.params.toList args.toList ds p := hA0
  rw [Tryd.params5] at hA hval
  obtain ⟨v0, vs0, d0, ds0, p0, q0, hargs, rfl, rfl, k0, r0⟩ := trodAll_cons hA
  obtain ⟨v1, vs1, d1, ds1, p1, q1, rfl, rfl, rfl, k1, r1⟩ := trodAll_cons r0
  obtain ⟨v2, vs2, d2, ds2, p2, q2, rfl, rfl, rfl, k2, r2⟩ := trodAll_cons r1
  obtain ⟨rfl, rfl, rfl⟩ := trodAll_nil r2
  obtain rfl : args = #[v0, v1, v2] := by cases args; simp_all
  obtain ⟨rfl, rfl⟩ := trodVars_none hV
  have lt0 : ∀ x ∈ p0, x.block < W.heap.size := by obtain ⟨m, hm⟩ := k0; exact DataW.trod_lt m _ _ _ hm
  have lt1 : ∀ x ∈ p1, x.block < W.heap.size := by obtain ⟨m, hm⟩ := k1; exact DataW.trod_lt m _ _ _ hm
  have lt2 : ∀ x ∈ p2, x.block < W.heap.size := by obtain ⟨m, hm⟩ := k2; exact DataW.trod_lt m _ _ _ hm
  obtain ⟨a1, rfl, w1⟩ := arg_int Tryd.underlying3 (hval 1 3 v1 rfl rfl)
  obtain ⟨a2, rfl, w2⟩ := arg_int Tryd.underlying3 (hval 2 3 v2 rfl rfl)
  clear hA0 hval0
  refine (walk v0 a1 a2 W hT k0 (hval 0 39 v0 rfl rfl) w1 w2).mono fun e W' ⟨he, bel⟩ => ?_
  subst he
  exact ⟨_, rfl, _, _, _, [], _, [], hW', trodAll_mk1 (shut_bool Tryd.underlying4 _), (trodAll_cons_mk (Below.trod laidOut (by kernel_rfl) (of_decide_eq_true (by kernel_rfl)) k0 bel lt0) (trodAll_cons_mk (Below.trod laidOut (by kernel_rfl) (of_decide_eq_true (by kernel_rfl)) k1 bel lt1) (trodAll_cons_mk (Below.trod laidOut (by kernel_rfl) (of_decide_eq_true (by kernel_rfl)) k2 bel lt2) trodAll_mk0))), rfl, bel.frame _, fun h => by cases h⟩

theorem over : Rows.classesMakesRow.holds Tryd.pinned (OpenSpec.ofChange Rows.classesMakesSpec) :=
  OpenClaim.holds_of_wide 5 Tryd.f5 rfl rfl rfl rfl rfl rfl rfl ⟨rfl, rfl, rfl, rfl, rfl⟩ rfl rfl rfl rfl rfl (by kernel_rfl) Tryd.func5 (by kernel_rfl)
    (of_decide_eq_true (by kernel_rfl)) (by unfold Func.isWrapper; first | (rw [if_pos (by decide +kernel)]; kernel_rfl) | (rw [if_neg (by decide +kernel)]; exact ⟨rfl, rfl⟩))
    (fun os started H enc _ => lifted os started H enc)

theorem proved : Rows.ClassesMakesCardSaid :=
  Claim7.holds_tied_plain_at .later [] [.data] true (true, "22bfa03ded28fcdf6dce186b205dc0d6516f7b640c39f0a6a20e7c48906351c0") false
    over (fun _ h => by cases h) (by kernel_rfl) (fun _ h => by cases h) classesMakes_row_tie rfl ⟨rfl, rfl⟩ (by kernel_rfl) rfl
    (fun f fn hf hfn => by
      obtain rfl : f = 5 := Option.some.inj ((show Tryd.prog.funcNamed "dragnet/dragnetlaw03.ClassesMakes" = some 5 by kernel_rfl).symm.trans hf) |>.symm
      obtain rfl : fn = Tryd.f5 := (Option.some.inj (Tryd.func5.symm.trans hfn)).symm
      exact ⟨by kernel_rfl, fun j t ht => by
        rw [Tryd.params5] at ht
        have hm : t ∈ ([39, 3, 3] : List Nat) := by simpa using Array.mem_of_getElem? ht
        have hall : (([39, 3, 3] : List Nat).all fun u => !Tryd.prog.wantsStandIn u) = true := by kernel_rfl
        exact (show Tryd.prog.wantsStandIn t = false by simpa using List.all_eq_true.1 hall t hm)⟩)
    (by kernel_rfl)
#print axioms proved
end Go.Proofs.YtooiegejchcbhaaDoor.classesMakes
