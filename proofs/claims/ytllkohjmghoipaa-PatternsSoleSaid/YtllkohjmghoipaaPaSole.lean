/- PatternsSole: the law returns true: a pattern of one class matches exactly its bytes, alone. No conditions. -/
import Derived.Test.YtllkohjmghoipaaPaLong
import Derived.Test.YtllkohjmghoipaaPaCut
import Derived.Test.YtllkohjmghoipaaPaSoleV
namespace Go.Proofs.Ytllkohjmghoipaa.patternsSole
open Go.ChangeShapes Go.WideShapes Go.ChangeAt Go.RowKit

set_option maxRecDepth 100000 in
set_option maxHeartbeats 8000000 in
theorem walkN (s : CSet) (u : Value) (b : List UInt8) (w : World) (hb : Bytes w u b) (hc : CapOk u) :
    Calls Try.prog 7 #[setV s, u] w fun e w' => e = .returned (.bool true) ∧ Below w.heap.size w w' := by
  obtain ⟨a2, cap2, rfl⟩ := Row.form2 hb
  have hcap := hc.le
  have HBy := Lib.hid hb
  clear hb hc
  have hb0 : Below w.heap.size w (w.alloc (.cells (setC s) 45)) := (Below.refl _ _).alloc (Nat.le_refl _) _
  have s0 := SetAt.new w s
  have HB0 := Lib.hid hb0
  have HS0 := Lib.hid s0
  obtain ⟨c0, c1, c2, c3⟩ := s0.cells
  clear hb0 s0
  unfold setV
  unfold setC at *
  by_cases hl : 60 < b.length
  · go_enter Try.func7, Try.ntmps7
    go_wp2_with fail
    refine (shown_p _).mono ?_
    rintro e w1 ⟨rfl, hb⟩
    have HB := Lib.hid (next HB0.out hb)
    clear hb
    go_wp2_with fail
    go_ret
    exact ⟨rfl, HB.out⟩
  · have HP1 := Lib.hid (show Pats ((w.alloc (.cells #[.int .u64 (word s 0 : Int), .int .u64 (word s 1 : Int), .int .u64 (word s 2 : Int), .int .u64 (word s 3 : Int)] 45)).alloc (.cells #[.bool false, .int .u64 (word s 0 : Int), .int .u64 (word s 1 : Int), .int .u64 (word s 2 : Int), .int .u64 (word s 3 : Int), .int .i64 0, .int .i64 0] 47)) (.slice (some ⟨w.heap.size + 1, 0, none⟩) 1 1) (soleP s) by
      have := lit_el (w.alloc (.cells #[.int .u64 (word s 0 : Int), .int .u64 (word s 1 : Int), .int .u64 (word s 2 : Int), .int .u64 (word s 3 : Int)] 45)) ⟨false, s, 0, 0⟩
      rw [World.size_alloc] at this
      exact this)
    have HB1 := Lib.hid (show Below w.heap.size w ((w.alloc (.cells #[.int .u64 (word s 0 : Int), .int .u64 (word s 1 : Int), .int .u64 (word s 2 : Int), .int .u64 (word s 3 : Int)] 45)).alloc (.cells #[.bool false, .int .u64 (word s 0 : Int), .int .u64 (word s 1 : Int), .int .u64 (word s 2 : Int), .int .u64 (word s 3 : Int), .int .i64 0, .int .i64 0] 47)) from (((Below.refl _ _).alloc (Nat.le_refl _) _).alloc (by simp) _))
    have HS1 := Lib.hid (HS0.out.alloc (.cells #[.bool false, .int .u64 (word s 0 : Int), .int .u64 (word s 1 : Int), .int .u64 (word s 2 : Int), .int .u64 (word s 3 : Int), .int .i64 0, .int .i64 0] 47))
    clear HS0 HB0
    go_enter Try.func7, Try.ntmps7
    go_wp2_with fail
    have K := Lib.hid (lengths_p _ (soleP s) _ HP1.out)
    rw [sole_len] at K
    with_reducible refine K.out.mono ?_
    rintro e w1 ⟨rfl, hb1⟩
    have HB2 := Lib.hid (next HB1.out hb1)
    have HP2 := Lib.hid (Row.below HP1.out hb1)
    have HS2 := Lib.hid (HS1.out.below hb1 HS1.out.lt)
    clear hb1 K HB1 HP1 HS1 c0 c1 c2 c3
    go_wp2_with fail
    have K := Lib.hid (ends_p _ _ (soleP s) b w1 HP2.out (Row.below HBy.out HB2.out))
    rw [endV_ok (sole_ok s) (show b.length ≤ 4096 by omega), seekE_ok (sole_ok s) (show b.length ≤ 4096 by omega)] at K
    with_reducible refine K.out.mono ?_
    rintro e w2 ⟨v2, rfl, ho2, hb2⟩
    have hL : endsV (soleP s) b = endsTo b (soleP s) b.length := rfl
    rw [hL] at ho2
    clear hL
    obtain ⟨la, lc, rfl⟩ := Row.form2 (Row.of_owns ho2)
    have HL := Lib.hid (Row.of_owns ho2)
    have HB3 := Lib.hid (next HB2.out hb2)
    have HP3 := Lib.hid (Row.below HP2.out hb2)
    have HS3 := Lib.hid (HS2.out.below hb2 HS2.out.lt)
    have hlen : (endsTo b (soleP s) b.length).length ≤ 61 := Nat.le_trans endsTo_len (by omega)
    clear hb2 K HB2 HP2 HS2 ho2
    have HLen := Lib.hid (rfl : (endsTo b (soleP s) b.length).length = (endsTo b (soleP s) b.length).length)
    go_wp2_with fail
    go_loopw [11, 12] (fun kv iv wr => ∃ i : Nat, i ≤ b.length ∧ kv = .int .i64 ((endsTo b (soleP s) i).length : Nat) ∧ iv = .int .i64 (i : Nat) ∧ Below w2.heap.size w2 wr) (fun _ iv _ => b.length - (intOf iv).toNat)
    case atStart => exact ⟨0, by omega, by rw [endsTo_zero (sole_ok s)]; rfl, rfl, Below.refl _ _⟩
    case round =>
      obtain ⟨i, hi, rfl, rfl, hB⟩ := hrel
      have HW := Lib.hid hB
      have HWW := Lib.hid (next HB3.out hB)
      have HSr := Lib.hid (HS3.out.below hB HS3.out.lt)
      clear hB
      by_cases hlt : i < b.length
      · obtain ⟨c0, c1, c2, c3⟩ := HSr.out.cells
        obtain ⟨g, o, hga, hg, d0⟩ := Bytes.at (Row.below HBy.out HWW.out) hlt
        have HBr := Lib.hid (Row.below HBy.out HWW.out)
        obtain ⟨a5, c5, hcut, hby5⟩ := bytes_cut HBr.out hcap (show i ≤ i + 1 by omega) (by omega) (i : Int) ((i : Int) + 1) rfl (by omega)
        have hone : (b.take (i + 1)).drop i = [b[i]] := by
          rw [List.take_succ_eq_append_getElem hlt, List.drop_append_of_le_length (by rw [List.length_take]; omega), List.drop_of_length_le (by rw [List.length_take]; omega), List.nil_append]
        rw [hone, show i + 1 - i = 1 by omega] at hby5
        rw [show i + 1 - i = 1 by omega] at hcut
        have KM := Lib.hid (fun W (hW : Below wr.heap.size wr W) => matches_p _ _ (soleP s) [b[i]] W (Row.below HP3.out (HW.out.trans (hW.mono HW.out.size))) (Row.below hby5 hW))
        rw [sole_mat, seekE_ok (sole_ok s) (show [b[i]].length ≤ 4096 by simp)] at KM
        have kh := fun W => has_r s b[i].toNat b[i].toNat_lt W
        have i1 : (0 : Int) ≤ (i : Int) := by omega
        have i2 : (i : Int) < (b.length : Int) := by omega
        have wi1 : IntKind.i64.wrap ((i : Int) + 1) = (i : Int) + 1 := IntWalk.i64_in _ (by omega)
        have p0 := fun d os => cell_regrown c0 d os
        have p1 := fun d os => cell_regrown c1 d os
        have p2 := fun d os => cell_regrown c2 d os
        have p3 := fun d os => cell_regrown c3 d os
        have q0 := fun d os => cell_regrown d0 d os
        subst hga
        unfold setV setC at kh
        clear c0 c1 c2 c3 d0 hone hby5 hg
        cases hh : hasB s b[i].toNat
        · have HN := Lib.hid (sole_no hlt hh)
          rw [hh] at KM kh
          have KH := Lib.hid kh
          clear hh kh
          generalize b[i] = y at *
          go_wp2_with fail
          refine wp_region_quiet_below (by kernel_rfl) (by kernel_rfl) ?_
          repeat (go_big_quiet_step ((go_at_call 23; exact Calls.regrown_of (KH.out _))))
          refine wpQuiet_nil ?_
          intro _ hw'
          obtain ⟨⟨dq, osq⟩, hw''⟩ := hw'
          subst hw''
          have HW6 := Lib.hid (below_regrown wr dq osq)
          have K := Lib.hid (KM.out _ HW6.out)
          clear p0 p1 p2 p3 q0
          go_wp2_with fail
          with_reducible refine K.out.mono ?_
          rintro e w7 ⟨rfl, hb7⟩
          have HW7 := Lib.hid (HW.out.trans ((next HW6.out hb7).mono HW.out.size))
          clear hb7 K
          go_wp2_with fail
          exact ⟨⟨i + 1, by omega, by rw [HN.out], by go_num, HW7.out⟩, by simp [intOf]; omega⟩
        · obtain ⟨hk, hkv⟩ := sole_at hlt hh
          have HN := Lib.hid (sole_yes hlt hh)
          obtain ⟨g3, o3, hla, hg3, d3⟩ := Nats.at HL.out hk
          rw [hkv] at d3
          have D3 := Lib.hid d3
          subst hla
          rw [hh] at KM kh
          have KH := Lib.hid kh
          clear hh kh d3 hkv
          generalize b[i] = y at *
          have k1 : ¬ ((endsTo b (soleP s) b.length).length ≤ (endsTo b (soleP s) i).length) := by omega
          have k2 : (0 : Int) ≤ ((endsTo b (soleP s) i).length : Int) := by omega
          have k3 : ((endsTo b (soleP s) i).length : Int) < ((endsTo b (soleP s) b.length).length : Int) := by omega
          have k4 : (endsTo b (soleP s) i).length ≤ 61 := by omega
          have HN2 := Lib.hid (show (endsTo b (soleP s) (i + 1)).length = (endsTo b (soleP s) i).length + 1 by rw [HN.out]; simp)
          clear HN
          go_wp2_with fail
          refine wp_region_quiet_below (by kernel_rfl) (by kernel_rfl) ?_
          repeat (go_big_quiet_step ((go_at_call 23; exact Calls.regrown_of (KH.out _))))
          refine wpQuiet_nil ?_
          intro _ hw'
          obtain ⟨⟨dq, osq⟩, hw''⟩ := hw'
          subst hw''
          have HW6 := Lib.hid (below_regrown wr dq osq)
          have K := Lib.hid (KM.out _ HW6.out)
          clear p0 p1 p2 p3 q0
          go_wp2_with fail
          with_reducible refine K.out.mono ?_
          rintro e w7 ⟨rfl, hb7⟩
          have HW7 := Lib.hid (HW.out.trans ((next HW6.out hb7).mono HW.out.size))
          have d3 := (HW7.out.cell (p := ⟨g3, o3 + (endsTo b (soleP s) i).length, none⟩) hg3).trans D3.out
          clear hb7 K
          go_wp2_with fail
          exact ⟨⟨i + 1, by omega, by rw [HN2.out]; go_num, by go_num, HW7.out⟩, by simp [intOf]; omega⟩
      · obtain rfl : b.length = i := by omega
        have i1 : ¬ ((b.length : Int) < (b.length : Int)) := by omega
        go_wp2_with fail
        refine (shown_p _).mono ?_
        rintro e w9 ⟨rfl, hb9⟩
        have HB9 := Lib.hid (next HWW.out hb9)
        clear hb9
        go_wp2_with fail
        go_ret
        exact ⟨rfl, HB9.out⟩

set_option maxRecDepth 100000 in
theorem walk {H : Type} {enc : TypeId × Value → H} {d2 : DataW H} {p2 : List MemPlace} {base2 : Nat} (cs : Array Value) (u : Value) (w : World) (hz : cs.size = [43, 43, 43, 43].length)
    (hc : ∀ (i : Nat) (u : TypeId) (x : Value), [43, 43, 43, 43][i]? = some u → cs[i]? = some x → Cell.okWide Try.prog w .any w.heap.size u x)
    (hk2 : DataW.Trod enc Try.prog w 0 (fun _ => true) true 30 u d2 p2) (hv2 : Value.okWide Try.prog w .any base2 30 u) :
    Calls Try.prog 7 #[.agg cs, u] w fun e w' => e = .returned (.bool true) ∧ Below w.heap.size w w' := by
  obtain ⟨s, hs⟩ := set_of hz hc
  rw [hs]
  obtain ⟨m2, hm2⟩ := hk2
  obtain ⟨a2, len2, cap2, rfl⟩ := okWide_slice Try.underlying30 hv2
  obtain ⟨b, hb⟩ := bytes_of hm2
  exact walkN s _ b w hb (cap_of Try.underlying30 hm2)

theorem own : ownKnob Try.prog.godebug = none := by kernel_rfl
theorem laidOut : laidOutB Try.prog = true := by kernel_rfl

set_option maxRecDepth 100000 in
theorem lifted (os : Os) (started : os.Started) (H : Type) (enc : TypeId × Value → H) :
    ReturnsInHanded {} Try.checked os 7 .any (Rows.patternsSoleSpec.pre6 enc Try.prog Try.f7 Rows.patternsSoleRow.domain false) (Rows.patternsSoleSpec.post enc Try.prog Try.f7 false true false false) := by
  refine returnsInHanded_of_change (C := Try.checked) own started (by kernel_rfl) Try.func7
    (ChangeSpec.witness6 (enc := enc) (C := Try.checked) false ⟨#[], #[.agg #[.int .u64 0, .int .u64 0, .int .u64 0, .int .u64 0], .slice none 0 0], []⟩ 8 (by kernel_rfl) (by kernel_rfl) (by kernel_rfl) (by kernel_rfl)) ?_
  intro W base args ds gs before hval0 hW hcnd _
  have hval : ∀ (j : Nat) t v, Try.f7.params[j]? = some t → args[j]? = some v → Value.okWide Try.prog W .any base t v := hval0
  have hW' := hW
  obtain ⟨p, q, hA0, hV, rfl, hfz, hnd⟩ := hW
  have hA : DataW.TrodAll enc Try.prog W 0 (fun _ => true) true Try.f7.params.toList args.toList ds p := hA0
  rw [Try.params7] at hA hval
  obtain ⟨v0, vs0, d0, ds0, p0, q0, hargs, rfl, rfl, k0, r0⟩ := trodAll_cons hA
  obtain ⟨v1, vs1, d1, ds1, p1, q1, rfl, rfl, rfl, k1, r1⟩ := trodAll_cons r0
  obtain ⟨rfl, rfl, rfl⟩ := trodAll_nil r1
  obtain rfl : args = #[v0, v1] := by cases args; simp_all
  obtain ⟨rfl, rfl⟩ := trodVars_none hV
  have lt0 : ∀ x ∈ p0, x.block < W.heap.size := by obtain ⟨m, hm⟩ := k0; exact DataW.trod_lt m _ _ _ hm
  have lt1 : ∀ x ∈ p1, x.block < W.heap.size := by obtain ⟨m, hm⟩ := k1; exact DataW.trod_lt m _ _ _ hm
  obtain ⟨c0, rfl, z0, g0⟩ := arg_agg (ts := [43, 43, 43, 43]) (by kernel_rfl) (by kernel_rfl) (by kernel_rfl) (hval 0 45 v0 rfl rfl)
  clear hA0 hval0
  refine (walk c0 v1 W z0 g0 k1 (hval 1 30 v1 rfl rfl)).mono fun e W' ⟨he, bel⟩ => ?_
  subst he
  exact ⟨_, rfl, _, _, _, [], _, [], hW', trodAll_mk1 (shut_bool Try.underlying4 _), (trodAll_cons_mk (Below.trod laidOut (by kernel_rfl) (of_decide_eq_true (by kernel_rfl)) k0 bel lt0) (trodAll_cons_mk (Below.trod laidOut (by kernel_rfl) (of_decide_eq_true (by kernel_rfl)) k1 bel lt1) trodAll_mk0)), rfl, bel.frame _, fun h => by cases h⟩

theorem over : Rows.patternsSoleRow.holds Try.pinned (OpenSpec.ofChange Rows.patternsSoleSpec) :=
  OpenClaim.holds_of_wide 7 Try.f7 rfl rfl rfl rfl rfl rfl rfl ⟨rfl, rfl, rfl, rfl, rfl⟩ rfl rfl rfl rfl rfl (by kernel_rfl) Try.func7 (by kernel_rfl)
    (of_decide_eq_true (by kernel_rfl)) (by unfold Func.isWrapper; first | (rw [if_pos (by decide +kernel)]; kernel_rfl) | (rw [if_neg (by decide +kernel)]; exact ⟨rfl, rfl⟩))
    (fun os started H enc _ => lifted os started H enc)

theorem proved : Rows.PatternsSoleSaid := over
#print axioms proved
end Go.Proofs.Ytllkohjmghoipaa.patternsSole
