/- CostBound: the law returns true: a Feed makes at most as many steps as its bound, the bound is the constant times m (256 B W + Q R), and a constant; the arena has what config.Need says. No conditions. -/
import Derived.Test.YtdfofojlnkhjjaaArgs
import Derived.Test.YtdfofojlnkhjjaaCNeed
namespace Go.Proofs.Ytdfofojlnkhjjaa.costBound
open Go.ChangeShapes Go.WideShapes Go.ChangeAt Go.RowKit

theorem manyI_done {n b k : Int} (hb : 1 ≤ b) (h1 : n ≤ k * b) (h2 : k * b - b < n) (h : lenE n b = 0) : k = manyV n b := by
  rw [manyV_ok h]; exact many_done hb h1 h2

set_option maxRecDepth 100000 in
set_option maxHeartbeats 4000000 in
theorem walk_ok (b k l s r n : Int) (hz : slotOk b k l s r = true) (hL : lenE n b = 0) (w : World) :
    Calls Try.prog 4 #[cfgV b k l, shpV s r, .int .i64 n] w fun e w' => e = .returned (.bool true) ∧ Below w.heap.size w w' := by
  obtain ⟨b1, b2, bb, k1, k2, l1, l2, s1, s2, r1, r2, m1, m2⟩ := fine hz
  obtain ⟨_, n1, n2⟩ := lenE_zero hL
  have he : fdE b k l s r n = 0 := by unfold fdE; rw [if_pos hz]; exact hL
  have K1 := Lib.hid (fun w => feed_p b k l s r n w)
  have K2 := Lib.hid (fun w => bound_p b k l s r n w)
  have K3 := Lib.hid (fun w => slots_r b k l s r w)
  have K4 := Lib.hid (fun w => need_r b k l s r hz w)
  have HP := Lib.hid (Plain.start w b k l s r)
  have hle := fd_bound he
  have hfb := fdV_bd b k l s r n
  have hbv : bndV b k l s r n = 26 * manyV n b * (256 * (b * s) + (k + b * r) * (rnd (k + b * r) : Int)) + 202 := by unfold bndV; rw [if_pos he]
  rw [he] at K1 K2
  rw [show slotE b k l s r = 0 by unfold slotE; rw [if_pos hz], show slotV b k l s r = k + b * r by unfold slotV; rw [if_pos hz]] at K3
  have MD := Lib.hid (fun (i : Int) (h1 : n ≤ i * b) (h2 : i * b - b < n) => manyI_done b1 h1 h2 hL)
  obtain ⟨M1, M2⟩ := manyV_bd n b
  have hnd := need_bd hz
  generalize needV b k s r = nd at *
  generalize fdV b k l s r n = A at *
  have RD := Lib.hid (fun (i : Nat) (hi : i ≤ 9) (h1 : k + b * r ≤ pow2 i) (h2 : i = 0 ∨ pow2 (i - 1) < k + b * r) => rnd_done hi (show k + b * r ≤ 288 by omega) h1 h2)
  have R9 := rnd_bd (k + b * r)
  have hbs1 : 1 * 1 ≤ b * s := Int.mul_le_mul b1 s1 (by omega) (by omega)
  have hbs2 : b * s ≤ 16 * 4 := Int.mul_le_mul b2 s2 (by omega) (by omega)
  have q1 : 2 ≤ k + b * r := by omega
  have q2 : k + b * r ≤ 288 := by omega
  generalize hq : k + b * r = q at *
  generalize rnd q = R at *
  generalize manyV n b = M at *
  rw [hbv] at hle K2
  have hqr1 : 0 ≤ q * (R : Int) := Int.mul_nonneg (by omega) (by omega)
  have hqr2 : q * (R : Int) ≤ 288 * 9 := Int.mul_le_mul q2 (by omega) (by omega) (by omega)
  have e1 : 256 * b * s = 256 * (b * s) := Int.mul_assoc _ _ _
  have hX : 0 ≤ 256 * (b * s) + q * (R : Int) ∧ 256 * (b * s) + q * (R : Int) ≤ 20000 := by omega
  have hY1 : 0 ≤ 26 * M * (256 * (b * s) + q * (R : Int)) := Int.mul_nonneg (by omega) hX.1
  have hY2 : 26 * M * (256 * (b * s) + q * (R : Int)) ≤ 26000 * 20000 := Int.mul_le_mul (by omega) hX.2 hX.1 (by omega)
  clear hbv bb hz hq he hL
  obtain ⟨⟨d0, d1, d2⟩, ⟨d3, d4⟩, _⟩ := HP.out.cells
  unfold cfgV shpV at *
  go_enter Try.func4, Try.ntmps4
  go_wp2_with fail
  refine (K1.out _).mono ?_
  rintro e w1 ⟨rfl, hb⟩
  have P1 := Lib.hid (HP.out.keep hb rfl)
  clear d0 d1 d2 d3 d4 hb
  obtain ⟨⟨d0, d1, d2⟩, ⟨d3, d4⟩, _⟩ := P1.out.cells
  go_wp2_with fail
  refine (K2.out _).mono ?_
  rintro e w2 ⟨rfl, hb⟩
  have P2 := Lib.hid (P1.out.keep hb rfl)
  clear d0 d1 d2 d3 d4 hb
  obtain ⟨⟨d0, d1, d2⟩, ⟨d3, d4⟩, _⟩ := P2.out.cells
  go_wp2_with fail
  refine (K3.out _).mono ?_
  rintro e w3 ⟨rfl, hb⟩
  have P3 := Lib.hid (P2.out.keep hb rfl)
  clear d0 d1 d2 d3 d4 hb
  obtain ⟨⟨d0, d1, d2⟩, ⟨d3, d4⟩, _⟩ := P3.out.cells
  have t1 : ¬ n < 0 := by omega
  have t2 : ¬ 1000 < n := by omega
  have t3 : ¬ b < 1 := by omega
  go_wp2_with fail
  clear t1 t2 t3
  go_loop [13] (fun iv => ∃ i : Int, iv = .int .i64 i ∧ 0 ≤ i ∧ i ≤ 1000 ∧ 0 ≤ i * b ∧ i * b < n + b ∧ i * b - b < n) (fun iv => (n + b - (intOf iv) * b).toNat)
  case atStart => exact ⟨0, rfl, by omega, by omega, by omega, by omega, by omega⟩
  case round =>
    obtain ⟨i, rfl, i0, i1, i2, i3, i4⟩ := hrel
    have x1 : IntKind.i64.wrap (i * b) = i * b := IntWalk.i64_in _ (by omega)
    by_cases hlt : i * b < n
    · have hi9 : i < 1000 := by
        have : i * 1 ≤ i * b := Int.mul_le_mul_of_nonneg_left b1 i0
        omega
      go_wp2_with fail
      have e2 : (i + 1) * b = i * b + b := by rw [Int.add_mul, Int.one_mul]
      exact ⟨⟨i + 1, rfl, by omega, by omega, by omega, by omega, by omega⟩, by simp [intOf]; omega⟩
    · obtain rfl : i = M := MD.out i (by omega) i4
      go_wp2_with fail
      clear x1 i0 i1 i2 i3 i4 hlt
      go_loop [14, 15] (fun rv pv => ∃ j : Nat, j ≤ 9 ∧ rv = .int .i64 (j : Nat) ∧ pv = .int .i64 (pow2 j) ∧ (j = 0 ∨ pow2 (j - 1) < q)) (fun rv _ => 9 - (intOf rv).toNat)
      case atStart => exact ⟨0, by omega, rfl, rfl, .inl rfl⟩
      case round =>
        obtain ⟨j, hj, rfl, rfl, hjp⟩ := hrel
        have HJP := Lib.hid hjp
        obtain ⟨p1, p2⟩ := pow2_bd hj
        by_cases hlt : pow2 j < q
        · have h8 := pow2_less hj q2 hlt
          have HS := Lib.hid (pow2_succ j)
          clear hjp
          go_wp2_with fail
          exact ⟨⟨j + 1, by omega, by go_num, by rw [HS.out, Int.mul_comm], .inr (by simpa using hlt)⟩, by simp [intOf]; omega⟩
        · obtain rfl : j = R := (RD.out j hj (by omega) hjp).symm
          clear hjp
          have y1 : IntKind.i64.wrap (26 * i) = 26 * i := IntWalk.i64_in _ (by omega)
          have y2 : IntKind.i64.wrap (256 * b * s) = 256 * b * s := IntWalk.i64_in _ (by omega)
          have y3 : IntKind.i64.wrap (q * (j : Int)) = q * (j : Int) := IntWalk.i64_in _ (by omega)
          go_wp2_with fail
          refine (K4.out _).mono ?_
          rintro e w4 ⟨rfl, hb⟩
          have P4 := Lib.hid (P3.out.keep hb rfl)
          clear d0 d1 d2 d3 d4 hb
          obtain ⟨⟨d0, d1, d2⟩, ⟨d3, d4⟩, _⟩ := P4.out.cells
          have y4 : IntKind.i64.wrap (256 * b * s + q * (j : Int)) = 256 * (b * s) + q * (j : Int) := by rw [e1]; exact IntWalk.i64_in _ (by omega)
          have y5 : IntKind.i64.wrap (26 * i * (256 * (b * s) + q * (j : Int))) = 26 * i * (256 * (b * s) + q * (j : Int)) := IntWalk.i64_in _ (by omega)
          have y6 : IntKind.i64.wrap (26 * i * (256 * (b * s) + q * (j : Int)) + 202) = 26 * i * (256 * (b * s) + q * (j : Int)) + 202 := IntWalk.i64_in _ (by omega)
          go_wp2_with fail
          refine (awake_p _).mono ?_
          rintro e w5 ⟨rfl, hb⟩
          have P5 := Lib.hid (P4.out.keep hb rfl)
          clear hb
          go_wp2_with fail
          go_ret
          exact ⟨rfl, P5.out.bel⟩

theorem fd_err {b k l s r n : Int} (h : fdE b k l s r n ≠ 0) : fdV b k l s r n = 0 ∧ bndV b k l s r n = 0 := by
  unfold fdV bndV
  rw [if_neg h, if_neg h]
  exact ⟨rfl, rfl⟩

set_option maxRecDepth 100000 in
set_option maxHeartbeats 2000000 in
theorem walk_bad (b k l s r n : Int) (h : fdE b k l s r n ≠ 0) (w : World) :
    Calls Try.prog 4 #[cfgV b k l, shpV s r, .int .i64 n] w fun e w' => e = .returned (.bool true) ∧ Below w.heap.size w w' := by
  have K1 := Lib.hid (fun w => feed_p b k l s r n w)
  have K2 := Lib.hid (fun w => bound_p b k l s r n w)
  have K3 := Lib.hid (fun w => slots_r b k l s r w)
  have HP := Lib.hid (Plain.start w b k l s r)
  obtain ⟨h1, h2⟩ := fd_err h
  rw [h1] at K1
  rw [h2] at K2
  generalize fdE b k l s r n = E at *
  generalize slotE b k l s r = E2 at *
  generalize slotV b k l s r = V2 at *
  have he : (E != 0) = true := bne_iff_ne.2 h
  clear h h1 h2
  obtain ⟨⟨d0, d1, d2⟩, ⟨d3, d4⟩, _⟩ := HP.out.cells
  unfold cfgV shpV at *
  go_enter Try.func4, Try.ntmps4
  go_wp2_with fail
  refine (K1.out _).mono ?_
  rintro e w1 ⟨rfl, hb⟩
  have P1 := Lib.hid (HP.out.keep hb rfl)
  clear d0 d1 d2 d3 d4 hb
  obtain ⟨⟨d0, d1, d2⟩, ⟨d3, d4⟩, _⟩ := P1.out.cells
  go_wp2_with fail
  refine (K2.out _).mono ?_
  rintro e w2 ⟨rfl, hb⟩
  have P2 := Lib.hid (P1.out.keep hb rfl)
  clear d0 d1 d2 d3 d4 hb
  obtain ⟨⟨d0, d1, d2⟩, ⟨d3, d4⟩, _⟩ := P2.out.cells
  go_wp2_with fail
  refine (K3.out _).mono ?_
  rintro e w3 ⟨rfl, hb⟩
  have P3 := Lib.hid (P2.out.keep hb rfl)
  clear d0 d1 d2 d3 d4 hb
  go_wp2_with fail
  refine (awake_p _).mono ?_
  rintro e w5 ⟨rfl, hb⟩
  have P5 := Lib.hid (P3.out.keep hb rfl)
  clear hb
  go_wp2_with fail
  go_ret
  exact ⟨rfl, P5.out.bel⟩

theorem cells3 {cs : Array Value} (h : cs.size = 3) : ∃ a b c, cs = #[a, b, c] :=
  ⟨cs[0], cs[1], cs[2], by apply Array.ext <;> simp [h]; intro i h1 h2; match i, h2 with | 0, _ => rfl | 1, _ => rfl | 2, _ => rfl⟩
theorem cells2 {cs : Array Value} (h : cs.size = 2) : ∃ a b, cs = #[a, b] :=
  ⟨cs[0], cs[1], by apply Array.ext <;> simp [h]; intro i h1 h2; match i, h2 with | 0, _ => rfl | 1, _ => rfl⟩

set_option maxRecDepth 100000 in
theorem walk (cs ds : Array Value) (n : Int) (w : World) (hz : cs.size = [3, 3, 2].length)
    (hc : ∀ (i : Nat) (u : TypeId) (x : Value), [3, 3, 2][i]? = some u → cs[i]? = some x → Cell.okWide Try.prog w .any w.heap.size u x)
    (hy : ds.size = [3, 3].length)
    (hd : ∀ (i : Nat) (u : TypeId) (x : Value), [3, 3][i]? = some u → ds[i]? = some x → Cell.okWide Try.prog w .any w.heap.size u x) (_ : IntKind.i64.has n) :
    Calls Try.prog 4 #[.agg cs, .agg ds, .int .i64 n] w fun e w' => e = .returned (.bool true) ∧ Below w.heap.size w w' := by
  obtain ⟨x0, x1, x2, rfl⟩ := cells3 hz
  obtain ⟨y0, y1, rfl⟩ := cells2 hy
  obtain ⟨b, rfl, _⟩ := cell_int Try.underlying3 (hc 0 _ _ rfl rfl)
  obtain ⟨k, rfl, _⟩ := cell_int Try.underlying3 (hc 1 _ _ rfl rfl)
  obtain ⟨l, rfl, _⟩ := cell_int Try.underlying2 (hc 2 _ _ rfl rfl)
  obtain ⟨s, rfl, _⟩ := cell_int Try.underlying3 (hd 0 _ _ rfl rfl)
  obtain ⟨r, rfl, _⟩ := cell_int Try.underlying3 (hd 1 _ _ rfl rfl)
  by_cases h : fdE b k l s r n = 0
  · obtain ⟨h1, h2⟩ := fdE_zero h
    exact walk_ok b k l s r n h1 h2 w
  · exact walk_bad b k l s r n h w

theorem own : ownKnob Try.prog.godebug = none := by kernel_rfl
theorem laidOut : laidOutB Try.prog = true := by kernel_rfl

set_option maxRecDepth 100000 in
theorem lifted (os : Os) (started : os.Started) (H : Type) (enc : TypeId × Value → H) :
    ReturnsInHanded {} Try.checked os 4 .any (Rows.costBoundSpec.pre6 enc Try.prog Try.f4 Rows.costBoundRow.domain false) (Rows.costBoundSpec.post enc Try.prog Try.f4 false true false false) := by
  refine returnsInHanded_of_change (C := Try.checked) own started (by kernel_rfl) Try.func4
    (ChangeSpec.witness6 (enc := enc) (C := Try.checked) false ⟨#[], #[.agg #[.int .i64 0, .int .i64 0, .int .i64 0], .agg #[.int .i64 0, .int .i64 0], .int .i64 0], []⟩ 8 (by kernel_rfl) (by kernel_rfl) (by kernel_rfl) (by kernel_rfl)) ?_
  intro W base args ds gs before hval0 hW hcnd _
  have hval : ∀ (j : Nat) t v, Try.f4.params[j]? = some t → args[j]? = some v → Value.okWide Try.prog W .any base t v := hval0
  have hW' := hW
  obtain ⟨p, q, hA0, hV, rfl, hfz, hnd⟩ := hW
  have hA : DataW.TrodAll enc Try.prog W 0 (fun _ => true) true Try.f4.params.toList args.toList ds p := hA0
  rw [Try.params4] at hA hval
  obtain ⟨v0, vs0, d0, ds0, p0, q0, hargs, rfl, rfl, k0, r0⟩ := trodAll_cons hA
  obtain ⟨v1, vs1, d1, ds1, p1, q1, rfl, rfl, rfl, k1, r1⟩ := trodAll_cons r0
  obtain ⟨v2, vs2, d2, ds2, p2, q2, rfl, rfl, rfl, k2, r2⟩ := trodAll_cons r1
  obtain ⟨rfl, rfl, rfl⟩ := trodAll_nil r2
  obtain rfl : args = #[v0, v1, v2] := by cases args; simp_all
  obtain ⟨rfl, rfl⟩ := trodVars_none hV
  have lt0 : ∀ x ∈ p0, x.block < W.heap.size := by obtain ⟨m, hm⟩ := k0; exact DataW.trod_lt m _ _ _ hm
  have lt1 : ∀ x ∈ p1, x.block < W.heap.size := by obtain ⟨m, hm⟩ := k1; exact DataW.trod_lt m _ _ _ hm
  have lt2 : ∀ x ∈ p2, x.block < W.heap.size := by obtain ⟨m, hm⟩ := k2; exact DataW.trod_lt m _ _ _ hm
  obtain ⟨c0, rfl, z0, g0⟩ := arg_agg (ts := [3, 3, 2]) (by kernel_rfl) (by kernel_rfl) (by kernel_rfl) (hval 0 23 v0 rfl rfl)
  obtain ⟨c1, rfl, z1, g1⟩ := arg_agg (ts := [3, 3]) (by kernel_rfl) (by kernel_rfl) (by kernel_rfl) (hval 1 25 v1 rfl rfl)
  obtain ⟨a2, rfl, w2⟩ := arg_int Try.underlying3 (hval 2 3 v2 rfl rfl)
  clear hA0 hval0
  refine (walk c0 c1 a2 W z0 g0 z1 g1 w2).mono fun e W' ⟨he, bel⟩ => ?_
  subst he
  exact ⟨_, rfl, _, _, _, [], _, [], hW', trodAll_mk1 (shut_bool Try.underlying4 _), (trodAll_cons_mk (Below.trod laidOut (by kernel_rfl) (of_decide_eq_true (by kernel_rfl)) k0 bel lt0) (trodAll_cons_mk (Below.trod laidOut (by kernel_rfl) (of_decide_eq_true (by kernel_rfl)) k1 bel lt1) (trodAll_cons_mk (Below.trod laidOut (by kernel_rfl) (of_decide_eq_true (by kernel_rfl)) k2 bel lt2) trodAll_mk0))), rfl, bel.frame _, fun h => by cases h⟩

theorem over : Rows.costBoundRow.holds Try.pinned (OpenSpec.ofChange Rows.costBoundSpec) :=
  OpenClaim.holds_of_wide 4 Try.f4 rfl rfl rfl rfl rfl rfl rfl ⟨rfl, rfl, rfl, rfl, rfl⟩ rfl rfl rfl rfl rfl (by kernel_rfl) Try.func4 (by kernel_rfl)
    (of_decide_eq_true (by kernel_rfl)) (by unfold Func.isWrapper; first | (rw [if_pos (by decide +kernel)]; kernel_rfl) | (rw [if_neg (by decide +kernel)]; exact ⟨rfl, rfl⟩))
    (fun os started H enc _ => lifted os started H enc)

theorem proved : Rows.CostBoundSaid := over
#print axioms proved
end Go.Proofs.Ytdfofojlnkhjjaa.costBound
