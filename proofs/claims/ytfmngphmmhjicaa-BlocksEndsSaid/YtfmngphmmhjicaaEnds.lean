/- BlocksEnds: for every chunk, size and number of bytes before it the law returns true and its arguments read as they did. No conditions. -/
import Derived.Test.YtfmngphmmhjicaaArgs
import Derived.Test.YtfmngphmmhjicaaBlkAwake
import Derived.Test.YtfmngphmmhjicaaBlkSplitR
import Derived.Test.YtfmngphmmhjicaaBlkEnd
import Derived.BigQuiet
namespace Go.Proofs.Ytfmngphmmhjicaa.blocksEnds
open Go.ChangeShapes Go.WideShapes Go.ChangeAt Go.RowKit

theorem ends_many {cs : List UInt8} {b : Nat} (h1 : lenE cs.length b = 0) : manyV cs.length b = (((cs.length + b - 1) / b : Nat) : Int) := by
  obtain ⟨hok, _, _⟩ := lenE_zero h1
  have hb : 1 ≤ b := by rcases okB_cases hok with h | h | h | h | h <;> omega
  rw [manyV_ok h1, Int.natCast_ediv]
  congr 1
  omega
theorem ends_pad {cs : List UInt8} {b : Nat} (h1 : lenE cs.length b = 0) : 0 ≤ padV cs.length b ∧ padV cs.length b < b ∧ (((cs.length + b - 1) / b : Nat) : Int) * b = cs.length + padV cs.length b := by
  obtain ⟨hok, _, _⟩ := lenE_zero h1
  have hb : (b : Int) ≠ 0 ∧ 0 < (b : Int) := by rcases okB_cases hok with h | h | h | h | h <;> omega
  rw [padV_ok h1]
  refine ⟨Int.emod_nonneg _ hb.1, Int.emod_lt_of_pos _ hb.2, ?_⟩
  rw [Int.natCast_ediv]
  rcases okB_cases hok with h | h | h | h | h <;> rw [h] <;> omega

theorem item_len (cs : List UInt8) (b k : Nat) : (item cs b k).1.length = b := by simp [item, length_padTo]
theorem item_byte {cs : List UInt8} {b k i : Nat} (hi : i < b) (h : k * b + i < cs.length) {g1 : i < (str (item cs b k).1).size} {g2 : k * b + i < (str cs).size} : (str (item cs b k).1)[i] = (str cs)[k * b + i] := by
  rw [getD_str (by rw [item_len]; exact hi), getD_str h]
  simp only [item, padTo, List.getD_eq_getElem?_getD]
  rw [List.getElem?_append_left (by simp; omega), List.getElem?_take_of_lt hi, List.getElem?_drop]

theorem parts_at {cs : List UInt8} {b k : Nat} {before : Int} (hs : splitE cs.length b before = 0) (hb : 1 ≤ b) (hk : k < (parts cs b before).length) :
    (parts cs b before)[k] = ((item cs b k).1, ((item cs b k).2 : Int), before + (k * b : Nat)) := by
  have e : parts cs b before = upTo cs b before ((cs.length + b - 1) / b) := by simp only [parts, hs, if_true, Int.toNat_natCast]; exact parts_upTo hb
  simp only [e, upTo, List.getElem_map, List.getElem_range]
theorem parts_len {cs : List UInt8} {b : Nat} {before : Int} (hs : splitE cs.length b before = 0) (hb : 1 ≤ b) : (parts cs b before).length = (cs.length + b - 1) / b := by
  have e : parts cs b before = upTo cs b before ((cs.length + b - 1) / b) := by simp only [parts, hs, if_true, Int.toNat_natCast]; exact parts_upTo hb
  simp [e, upTo]

set_option maxRecDepth 100000 in
set_option maxHeartbeats 2000000 in
theorem ends_ok (cs : List UInt8) (b n : Int) (w : World) (hm : cs.length ≤ maxLen) (hl : ¬ 1100 < cs.length) (hs : splitE cs.length b n = 0) :
    Calls Try.prog 5 #[.string (str cs), .int .i64 b, .int .i64 n] w fun e w' => e = .returned (.bool true) ∧ Below w.heap.size w w' := by
  have hss := size_str cs
  obtain ⟨h1, h2, h3⟩ := splitE_zero hs
  obtain ⟨hok, h5, h6⟩ := lenE_zero h1
  obtain ⟨b', hb', hb1, hb2⟩ : ∃ b' : Nat, b = b' ∧ 1 ≤ b' ∧ b' ≤ 16 := by rcases okB_cases hok with h | h | h | h | h <;> exact ⟨b.toNat, by omega, by omega, by omega⟩
  subst hb'
  obtain ⟨p1, p2, p3⟩ := ends_pad h1
  obtain ⟨M, hM⟩ : ∃ M : Nat, M = (cs.length + b' - 1) / b' := ⟨_, rfl⟩
  have p4 : manyV cs.length b' = (M : Int) := by rw [hM]; exact ends_many h1
  rw [← hM] at p3
  have HM := Lib.hid hM
  have hml : (parts cs b' n).length = M := by rw [hM]; exact parts_len hs hb1
  have hM1 : M ≤ 1100 := by
    rw [hM]
    have := Nat.div_le_self (cs.length + b' - 1) b'
    have : (cs.length + b' - 1) / b' ≤ cs.length := by
      rw [Nat.div_le_iff_le_mul (by omega)]
      have := Nat.mul_le_mul_left cs.length hb1
      omega
    omega
  have cm := fun w => many_p cs.length b' w
  have cp := fun w => padding_p cs.length b' w
  rw [h1, p4] at cm
  rw [h1] at cp
  generalize padV cs.length b' = P at *
  have HX := Lib.hid hm
  clear hm hok h5 p4 hM
  go_enter Try.func5, Try.ntmps5
  go_wp2_with fail
  refine (split_p cs b' n _ HX.out).mono ?_
  rintro e w1 ⟨v1, rfl, hown1, hb1'⟩
  rw [hs]
  have HB1 := Lib.hid hb1'
  have HO1 := Lib.hid hown1
  obtain ⟨_, _, a1, c1, rfl, _, hca⟩ := Row.of_owns hown1
  rw [hml] at hca ⊢
  clear hown1 hb1'
  go_wp2_with fail
  refine (cm _).mono ?_
  rintro e w2 ⟨rfl, rfl⟩
  go_wp2_with fail
  refine (cp _).mono ?_
  rintro e w2 ⟨rfl, rfl⟩
  have hw1 : IntKind.i64.wrap ((M : Int) * (b' : Int)) = cs.length + P := by rw [p3]; exact IntWalk.i64_in _ (by omega)
  have hw2 : IntKind.i64.wrap ((cs.length : Int) + P) = cs.length + P := IntWalk.i64_in _ (by omega)
  have hw3 : (P < 0) = False := by simp; omega
  go_wp2_with fail
  go_loopw [12, 13] (fun at' kv wr => ∃ k : Nat, k ≤ M ∧ at' = .int .i64 (min (k * b') cs.length : Nat) ∧ kv = .int .i64 (k : Nat) ∧ Below w1.heap.size w1 wr) (fun _ kv _ => M - (intOf kv).toNat)
  case atStart => exact ⟨0, by omega, by simp, rfl, Below.refl _ _⟩
  case round =>
    obtain ⟨k, hk, rfl, rfl, hB⟩ := hrel
    obtain ⟨F, hF⟩ : ∃ F, F = k * b' := ⟨_, rfl⟩
    have HF := Lib.hid hF
    by_cases hlt : k < M
    · have hFl : F < cs.length := by
        have e := Nat.mul_le_mul_right b' (show k + 1 ≤ M by omega)
        rw [Nat.succ_mul, ← hF] at e
        have e2 : ((M * b' : Nat) : Int) = cs.length + P := by rw [← p3]; norm_cast
        omega
      rw [← hF, Nat.min_eq_left (by omega)]
      clear hF
      rcases hca with h0 | ⟨g, o, rfl, hca⟩
      · omega
      obtain ⟨q1, q2, q3⟩ := pcells_at (parts cs b' n) k (by rw [hml]; exact hlt)
      rw [parts_at hs hb1, ← HF.out] at q1 q2 q3
      have rd : ∀ {j : Nat} {v : Value}, w1.cell? ⟨g, o + j, none⟩ = some v → wr.cell? ⟨g, o + j, none⟩ = some v := fun h => (hB.cell (World.block_lt_of_cell? w1 _ h)).trans h
      have lg := World.block_lt_of_cell? w1 _ ((hca (k * 3) (by omega)).trans q1)
      have d1 := rd ((hca (k * 3) (by omega)).trans q1)
      have d2 := rd ((hca (k * 3 + 1) (by omega)).trans q2)
      have d3 := rd ((hca (k * 3 + 2) (by omega)).trans q3)
      simp only [← Nat.add_assoc] at d1 d2 d3
      have hil : (item cs b' k).1.length = b' := item_len cs b' k
      have hi2 : (item cs b' k).2 = min b' (cs.length - F) := by rw [HF.out]; rfl
      have hby : ∀ i, i < b' → F + i < cs.length → ∀ (g1 : i < (str (item cs b' k).1).size) (g2 : F + i < (str cs).size), (str (item cs b' k).1)[i] = (str cs)[F + i] := by
        intro i hi h g1 g2
        have hh := HF.out
        subst hh
        exact item_byte hi h
      have hss2 := size_str (item cs b' k).1
      generalize (item cs b' k).1 = bs at *
      generalize (item cs b' k).2 = real at *
      have BY := Lib.hid hby
      have HI2 := Lib.hid hi2
      have hr1 : real ≤ b' := by omega
      have i0 : (0 : Int) ≤ (k : Int) := by omega
      have i1 : (k : Int) < (M : Int) := by omega
      clear q1 q2 q3 rd hca hby hi2
      obtain ⟨wo, rfl⟩ : ∃ wo : World, wo = wr := ⟨_, rfl⟩
      go_wp2_with fail
      go_loopw [12, 14] (fun at' iv w2 => ∃ i : Nat, i ≤ b' ∧ at' = .int .i64 (min (F + i) cs.length : Nat) ∧ iv = .int .i64 (i : Nat) ∧ Below wo.heap.size wo w2) (fun _ iv _ => b' - (intOf iv).toNat)
      case atStart => exact ⟨0, by omega, by simp; omega, rfl, Below.refl _ _⟩
      case round =>
        obtain ⟨i, hi, rfl, rfl, hB2⟩ := hrel
        have lw : g < wo.heap.size := by have := hB.size; omega
        have d1' := (hB2.cell (p := ⟨g, o + k * 3, none⟩) lw).trans d1
        have d2' := (hB2.cell (p := ⟨g, o + k * 3 + 1, none⟩) lw).trans d2
        have d3' := (hB2.cell (p := ⟨g, o + k * 3 + 2, none⟩) lw).trans d3
        clear d1 d2 d3
        by_cases hib : i < b'
        · have ce := fun w => end_p (bs, (real : Int), n + (F : Nat)) (i : Int) w (by simp; omega)
          simp only at ce
          by_cases hin : F + i < cs.length
          · rw [Nat.min_eq_left (by omega)]
            have hi2 := HI2.out
            obtain ⟨e1, e2⟩ := end_ok (p := (bs, (real : Int), n + (F : Nat))) (i := i) (by simp; omega) (by simp; omega)
            rw [e1, e2] at ce
            clear e1 e2
            simp only at ce
            have ha1 : IntKind.i64.wrap (n + ((F : Int) + (i : Int))) = n + ((F : Int) + (i : Int)) := IntWalk.i64_in _ (by omega)
            have ha2 : IntKind.i64.wrap (n + ((F : Int) + (i : Int)) + 1) = n + ((F : Int) + (i : Int)) + 1 := IntWalk.i64_in _ (by omega)
            have ha3 : n + (F : Nat) + (i : Int) + 1 = n + ((F : Int) + (i : Int)) + 1 := by omega
            rw [ha3] at ce
            clear ha3
            have r1 : ((i : Int) ≥ (real : Int)) = False := by simp; omega
            clear hi2
            go_wp2_with fail
            refine (ce _).mono ?_
            rintro e w3 ⟨rfl, hb3⟩
            have HB3 := Lib.hid hb3
            have d1 := (hb3.cell (p := ⟨g, o + k * 3, none⟩) (Nat.lt_of_lt_of_le lw hB2.size)).trans d1'
            have d2 := (hb3.cell (p := ⟨g, o + k * 3 + 1, none⟩) (Nat.lt_of_lt_of_le lw hB2.size)).trans d2'
            clear hb3
            go_wp2_with fail
            have hb9 := BY.out i hib hin (by omega) (by omega)
            have i3 : (0 : Int) ≤ (i : Int) := by omega
            have i4 : (i : Int) < ((str bs).size : Int) := by omega
            have i5 : (F : Int) + (i : Int) < ((str cs).size : Int) := by omega
            have i6 : (0 : Int) ≤ (F : Int) + (i : Int) := by omega
            have i7 : ((F : Int) + (i : Int)).toNat = F + i := by omega
            have i8 : (F : Int) + (i : Int) < (cs.length : Int) := by omega
            have i9 : F + i < cs.length := hin
            have cb : decide ((cs.length : Int) ≤ (F : Int) + (i : Int)) = false := by simp; omega
            have cb' : decide ((F : Int) + (i : Int) ≥ (cs.length : Int)) = false := by simp; omega
            go_quiet (fail)
            go_wp2_with fail
            refine ⟨⟨i + 1, by omega, by rw [Nat.min_eq_left (by omega)]; go_num, by go_num, ?_⟩, by simp [intOf]; omega⟩
            exact (next hB2 (HB3.out.trans ⟨rfl, rfl, rfl, Nat.le_refl _, fun _ _ => rfl⟩))
          · have hi2 := HI2.out
            obtain ⟨e1, e2⟩ := end_none (p := (bs, (real : Int), n + (F : Nat))) (i := i) (by simp; omega) (by simp; omega)
            rw [e1, e2] at ce
            clear e1 e2
            have r1 : ((i : Int) ≥ (real : Int)) = True := by simp; omega
            have r2 : (real : Int) ≤ (i : Int) := by omega
            clear hi2
            go_wp2_with fail
            refine (ce _).mono ?_
            rintro e w3 ⟨rfl, hb3⟩
            have HB3 := Lib.hid hb3
            have d1 := (hb3.cell (p := ⟨g, o + k * 3, none⟩) (Nat.lt_of_lt_of_le lw hB2.size)).trans d1'
            have d2 := (hb3.cell (p := ⟨g, o + k * 3 + 1, none⟩) (Nat.lt_of_lt_of_le lw hB2.size)).trans d2'
            clear hb3
            go_wp2_with fail
            refine ⟨⟨i + 1, by omega, by rw [Nat.min_eq_right (by omega), Nat.min_eq_right (by omega)], by go_num, ?_⟩, by simp [intOf]; omega⟩
            exact next hB2 HB3.out
        · obtain rfl : b' = i := by omega
          have hkk : (k + 1) * b' = F + b' := by rw [Nat.add_mul, ← HF.out]; omega
          clear d2' d3'
          go_wp2_with fail
          refine ⟨⟨k + 1, by omega, by rw [hkk], by go_num, ?_⟩, by simp [intOf]; omega⟩
          exact next hB hB2
    · obtain rfl : M = k := by omega
      have hend : min (M * b') cs.length = cs.length := by
        have e2 : ((M * b' : Nat) : Int) = cs.length + P := by rw [← p3]; norm_cast
        omega
      rw [hend]
      clear hend
      go_wp2_with fail
      refine (awake_p _).mono ?_
      rintro e w3 ⟨rfl, hb3⟩
      have HB3 := Lib.hid hb3
      clear hb3
      go_wp2_with fail
      go_ret
      exact ⟨rfl, next (next HB1.out hB) HB3.out⟩

set_option maxRecDepth 100000 in
set_option maxHeartbeats 2000000 in
theorem walk (s : ByteArray) (b n : Int) (w : World) (hm : s.size ≤ maxLen) (_ : IntKind.i64.has b) (_ : IntKind.i64.has n) :
    Calls Try.prog 5 #[.string s, .int .i64 b, .int .i64 n] w fun e w' => e = .returned (.bool true) ∧ Below w.heap.size w w' := by
  obtain ⟨cs, rfl⟩ : ∃ l, s = str l := ⟨s.data.toList, (str_data s).symm⟩
  rw [size_str] at hm
  have hss := size_str cs
  by_cases hl : 1100 < cs.length
  · unfold maxLen at hm
    go_enter Try.func5, Try.ntmps5
    go_wp2_with fail
    refine (awake_p _).mono ?_
    rintro e w1 ⟨rfl, hb⟩
    have HB := Lib.hid hb
    clear hb
    go_wp2_with fail
    go_ret
    exact ⟨rfl, HB.out⟩
  · have HM := Lib.hid hm
    clear hm
    by_cases hs : splitE cs.length b n = 0
    · exact ends_ok cs b n w HM.out hl hs
    · go_enter Try.func5, Try.ntmps5
      go_wp2_with fail
      refine (split_p cs b n _ HM.out).mono ?_
      rintro e w1 ⟨v1, rfl, hown1, hb1⟩
      have e1 : parts cs b n = [] := by simp [parts, hs]
      rw [e1] at hown1
      obtain ⟨a1, c1, rfl⟩ : ∃ a1 c1, v1 = .slice a1 0 c1 := by
        obtain ⟨_, _, a1, c1, e, _⟩ := Row.of_owns hown1
        exact ⟨a1, c1, e⟩
      have HB1 := Lib.hid hb1
      clear hown1 hb1 e1
      generalize splitE cs.length b n = er at hs ⊢
      have he : (er != 0) = true := bne_iff_ne.2 hs
      clear hs
      go_wp2_with fail
      refine (awake_p _).mono ?_
      rintro e w2 ⟨rfl, hb2⟩
      have HB2 := Lib.hid hb2
      clear hb2
      go_wp2_with fail
      go_ret
      exact ⟨rfl, next HB1.out HB2.out⟩

theorem own : ownKnob Try.prog.godebug = none := by kernel_rfl
theorem laidOut : laidOutB Try.prog = true := by kernel_rfl

set_option maxRecDepth 100000 in
theorem lifted (os : Os) (started : os.Started) (H : Type) (enc : TypeId × Value → H) :
    ReturnsInHanded {} Try.checked os 5 .any (Rows.blocksEndsSpec.pre6 enc Try.prog Try.f5 Rows.blocksEndsRow.domain false) (Rows.blocksEndsSpec.post enc Try.prog Try.f5 false true false false) := by
  refine returnsInHanded_of_change (C := Try.checked) own started (by kernel_rfl) Try.func5
    (ChangeSpec.witness6 (enc := enc) (C := Try.checked) false ⟨#[], #[.string .empty, .int .i64 0, .int .i64 0], []⟩ 8 (by kernel_rfl) (by kernel_rfl) (by kernel_rfl) (by kernel_rfl)) ?_
  intro W base args ds gs before hval0 hW hcnd _
  have hval : ∀ (j : Nat) t v, Try.f5.params[j]? = some t → args[j]? = some v → Value.okWide Try.prog W .any base t v := hval0
  have hW' := hW
  obtain ⟨p, q, hA0, hV, rfl, hfz, hnd⟩ := hW
  have hA : DataW.TrodAll enc Try.prog W 0 (fun _ => true) true Try.f5.params.toList args.toList ds p := hA0
  rw [Try.params5] at hA hval
  obtain ⟨v0, vs0, d0, ds0, p0, q0, hargs, rfl, rfl, k0, r0⟩ := trodAll_cons hA
  obtain ⟨v1, vs1, d1, ds1, p1, q1, rfl, rfl, rfl, k1, r1⟩ := trodAll_cons r0
  obtain ⟨v2, vs2, d2, ds2, p2, q2, rfl, rfl, rfl, k2, r2⟩ := trodAll_cons r1
  obtain ⟨rfl, rfl, rfl⟩ := trodAll_nil r2
  obtain rfl : args = #[v0, v1, v2] := by cases args; simp_all
  obtain ⟨rfl, rfl⟩ := trodVars_none hV
  have lt0 : ∀ x ∈ p0, x.block < W.heap.size := by obtain ⟨m, hm⟩ := k0; exact DataW.trod_lt m _ _ _ hm
  have lt1 : ∀ x ∈ p1, x.block < W.heap.size := by obtain ⟨m, hm⟩ := k1; exact DataW.trod_lt m _ _ _ hm
  have lt2 : ∀ x ∈ p2, x.block < W.heap.size := by obtain ⟨m, hm⟩ := k2; exact DataW.trod_lt m _ _ _ hm
  obtain ⟨s0, rfl, m0⟩ := arg_string Try.underlying9 (hval 0 9 v0 rfl rfl)
  obtain ⟨a1, rfl, w1⟩ := arg_int Try.underlying3 (hval 1 3 v1 rfl rfl)
  obtain ⟨a2, rfl, w2⟩ := arg_int Try.underlying2 (hval 2 2 v2 rfl rfl)
  clear hA0 hval0
  refine (walk s0 a1 a2 W m0 w1 w2).mono fun e W' ⟨he, bel⟩ => ?_
  subst he
  exact ⟨_, rfl, _, _, _, [], _, [], hW', trodAll_mk1 (shut_bool Try.underlying4 _), (trodAll_cons_mk (Below.trod laidOut (by kernel_rfl) (of_decide_eq_true (by kernel_rfl)) k0 bel lt0) (trodAll_cons_mk (Below.trod laidOut (by kernel_rfl) (of_decide_eq_true (by kernel_rfl)) k1 bel lt1) (trodAll_cons_mk (Below.trod laidOut (by kernel_rfl) (of_decide_eq_true (by kernel_rfl)) k2 bel lt2) trodAll_mk0))), rfl, bel.frame _, fun h => by cases h⟩

theorem over : Rows.blocksEndsRow.holds Try.pinned (OpenSpec.ofChange Rows.blocksEndsSpec) :=
  OpenClaim.holds_of_wide 5 Try.f5 rfl rfl rfl rfl rfl rfl rfl ⟨rfl, rfl, rfl, rfl, rfl⟩ rfl rfl rfl rfl rfl (by kernel_rfl) Try.func5 (by kernel_rfl)
    (of_decide_eq_true (by kernel_rfl)) (by unfold Func.isWrapper; first | (rw [if_pos (by decide +kernel)]; kernel_rfl) | (rw [if_neg (by decide +kernel)]; exact ⟨rfl, rfl⟩))
    (fun os started H enc _ => lifted os started H enc)

theorem proved : Rows.BlocksEndsSaid := over
#print axioms proved

end Go.Proofs.Ytfmngphmmhjicaa.blocksEnds
