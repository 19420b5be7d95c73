/- dragnetref27.Join, dragnetref27.End, dragnetlaw27.far. -/
import Derived.Test.YtfmngphmmhjicaaDoorDJoin
import Derived.Test.YtfmngphmmhjicaaDoorDWrongR
import Derived.Test.YtfmngphmmhjicaaDoorDEnd
namespace Go.Proofs.YtfmngphmmhjicaaDoor
open Go.RowKit Go.Sort

set_option maxRecDepth 100000 in
set_option maxHeartbeats 4000000 in
theorem join_r (v : Value) (L : List Part) (b : Int) (w : World) (hv : Parts w v L) (hn : L.length ≤ 1000) (hl : ∀ p ∈ L, okPart p) :
    Calls Tryd.prog 10 #[v, .int .i64 b] w (JoinP (joinV L b) w) := by
  obtain ⟨a, cap, rfl⟩ := Row.form2 hv
  have KC := Lib.hid (fun w => check_r b w)
  by_cases hb : okB b = true
  case neg =>
    have hb' : okB b = false := by simpa using hb
    rw [join_no hb']
    have e7 : chk b = 7 := by unfold chk; rw [hb']; rfl
    rw [e7] at KC
    clear e7 hb hb'
    go_enter Tryd.func10, Tryd.ntmps10
    go_wp2_with fail
    refine (KC.out _).mono ?_
    rintro e w1 ⟨rfl, rfl⟩
    go_wp2_with fail
    go_ret3
    exact show JoinP _ _ _ _ from ⟨rfl, Below.refl _ _⟩
  case pos =>
    have e0 : chk b = 0 := by unfold chk; rw [hb]; rfl
    rw [e0] at KC
    clear e0
    obtain ⟨b1, b16⟩ := okB_range hb
    obtain ⟨V, hV⟩ : ∃ V, V = joinV L b := ⟨_, rfl⟩
    rw [← hV]
    have HV0 := Lib.hid hV
    clear hV
    have HOK := Lib.hid hb
    have HV := Lib.hid hv
    have HL := Lib.hid hl
    clear hb hv hl
    go_enter Tryd.func10, Tryd.ntmps10
    go_wp2_with fail
    refine (KC.out _).mono ?_
    rintro e w1 ⟨rfl, rfl⟩
    go_wp2_with fail
    go_loopw [8, 9] (fun sv iv wr => ∃ k : Nat, k ≤ L.length ∧ sv = .string (str (catL (L.take k))) ∧ iv = .int .i64 (k : Nat) ∧ (∀ j, j < k → wrongL L b j = 0) ∧ (catL (L.take k)).length ≤ 16 * k ∧ Below w.heap.size w wr) (fun _ iv _ => L.length - (intOf iv).toNat)
    case atStart => exact ⟨0, by omega, rfl, rfl, fun j h => by omega, by simp [catL], Below.refl _ _⟩
    case round =>
      obtain ⟨k, hk, rfl, rfl, hall, hcl, hB⟩ := hrel
      have HALL := Lib.hid hall
      have HB := Lib.hid hB
      have HVr := Lib.hid (Row.below HV.out hB)
      clear hall hB
      by_cases hlt : k < L.length
      · obtain ⟨g, o, hga, hg, hc0, hc1, hc2⟩ := Parts.at HVr.out hlt
        subst hga
        have i1 : (0 : Int) ≤ (k : Int) := by omega
        have i2 : (k : Int) < (L.length : Int) := by omega
        have hwo := fun h => wrong_ok (b := b) hlt h
        have hct := catL_take hlt
        obtain ⟨bs, r, f, hx⟩ : ∃ bs r f, L[k] = (bs, r, f) := ⟨_, _, _, rfl⟩
        rw [hx] at hwo hct hc0 hc1 hc2
        simp only at hwo hct hc0 hc1 hc2
        have HWO := Lib.hid hwo
        have HCT := Lib.hid hct
        have hst := size_str bs
        clear hx hwo hct hc2
        have hsc := size_str (catL (L.take k))
        generalize catL (L.take k) = C at *
        go_wp2_with fail
        refine (wrong_r _ L k b _ HVr.out hlt hn HL.out ⟨b1, b16⟩).mono ?_
        rintro e w2 ⟨rfl, hb2⟩
        have HB2 := Lib.hid (next HB.out hb2)
        have d0 := (hb2.cell (p := ⟨g, o + k * 3, none⟩) hg).trans hc0
        have d1 := (hb2.cell (p := ⟨g, o + k * 3 + 1, none⟩) hg).trans hc1
        clear hb2 hc0 hc1
        by_cases hE : wrongL L b k = 0
        · obtain ⟨q1, q2, q3, _⟩ := HWO.out hE
          have HE := Lib.hid hE
          obtain ⟨rn, rfl⟩ : ∃ rn : Nat, r = rn := ⟨r.toNat, by omega⟩
          have hex := extract_str bs 0 rn
          rw [List.drop_zero] at hex
          have z0 : (0 : Int) ≤ (rn : Int) := by omega
          have z1 : (rn : Int) ≤ (bs.length : Int) := by omega
          have hct := HCT.out
          rw [Int.toNat_natCast] at hct
          have HCT2 := Lib.hid hct
          have hlr : (bs.take rn).length = rn := by rw [List.length_take]; omega
          have hlt2 := size_str (bs.take rn)
          rw [hlr] at hlt2
          have sa := str_append C (bs.take rn)
          have wi1 : IntKind.i64.wrap ((k : Int) + 1) = (k : Int) + 1 := IntWalk.i64_in _ (by omega)
          have g0 := fun d os => cell_regrown d0 d os
          have g1 := fun d os => cell_regrown d1 d os
          have HLR := Lib.hid hlr
          have Q1 := Lib.hid q1
          rw [hE]
          clear hE q1 hct hlr d0 d1
          go_wp2_with fail
          refine wp_region_quiet_below (by kernel_rfl) (by kernel_rfl) ?_
          repeat (go_big_quiet_step (fail))
          refine wpQuiet_nil ?_
          intro _ hw'
          obtain ⟨⟨dq, osq⟩, hw''⟩ := hw'
          subst hw''
          clear g0 g1
          go_wp2_with fail
          exact ⟨⟨k + 1, by omega, by rw [HCT2.out], by go_num, fun j hj => by
            by_cases h : j < k
            · exact HALL.out j h
            · obtain rfl : j = k := by omega
              exact HE.out, by rw [HCT2.out, List.length_append, HLR.out]; omega, next HB2.out (below_regrown _ _ _)⟩, by simp [intOf]; omega⟩
        · have t1 : (wrongL L b k != 0) = true := bne_iff_ne.2 hE
          have HJ := Lib.hid (join_bad HOK.out hlt HALL.out hE)
          obtain ⟨E, hEe⟩ : ∃ E, E = wrongL L b k := ⟨_, rfl⟩
          rw [← hEe] at HJ t1 ⊢
          clear hE hEe
          go_wp2_with fail
          go_ret3
          show JoinP V w _ _
          rw [HV0.out, HJ.out]
          exact ⟨rfl, HB2.out⟩
      · obtain rfl : L.length = k := by omega
        have i1 : ¬ ((L.length : Int) < (L.length : Int)) := by omega
        have HJ := Lib.hid (join_ok HOK.out HALL.out)
        rw [List.take_length]
        go_wp2_with fail
        go_ret3
        show JoinP V w _ _
        rw [HV0.out, HJ.out]
        exact ⟨rfl, HB.out⟩

set_option maxHeartbeats 400000 in
theorem end_r (p : Part) (i : Int) (w : World) (hl : p.1.length ≤ 1000000) :
    Calls Tryd.prog 12 #[.agg #[.string (str p.1), .int .i64 p.2.1, .int .i64 p.2.2], .int .i64 i] w fun e w' =>
      e = .returned (.tuple #[.int .i64 (endV p i), .int .i64 (endE p i)]) ∧ Below w.heap.size w w' := by
  obtain ⟨bs, real, before⟩ := p
  have hss := size_str bs
  by_cases h : before < 0 ∨ 1000000000 < before
  · obtain ⟨e1, e2⟩ := end_range (p := (bs, real, before)) (i := i) h
    rw [e1, e2]; clear e1 e2
    rcases h with h | h
    · go_enter Tryd.func12, Tryd.ntmps12
      go_wp2
      go_ret2
      exact ⟨rfl, (Below.refl _ _).alloc (Nat.le_refl _) _⟩
    · have h' : ¬ before < 0 := by omega
      go_enter Tryd.func12, Tryd.ntmps12
      go_wp2
      go_ret2
      exact ⟨rfl, (Below.refl _ _).alloc (Nat.le_refl _) _⟩
  · have k1 : ¬ before < 0 := by omega
    have k2 : ¬ 1000000000 < before := by omega
    by_cases h2 : i < 0 ∨ min real (bs.length : Int) ≤ i
    · obtain ⟨e1, e2⟩ := end_none (p := (bs, real, before)) (i := i) h h2
      rw [e1, e2]; clear e1 e2 h
      by_cases h3 : i < 0
      · clear h2
        go_enter Tryd.func12, Tryd.ntmps12
        go_wp2
        go_ret2
        exact ⟨rfl, (Below.refl _ _).alloc (Nat.le_refl _) _⟩
      · by_cases h4 : real ≤ i
        · clear h2
          go_enter Tryd.func12, Tryd.ntmps12
          go_wp2
          go_ret2
          exact ⟨rfl, (Below.refl _ _).alloc (Nat.le_refl _) _⟩
        · have h5 : (bs.length : Int) ≤ i := by omega
          clear h2
          go_enter Tryd.func12, Tryd.ntmps12
          go_wp2
          go_ret2
          exact ⟨rfl, (Below.refl _ _).alloc (Nat.le_refl _) _⟩
    · obtain ⟨e1, e2⟩ := end_ok (p := (bs, real, before)) (i := i) h h2
      rw [e1, e2]; clear e1 e2 h
      have k3 : ¬ i < 0 := by omega
      have k5 : ¬ (bs.length : Int) ≤ i := by omega
      have k7 : ¬ real ≤ i := by omega
      have k6 : (bs.length : Int) ≤ 1000000 := by simp at hl; omega
      have w1 : IntKind.i64.wrap (before + i) = before + i := IntWalk.i64_in _ (by omega)
      have w2 : IntKind.i64.wrap (before + i + 1) = before + i + 1 := IntWalk.i64_in _ (by omega)
      clear h2
      go_enter Tryd.func12, Tryd.ntmps12
      go_wp2
      go_ret2
      exact ⟨rfl, (Below.refl _ _).alloc (Nat.le_refl _) _⟩

def farV (L : List Part) : Bool := ((L.take 80).any fun p => decide (40 < p.1.length)) || decide (70 < L.length)
theorem far_no {L : List Part} (h : farV L = false) : L.length ≤ 70 ∧ ∀ p ∈ L, p.1.length ≤ 40 := by
  unfold farV at h
  rw [Bool.or_eq_false_iff, decide_eq_false_iff_not, List.any_eq_false] at h
  have hl : L.length ≤ 70 := by omega
  refine ⟨hl, fun p hp => ?_⟩
  have := h.1 p (by rw [List.take_of_length_le (by omega)]; exact hp)
  simpa using this

set_option maxRecDepth 100000 in
set_option maxHeartbeats 1000000 in
theorem far_l (v : Value) (L : List Part) (w : World) (hv : Parts w v L) :
    Calls Tryd.prog 5 #[v] w fun e w' => e = .returned (.bool (farV L)) ∧ Below w.heap.size w w' := by
  obtain ⟨a, cap, rfl⟩ := Row.form2 hv
  have hmax : L.length ≤ 9223372036854775807 := by have := hv.2.1; unfold maxLen at this; omega
  have HV := Lib.hid hv
  clear hv
  obtain ⟨V, hV⟩ : ∃ V, V = farV L := ⟨_, rfl⟩
  rw [← hV]
  have HV0 := Lib.hid hV
  clear hV
  go_enter Tryd.func5, Tryd.ntmps5
  go_wp2_with fail
  go_loopw [3] (fun iv wr => ∃ k : Nat, k ≤ L.length ∧ k ≤ 80 ∧ iv = .int .i64 (k : Nat) ∧ (∀ j (h : j < L.length), j < k → L[j].1.length ≤ 40) ∧ w = wr) (fun iv _ => 80 - (intOf iv).toNat)
  case atStart => exact ⟨0, by omega, by omega, rfl, fun j _ h => by omega, rfl⟩
  case round =>
    obtain ⟨k, hk, hk80, rfl, hall, rfl⟩ := hrel
    have HALL := Lib.hid hall
    clear hall
    by_cases hlt : k < L.length
    · have i1 : (0 : Int) ≤ (k : Int) := by omega
      have i2 : (k : Int) < (L.length : Int) := by omega
      by_cases h80 : k < 80
      · have t80 : (k : Int) < 80 := by omega
        obtain ⟨g, o, hga, hg, hc0, hc1, hc2⟩ := Parts.at HV.out hlt
        subst hga
        have hst := size_str L[k].1
        obtain ⟨bs, hbs⟩ : ∃ bs, L[k].1 = bs := ⟨_, rfl⟩
        rw [hbs] at hc0 hst
        have wi1 : IntKind.i64.wrap ((k : Int) + 1) = (k : Int) + 1 := IntWalk.i64_in _ (by omega)
        have HBS := Lib.hid hbs
        clear hbs hc1 hc2
        by_cases h40 : 40 < bs.length
        · have t40 : (40 : Int) < (bs.length : Int) := by omega
          have hf : farV L = true := by
            unfold farV
            rw [Bool.or_eq_true]; left
            rw [List.any_eq_true]
            exact ⟨L[k], List.mem_take_iff_getElem.2 ⟨k, by omega, rfl⟩, by rw [HBS.out]; exact decide_eq_true h40⟩
          rw [hf] at HV0
          clear hf h40
          go_wp2_with fail
          go_ret
          exact ⟨by rw [HV0.out]; rfl, Below.refl _ _⟩
        · have t40 : ¬ (40 : Int) < (bs.length : Int) := by omega
          have H40 := Lib.hid h40
          clear h40
          go_wp2_with fail
          exact ⟨⟨k + 1, by omega, by omega, by go_num, fun j hj hjk => by
            by_cases h : j < k
            · exact HALL.out j hj h
            · obtain rfl : j = k := by omega
              rw [HBS.out]; have := H40.out; omega, by trivial⟩, by simp [intOf]; omega⟩
      · have t80 : ¬ (k : Int) < 80 := by omega
        have t70 : (70 : Int) < (L.length : Int) := by omega
        have hf : farV L = true := by
          unfold farV
          rw [Bool.or_eq_true]; right; exact decide_eq_true (by omega)
        rw [hf] at HV0
        clear hf
        go_wp2_with fail
        go_ret
        exact ⟨by rw [HV0.out]; rfl, Below.refl _ _⟩
    · obtain rfl : L.length = k := by omega
      have i1 : ¬ ((L.length : Int) < (L.length : Int)) := by omega
      have hf : farV L = decide (70 < L.length) := by
        unfold farV
        have : ((L.take 80).any fun p => decide (40 < p.1.length)) = false := by
          rw [List.any_eq_false]
          intro p hp
          obtain ⟨j, hj, rfl⟩ := List.mem_iff_getElem.1 (List.mem_of_mem_take hp)
          have := HALL.out j hj hj
          simpa using this
        rw [this, Bool.false_or]
      rw [hf] at HV0
      clear hf
      by_cases h70 : 70 < L.length
      · have t70 : (70 : Int) < (L.length : Int) := by omega
        have hd : decide (70 < L.length) = true := decide_eq_true h70
        rw [hd] at HV0
        clear h70 hd
        go_wp2_with fail
        go_ret
        exact ⟨by rw [HV0.out]; rfl, Below.refl _ _⟩
      · have t70 : ¬ (70 : Int) < (L.length : Int) := by omega
        have hd : decide (70 < L.length) = false := decide_eq_false h70
        rw [hd] at HV0
        clear h70 hd
        go_wp2_with fail
        go_ret
        exact ⟨by rw [HV0.out]; rfl, Below.refl _ _⟩
end Go.Proofs.YtfmngphmmhjicaaDoor
