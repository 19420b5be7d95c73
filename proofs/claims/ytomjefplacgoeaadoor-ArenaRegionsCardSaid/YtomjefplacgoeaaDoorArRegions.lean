/- ArenaRegions: regions lie one behind the other, from 0 on, and within the arena; each is found by its name. -/
import Derived.Test.YtomjefplacgoeaaDoorArArg
import Derived.Test.YtomjefplacgoeaaDoorDLaid
import Derived.Test.YtomjefplacgoeaaDoorTie
import Derived.Test.YtomjefplacgoeaaDoorCards
import Derived.SevenTiedAt
namespace Go.Proofs.YtomjefplacgoeaaDoor.arenaRegions
open Go.ChangeShapes Go.WideShapes Go.ChangeAt Go.RowKit Go.Sort

def sumR (rs : List Reg) : Int := (rs.map (·.2.2)).sum
theorem sumR_snoc (rs : List Reg) (r : Reg) : sumR (rs ++ [r]) = sumR rs + r.2.2 := by simp [sumR]
theorem endR_snoc (rs : List Reg) (r : Reg) : endR (rs ++ [r]) = r.2.1 + r.2.2 := by simp [endR]
structure RInv (n : Nat) (rs : List Reg) : Prop where
  ok : RegsOk n rs
  ch : ∀ i (h : i < rs.length), rs[i].2.1 = sumR (rs.take i)
  en : endR rs = sumR rs
  nd : ∀ i j (hi : i < rs.length) (hj : j < rs.length), rs[i].1 = rs[j].1 → i = j
  le : rs.length ≤ 64
theorem RInv.nil (n : Nat) : RInv n [] := ⟨regsOk_nil _, fun i h => by simp at h, rfl, fun i j h => by simp at h, by simp⟩
theorem regE_ok {n : Nat} {rs : List Reg} {nm : List UInt8} {k : Int} (h : regE n rs nm k = 0) : 1 ≤ k ∧ idxR rs nm < 0 ∧ rs.length ≠ 64 ∧ k ≤ (n : Int) - endR rs := by
  unfold regE at h
  by_cases h1 : nameB nm = false
  · rw [if_pos h1] at h; omega
  · rw [if_neg h1] at h
    by_cases h2 : k < 1
    · rw [if_pos h2] at h; omega
    · rw [if_neg h2] at h
      by_cases h3 : 0 ≤ idxR rs nm
      · rw [if_pos h3] at h; omega
      · rw [if_neg h3] at h
        by_cases h4 : rs.length = 64
        · rw [if_pos h4] at h; omega
        · rw [if_neg h4] at h
          by_cases h5 : (n : Int) - endR rs < k
          · rw [if_pos h5] at h; omega
          · exact ⟨by omega, by omega, h4, by omega⟩
theorem idxR_not {rs : List Reg} {nm : List UInt8} (h : idxR rs nm < 0) : ∀ i (hi : i < rs.length), rs[i].1 ≠ nm := fun i hi e => by
  unfold idxR at h
  rw [if_pos (List.any_eq_true.2 ⟨rs[i], List.getElem_mem hi, by simpa using e⟩)] at h
  omega
theorem RInv.add {n : Nat} {rs : List Reg} {nm : List UInt8} {k : Int} (h : RInv n rs) (he : regE n rs nm k = 0) : RInv n (rs ++ [(nm, endR rs, k)]) := by
  obtain ⟨h1, h2, h3, h4⟩ := regE_ok he
  obtain ⟨h5, h6⟩ := endR_in h.ok
  have hno := idxR_not h2
  refine ⟨fun r hr => ?_, fun i hi => ?_, ?_, fun i j hi hj e => ?_, by have := h.le; simp; omega⟩
  · rw [List.mem_append, List.mem_singleton] at hr
    rcases hr with hr | rfl
    · exact h.ok r hr
    · simp only; omega
  · by_cases hl : i < rs.length
    · rw [List.getElem_append_left hl, List.take_append_of_le_length (by omega)]; exact h.ch i hl
    · have : i = rs.length := by simp at hi; omega
      subst this
      simp [h.en]
  · rw [endR_snoc, sumR_snoc, h.en]
  · simp only [List.length_append, List.length_cons, List.length_nil] at hi hj
    by_cases hl : i < rs.length
    · by_cases hm : j < rs.length
      · rw [List.getElem_append_left hl, List.getElem_append_left hm] at e
        exact h.nd i j hl hm e
      · have : j = rs.length := by omega
        subst this
        rw [List.getElem_append_left hl, List.getElem_append_right (by omega)] at e
        exact absurd (by simpa using e) (hno i hl)
    · have : i = rs.length := by omega
      subst this
      by_cases hm : j < rs.length
      · rw [List.getElem_append_left hm, List.getElem_append_right (by omega)] at e
        exact absurd (by simpa using e.symm) (hno j hm)
      · omega
theorem RInv.find {n : Nat} {rs : List Reg} (h : RInv n rs) {j : Nat} (hj : j < rs.length) : findV rs rs[j].1 = rs[j] ∧ findE rs rs[j].1 = 0 := by
  have e : idxR rs rs[j].1 = (j : Int) := idxR_hit hj rfl (fun i hi hlt e => by have := h.nd i j hi hj e; omega)
  unfold findV findE
  rw [e, if_pos (by omega), if_pos (by omega), Int.toNat_natCast, List.getD_eq_getElem?_getD, List.getElem?_eq_getElem hj]
  exact ⟨rfl, rfl⟩
theorem RInv.find_new {n : Nat} {rs : List Reg} {nm : List UInt8} {k : Int} (h : RInv n rs) (he : regE n rs nm k = 0) : findV (rs ++ [(nm, endR rs, k)]) nm = (nm, endR rs, k) ∧ findE (rs ++ [(nm, endR rs, k)]) nm = 0 := by
  have := (h.add he).find (j := rs.length) (by simp)
  simpa using this
theorem RInv.sum_take {n : Nat} {rs : List Reg} (h : RInv n rs) (j : Nat) : 0 ≤ sumR (rs.take j) ∧ sumR (rs.take j) ≤ n := by
  by_cases hj : j < rs.length
  · rw [← h.ch j hj]
    have := h.ok _ (List.getElem_mem hj)
    omega
  · rw [List.take_of_length_le (by omega), ← h.en]
    exact endR_in h.ok

theorem Cls.ats {w : World} {g o n cap : Nat} {l : List Cl} (h : Cls w (.slice (some ⟨g, o, none⟩) n cap) l) {i : Nat} (hi : i < l.length) :
    g < w.heap.size ∧ w.cell? ⟨g, o + i * 5, none⟩ = some (.int .u8 (l[i].what : Int)) ∧ w.cell? ⟨g, o + i * 5 + 1, none⟩ = some (.int .i64 l[i].at') ∧ w.cell? ⟨g, o + i * 5 + 2, none⟩ = some (.int .i64 l[i].n) ∧ w.cell? ⟨g, o + i * 5 + 3, none⟩ = some (.int .u64 (l[i].v : Int)) ∧ w.cell? ⟨g, o + i * 5 + 4, none⟩ = some (.string (str l[i].name)) := by
  obtain ⟨g', o', e, r⟩ := Cls.at h hi
  cases e
  exact r
theorem Regs.ats {w : World} {g o n cap : Nat} {l : List Reg} (h : Regs w (.slice (some ⟨g, o, none⟩) n cap) l) {i : Nat} (hi : i < l.length) :
    g < w.heap.size ∧ w.cell? ⟨g, o + i * 3, none⟩ = some (.string (str l[i].1)) ∧ w.cell? ⟨g, o + i * 3 + 1, none⟩ = some (.int .i64 l[i].2.1) ∧ w.cell? ⟨g, o + i * 3 + 2, none⟩ = some (.int .i64 l[i].2.2) := by
  obtain ⟨g', o', e, r⟩ := Regs.at h hi
  cases e
  exact r
theorem run_neq_same (w : World) (s : List UInt8) (a b : Int) :
    (binOp .neq 43 (.agg #[.string (str s), .int .i64 a, .int .i64 b]) (.agg #[.string (str s), .int .i64 a, .int .i64 b])).run Tryd.prog w = .ok (.bool false) w := by
  have := run_neq_reg w (s, a, b) (s, a, b)
  rw [decide_eq_false (by simp)] at this
  exact this
set_option maxRecDepth 100000 in
set_option maxHeartbeats 20000000 in
theorem walkK (c : Nat) (hc : c < 65536) (v : Value) (L : List Cl) (w : World) (hL : Cls w v L) (hok : ∀ p ∈ L, p.ok) :
    Calls Tryd.prog 4 #[.int .u16 (c : Int), v] w fun e w' => e = .returned (.bool true) ∧ Below w.heap.size w w' := by
  have KF := Lib.hid (far_p v L w hL)
  have HL := Lib.hid hL
  obtain ⟨a, capa, rfl⟩ := Row.form2 hL
  clear hL
  by_cases hf : farV L = true
  · rw [hf] at KF
    go_enter Tryd.func4, Tryd.ntmps4
    go_wp2_with fail
    refine KF.out.mono ?_
    rintro e w1 ⟨rfl, hb1⟩
    go_wp2_with fail
    refine (awake_p _).mono ?_
    rintro e w2 ⟨rfl, hb2⟩
    go_wp2_with fail
    go_ret
    exact ⟨rfl, next hb1 hb2⟩
  · rw [Bool.not_eq_true] at hf
    rw [hf] at KF
    obtain ⟨h200, hnames⟩ := not_far hf
    clear hf
    have hm300 : c % 300 < 300 := Nat.mod_lt _ (by omega)
    have KN := Lib.hid (fun w => new_o (w := w) (1 + c % 300) (by omega) (by omega))
    have hcm : ((c : Int) % 300) = ((c % 300 : Nat) : Int) := by omega
    generalize c % 300 = m at *
    go_enter Tryd.func4, Tryd.ntmps4
    go_wp2_with fail
    refine KF.out.mono ?_
    rintro e w1 ⟨rfl, hb1⟩
    have HB1 := Lib.hid hb1
    clear hb1
    go_wp2_with fail
    refine (KN.out w1).mono ?_
    rintro e w2 ⟨A, F, rfl, hO, hF⟩
    have HO := Lib.hid hO
    clear hO hF
    generalize hcs : List.replicate (1 + m) 0 = cs at *
    have hcl : cs.length = 1 + m := by rw [← hcs]; simp
    clear hcs
    go_wp2_with fail
    have hm1 : L.length ≤ 9223372036854775807 := by omega
    go_loopw [8, 9, 10] (fun ev8 mv iv wr => ∃ k : Nat, k ≤ L.length ∧ iv = .int .i64 (k : Nat) ∧ ∃ rs F E, mv = .int .i64 (rs.length : Nat) ∧ ev8 = .int .i64 E ∧ endR rs = E ∧ RInv (1 + m) rs ∧ Own w1 wr F A cs rs []) (fun _ _ iv _ => L.length - (intOf iv).toNat)
    case atStart => exact ⟨0, by omega, rfl, [], F, 0, rfl, rfl, rfl, RInv.nil _, HO.out⟩
    case round =>
      obtain ⟨k, hk, rfl, rs, F1, E, rfl, rfl, hE, hI, hO⟩ := hrel
      have HO1 := Lib.hid hO
      have HI := Lib.hid hI
      have HE := Lib.hid hE
      have hl64 := hI.le
      obtain ⟨hE0, hEm⟩ := endR_in hI.ok
      rw [hE] at hE0 hEm
      clear hO hI hE
      by_cases hlt : k < L.length
      · obtain ⟨g, o, hga, hg, hc0, hc1, hc2, hc3, hc4⟩ := Cls.at (Row.below HL.out (next HB1.out HO1.out.b)) hlt
        subst hga
        have i1 : (0 : Int) ≤ (k : Int) := by omega
        have i2 : (k : Int) < (L.length : Int) := by omega
        have wi1 : IntKind.i64.wrap ((k : Int) + 1) = (k : Int) + 1 := IntWalk.i64_in _ (by omega)
        obtain ⟨o1, o2, o3, o4⟩ := hok _ (List.getElem_mem hlt)
        have hnm := hnames _ (List.getElem_mem hlt)
        have K := Lib.hid (fun hr => region_o L[k].name (by omega) L[k].n (rs := rs) hr (HO1.out.below ((Below.refl _ _).drew)))
        have K1 := Lib.hid (K.out (by rw [hcl]; exact HI.out.ok))
        clear K
        generalize hx : L[k] = x at *
        clear hc0 hc1 hc3
        by_cases hr : regE cs.length rs x.name x.n = 0
        · have hr2 := hr
          rw [hcl] at hr2
          obtain ⟨r1, r2, r3, r4⟩ := regE_ok hr2
          rw [HE.out] at r4
          have HI2 := Lib.hid (HI.out.add hr2)
          obtain ⟨e1, e2⟩ := regB_ok hr
          rw [hr, e1, e2, HE.out] at K1
          obtain ⟨e3, e4⟩ := HI.out.find_new hr2
          rw [HE.out] at e3 e4
          clear e1 e2 hr hr2 r2
          go_wp2_with fail
          go_region_with (go_at_call 17; refine K1.out.mono ?_; rintro e w4 ⟨rfl, F4, hO4, -⟩)
          all_goals
            have HO4 := Lib.hid hO4
            have KFi := Lib.hid (find_o x.name hO4)
            rw [e3, e4] at KFi
            obtain ⟨hg4, d0, d1, d2, d3, d4⟩ := Cls.ats (Row.below HL.out (next HB1.out hO4.b)) hlt
            rw [hx] at d4
            clear hO4 K1 e3 e4 hc2 hc4 d0 d1 d2 d3
            go_wp2_with fail
            refine KFi.out.mono ?_
            rintro e w5 ⟨rfl, hO5, -⟩
            have HO5 := Lib.hid hO5
            have HBA := Lib.hid ((Below.refl w5.heap.size w5).alloc (Nat.le_refl _) (.cells #[.string (str x.name), .int .i64 E, .int .i64 x.n] 43))
            obtain ⟨hg5, d0, d1, d2, d3, d5⟩ := Cls.ats (Row.below (Row.below HL.out (next HB1.out hO5.b)) HBA.out) hlt
            rw [hx] at d2 d5
            have a1 := cell_in (i := 0) (heap_alloc_new w5 (.cells #[.string (str x.name), .int .i64 E, .int .i64 x.n] 43)) rfl
            have a2 := cell_in (i := 1) (heap_alloc_new w5 (.cells #[.string (str x.name), .int .i64 E, .int .i64 x.n] 43)) rfl
            have a3 := cell_in (i := 2) (heap_alloc_new w5 (.cells #[.string (str x.name), .int .i64 E, .int .i64 x.n] 43)) rfl
            have q2 := fun d os => cell_regrown d2 d os
            have q5 := fun d os => cell_regrown d5 d os
            have q6 := fun d os => cell_regrown a1 d os
            have q7 := fun d os => cell_regrown a2 d os
            have q8 := fun d os => cell_regrown a3 d os
            have hne := fun w => run_neq_same w x.name E x.n
            have ws : IntKind.i64.wrap (E + x.n) = E + x.n := IntWalk.i64_in _ (by omega)
            have wm : IntKind.i64.wrap ((rs.length : Int) + 1) = (rs.length : Int) + 1 := IntWalk.i64_in _ (by omega)
            have s1 : decide (x.n < 1) = false := decide_eq_false (by omega)
            have s2 : decide (1 + (m : Int) < E + x.n) = false := decide_eq_false (by omega)
            clear hO5 KFi d0 d1 d3 d4 a1 a2 a3
            go_wp2_with fail
            refine wp_region_quiet_below (by kernel_rfl) (by kernel_rfl) ?_
            repeat (go_big_quiet_step (fail))
            refine wpQuiet_nil ?_
            intro _ hw'
            obtain ⟨⟨dq, osq⟩, hw''⟩ := hw'
            subst hw''
            have hBQ := HBA.out.trans ((below_regrown (w5.alloc (.cells #[.string (str x.name), .int .i64 E, .int .i64 x.n] 43)) dq osq).mono HBA.out.size)
            have HO6 := Lib.hid (HO5.out.below hBQ)
            obtain ⟨hg6, d0, d1, d2', d3, d4⟩ := Cls.ats (Row.below HL.out (next HB1.out HO6.out.b)) hlt
            rw [hx] at d2'
            clear q2 q5 q6 q7 q8 hBQ d0 d1 d3 d4 d2 d5
            generalize Go.Sort.grow _ _ = w7 at *
            go_wp2_with fail
            exact ⟨⟨k + 1, by omega, by go_num, _, F4, E + x.n, by simp, rfl, by rw [endR_snoc], by have := HI2.out; rw [HE.out] at this; exact this, HO6.out⟩, by simp [intOf]; omega⟩
        · obtain ⟨e1, e2⟩ := regB_bad hr
          rw [e1, e2] at K1
          have t1 : (regE cs.length rs x.name x.n != 0) = true := bne_iff_ne.2 hr
          generalize regE cs.length rs x.name x.n = X at *
          clear e1 e2 hr
          go_wp2_with fail
          go_region_with (go_at_call 17; refine K1.out.mono ?_; rintro e w4 ⟨rfl, F4, hO4, -⟩)
          all_goals
            have HO4 := Lib.hid hO4
            clear hO4 K1
            go_wp2_with fail
            exact ⟨⟨k + 1, by omega, by go_num, rs, F4, E, rfl, rfl, HE.out, HI.out, HO4.out⟩, by simp [intOf]; omega⟩
      · obtain rfl : L.length = k := by omega
        have i1 : ¬ ((L.length : Int) < (L.length : Int)) := by omega
        have K := Lib.hid (regions_o HO1.out)
        go_wp2_with fail
        refine K.out.mono ?_
        rintro e w5 ⟨v5, rfl, hR, -, hO5, -⟩
        obtain ⟨ra, rcap, rfl⟩ := Row.form2 hR
        have HR := Lib.hid hR
        have HO5 := Lib.hid hO5
        have KS := Lib.hid (steps_o hO5)
        have s1 : ¬ (64 : Int) < (rs.length : Int) := by omega
        have hr1 : rs.length ≤ 9223372036854775807 := by omega
        clear hO5 hR K
        go_wp2_with fail
        refine KS.out.mono ?_
        rintro e w6 ⟨rfl, rfl⟩
        clear KS
        go_wp2_with fail
        go_loopw [16, 17] (fun av jv wr => ∃ j : Nat, j ≤ rs.length ∧ jv = .int .i64 (j : Nat) ∧ av = .int .i64 (sumR (rs.take j)) ∧ Own w1 wr F1 A cs rs [] ∧ Below w5.heap.size w5 wr) (fun _ jv _ => rs.length - (intOf jv).toNat)
        case atStart => exact ⟨0, by omega, rfl, by simp [sumR], HO5.out, Below.refl _ _⟩
        case round =>
          obtain ⟨j, hj, rfl, rfl, hO, hB⟩ := hrel
          have HO6 := Lib.hid hO
          have HB6 := Lib.hid hB
          clear hO hB
          by_cases hjt : j < rs.length
          · obtain ⟨g, o, hga, hg, c0, c1, c2⟩ := Regs.at (Row.below HR.out HB6.out) hjt
            subst hga
            have j1 : (0 : Int) ≤ (j : Int) := by omega
            have j2 : (j : Int) < (rs.length : Int) := by omega
            have wj1 : IntKind.i64.wrap ((j : Int) + 1) = (j : Int) + 1 := IntWalk.i64_in _ (by omega)
            obtain ⟨f1, f2⟩ := HI.out.find hjt
            have hch := HI.out.ch j hjt
            have hsn : sumR (rs.take (j + 1)) = sumR (rs.take j) + rs[j].2.2 := by rw [List.take_succ_eq_append_getElem hjt, sumR_snoc]
            obtain ⟨b1, b2⟩ := HI.out.sum_take j
            obtain ⟨b3, b4⟩ := HI.out.sum_take (j + 1)
            rw [hsn] at b3 b4
            have KFi := Lib.hid (find_o rs[j].1 HO6.out)
            rw [f1, f2] at KFi
            obtain ⟨⟨s, b, z⟩, hr⟩ : ∃ r, rs[j] = r := ⟨_, rfl⟩
            rw [hr] at c0 c1 c2 KFi hch hsn b3 b4
            simp only at c0 c1 c2 KFi hch hsn b3 b4
            subst hch
            have HSN := Lib.hid hsn
            generalize sumR (rs.take j) = b at *
            clear f1 f2 hsn c1 c2
            go_wp2_with fail
            refine KFi.out.mono ?_
            rintro e w7 ⟨rfl, hO7, hB7⟩
            have HO7 := Lib.hid hO7
            have HB7 := Lib.hid (next HB6.out hB7)
            have HBA := Lib.hid ((Below.refl w7.heap.size w7).alloc (Nat.le_refl _) (.cells #[.string (str s), .int .i64 b, .int .i64 z] 43))
            obtain ⟨hg5, d0, d1, d2⟩ := Regs.ats (Row.below (Row.below HR.out HB7.out) HBA.out) hjt
            rw [hr] at d0 d1 d2
            simp only at d0 d1 d2
            have a1 := cell_in (i := 0) (heap_alloc_new w7 (.cells #[.string (str s), .int .i64 b, .int .i64 z] 43)) rfl
            have a2 := cell_in (i := 1) (heap_alloc_new w7 (.cells #[.string (str s), .int .i64 b, .int .i64 z] 43)) rfl
            have a3 := cell_in (i := 2) (heap_alloc_new w7 (.cells #[.string (str s), .int .i64 b, .int .i64 z] 43)) rfl
            have q0 := fun d os => cell_regrown d0 d os
            have q1 := fun d os => cell_regrown d1 d os
            have q2 := fun d os => cell_regrown d2 d os
            have q6 := fun d os => cell_regrown a1 d os
            have q7 := fun d os => cell_regrown a2 d os
            have q8 := fun d os => cell_regrown a3 d os
            have hne := fun w => run_neq_same w s b z
            have ws : IntKind.i64.wrap (b + z) = b + z := IntWalk.i64_in _ (by omega)
            clear hO7 hB7 KFi a1 a2 a3 c0 d0 d1 d2
            go_wp2_with fail
            refine wp_region_quiet_below (by kernel_rfl) (by kernel_rfl) ?_
            repeat (go_big_quiet_step (fail))
            refine wpQuiet_nil ?_
            intro _ hw'
            obtain ⟨⟨dq, osq⟩, hw''⟩ := hw'
            subst hw''
            have hBQ := HBA.out.trans ((below_regrown (w7.alloc (.cells #[.string (str s), .int .i64 b, .int .i64 z] 43)) dq osq).mono HBA.out.size)
            have HO8 := Lib.hid (HO7.out.below hBQ)
            have HB8 := Lib.hid (next HB7.out hBQ)
            obtain ⟨hg6, d0, d1, d2⟩ := Regs.ats (Row.below HR.out HB8.out) hjt
            rw [hr] at d2
            simp only at d2
            clear q0 q1 q2 q6 q7 q8 hBQ d0 d1
            generalize Go.Sort.grow _ _ = w9 at *
            go_wp2_with fail
            exact ⟨⟨j + 1, by omega, by go_num, by rw [HSN.out], HO8.out, HB8.out⟩, by simp [intOf]; omega⟩
          · obtain rfl : rs.length = j := by omega
            have j1 : ¬ ((rs.length : Int) < (rs.length : Int)) := by omega
            have e : sumR (rs.take rs.length) = E := by rw [List.take_of_length_le (Nat.le_refl _), ← HI.out.en, HE.out]
            rw [e]
            clear e
            go_wp2_with fail
            refine (awake_p _).mono ?_
            rintro e w9 ⟨rfl, hb9⟩
            go_wp2_with fail
            go_ret
            exact ⟨rfl, next (next HB1.out HO6.out.b) hb9⟩
set_option maxRecDepth 100000 in
theorem walk {H : Type} {enc : TypeId × Value → H} {d : DataW H} {q : List MemPlace} {base : Nat} (a : Int) (v : Value) (w : World) (ha : IntKind.u16.has a)
    (hk : DataW.Trod enc Tryd.prog w 0 (fun _ => true) true 23 v d q) (_ : Value.okWide Tryd.prog w .any base 23 v) :
    Calls Tryd.prog 4 #[.int .u16 a, v] w fun e w' => e = .returned (.bool true) ∧ Below w.heap.size w w' := by
  obtain ⟨m, hn⟩ := hk
  rename_i hv
  obtain ⟨z, len, cap, rfl⟩ := okWide_slice Tryd.underlying23 hv
  obtain ⟨L, hL, hok⟩ := calls_of hn
  have := has_u16 ha
  obtain ⟨c, rfl⟩ : ∃ c : Nat, a = c := ⟨a.toNat, by omega⟩
  exact walkK c (by omega) _ L w hL hok

theorem own : ownKnob Tryd.prog.godebug = none := by kernel_rfl
theorem laidOut : laidOutB Tryd.prog = true := by kernel_rfl
abbrev laidL : List (String × DataW Unit) := [("unicode/utf8.acceptRanges", Rows.laid_unicode_utf8_acceptRanges), ("unicode/utf8.first", Rows.laid_unicode_utf8_first)]

set_option maxRecDepth 100000 in
theorem lifted (os : Os) (started : os.Started) (H : Type) (enc : TypeId × Value → H) :
    ReturnsInHanded {} Tryd.checked os 4 .any (fun w args => (Rows.arenaRegionsSpec.pre enc Tryd.prog Tryd.f4 [] false w args ∧ laidMetH Tryd.prog laidL w) ∧ sizedMet enc Tryd.prog Tryd.f4 (OpenSpec.ofChange Rows.arenaRegionsSpec) false w args) (Rows.arenaRegionsSpec.post enc Tryd.prog Tryd.f4 false true false false) := by
  refine returnsInHanded_of_change_and (C := Tryd.checked) (X := fun w _ => laidMetH Tryd.prog laidL w) (fun _ _ _ hh h => h.of_heap hh) own started (by kernel_rfl) Tryd.func4
    (ChangeSpec.witness_shaped (enc := enc) (C := Tryd.checked) (os := os) (X := fun w _ => laidMetH Tryd.prog laidL w) false (laidWorld os) #[.int .u16 0, .slice none 0 0] 8 rfl (World.shaped_of_RefB (by kernel_rfl) (by kernel_rfl)) (by kernel_rfl) (by kernel_rfl) (by kernel_rfl) (door_met os _)) ?_
  intro W base args ds gs before hval0 hW _ _ _ _
  have hval : ∀ (j : Nat) t v, Tryd.f4.params[j]? = some t → args[j]? = some v → Value.okWide Tryd.prog W .any base t v := hval0
  have hW' := hW
  obtain ⟨p, q, hA0, hV, rfl, hfz, hnd⟩ := hW
  have hA : DataW.TrodAll enc Tryd.prog W 0 (fun _ => true) true Tryd.f4.params.toList args.toList ds p := hA0
  rw [Tryd.params4] at hA hval
  obtain ⟨v0, vs0, d0, ds0, p0, q0, hargs, rfl, rfl, k0, r0⟩ := trodAll_cons hA
  obtain ⟨v1, vs1, d1, ds1, p1, q1, rfl, rfl, rfl, k1, r1⟩ := trodAll_cons r0
  obtain ⟨rfl, rfl, rfl⟩ := trodAll_nil r1
  obtain rfl : args = #[v0, v1] := by cases args; simp_all
  obtain ⟨rfl, rfl⟩ := trodVars_none hV
  have lt0 : ∀ x ∈ p0, x.block < W.heap.size := by obtain ⟨m, hm⟩ := k0; exact DataW.trod_lt m _ _ _ hm
  have lt1 : ∀ x ∈ p1, x.block < W.heap.size := by obtain ⟨m, hm⟩ := k1; exact DataW.trod_lt m _ _ _ hm
  obtain ⟨a0, rfl, w0⟩ := arg_int Tryd.underlying22 (hval 0 22 v0 rfl rfl)
  clear hA0 hval0
  refine (walk a0 v1 W w0 k1 (hval 1 23 v1 rfl rfl)).mono fun e W' ⟨he, bel⟩ => ?_
  subst he
  exact ⟨_, rfl, _, _, _, [], _, [], hW', trodAll_mk1 (shut_bool Tryd.underlying4 _), (trodAll_cons_mk (Below.trod laidOut (by kernel_rfl) (of_decide_eq_true (by kernel_rfl)) k0 bel lt0) (trodAll_cons_mk (Below.trod laidOut (by kernel_rfl) (of_decide_eq_true (by kernel_rfl)) k1 bel lt1) trodAll_mk0)), rfl, bel.frame _, fun h => by cases h⟩

theorem over : Rows.arenaRegionsRow.holds Tryd.pinned (OpenSpec.ofChange Rows.arenaRegionsSpec) :=
  OpenClaim.holds_of_wide 4 Tryd.f4 rfl rfl rfl rfl rfl rfl rfl ⟨rfl, rfl, rfl, rfl, rfl⟩ rfl rfl rfl rfl rfl (by kernel_rfl) Tryd.func4 (by kernel_rfl)
    (of_decide_eq_true (by kernel_rfl)) (by unfold Func.isWrapper; first | (rw [if_pos (by decide +kernel)]; kernel_rfl) | (rw [if_neg (by decide +kernel)]; exact ⟨rfl, rfl⟩))
    (fun os started H enc _ => lifted os started H enc)

theorem proved : Rows.ArenaRegionsCardSaid :=
  Claim7.holds_tied_plain_at .later [] [.data, .pinned] true (true, "fa0ba3bc22dc5505d8766bf6efcc6355ea8fadaca26ff31e805dd7d45e3f142c") false
    over (fun _ h => by cases h) (by kernel_rfl) (fun _ h => by cases h) arenaRegions_row_tie rfl ⟨rfl, rfl⟩ (by kernel_rfl) rfl
    (fun f fn hf hfn => by
      obtain rfl : f = 4 := Option.some.inj ((show Tryd.prog.funcNamed "dragnet/dragnetlaw05.ArenaRegions" = some 4 by kernel_rfl).symm.trans hf) |>.symm
      obtain rfl : fn = Tryd.f4 := (Option.some.inj (Tryd.func4.symm.trans hfn)).symm
      exact ⟨by kernel_rfl, fun j t ht => by
        rw [Tryd.params4] at ht
        have hm : t ∈ ([22, 23] : List Nat) := by simpa using Array.mem_of_getElem? ht
        have hall : (([22, 23] : List Nat).all fun u => !Tryd.prog.wantsStandIn u) = true := by kernel_rfl
        exact (show Tryd.prog.wantsStandIn t = false by simpa using List.all_eq_true.1 hall t hm)⟩)
    (by kernel_rfl)
#print axioms proved
end Go.Proofs.YtomjefplacgoeaaDoor.arenaRegions
