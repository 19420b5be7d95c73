/- dragnetref27.wrong. -/
import Derived.Test.YtfmngphmmhjicaaDoorDWrong
namespace Go.Proofs.YtfmngphmmhjicaaDoor
open Go.RowKit Go.Sort

theorem all_true {bs : List UInt8} {rn : Nat} (h : ∀ j, rn ≤ j → j < bs.length → bs.getD j 0 = 0) : (bs.drop rn).all (· == 0) = true := by
  rw [List.all_eq_true]
  intro x hx
  obtain ⟨n, hn, rfl⟩ := List.mem_iff_getElem.1 hx
  rw [List.length_drop] at hn
  have := h (rn + n) (by omega) (by omega)
  rw [List.getD_eq_getElem?_getD, List.getElem?_eq_getElem (by omega)] at this
  rw [List.getElem_drop]
  simpa using this
theorem all_false {bs : List UInt8} {rn j : Nat} (h1 : rn ≤ j) (h2 : j < bs.length) (h : ¬ bs.getD j 0 = 0) : (bs.drop rn).all (· == 0) = false := by
  rw [List.all_eq_false]
  refine ⟨bs[j], List.mem_iff_getElem.2 ⟨j - rn, by rw [List.length_drop]; omega, by rw [List.getElem_drop]; congr 1; omega⟩, ?_⟩
  rw [List.getD_eq_getElem?_getD, List.getElem?_eq_getElem h2] at h
  simpa using h

set_option maxRecDepth 100000 in
set_option maxHeartbeats 4000000 in
theorem wrong_r (v : Value) (L : List Part) (k : Nat) (b : Int) (w : World) (hv : Parts w v L) (hk : k < L.length) (hn : L.length ≤ 1000) (hl : ∀ p ∈ L, okPart p) (hb : 1 ≤ b ∧ b ≤ 16) :
    Calls Tryd.prog 22 #[v, .int .i64 (k : Int), .int .i64 b] w fun e w' => e = .returned (.int .i64 (wrongL L b k)) ∧ Below w.heap.size w w' := by
  obtain ⟨a, cap, rfl⟩ := Row.form2 hv
  obtain ⟨g, o, rfl, hg, hc0, hc1, hc2⟩ := hv.at hk
  have hok := hl L[k] (List.getElem_mem hk)
  have hcs := wrong_cases L.length k b L[k] (L.getD (k - 1) noPart)
  have e9 : wrongL L b k = wrongE L.length k b L[k] (L.getD (k - 1) noPart) := by
    unfold wrongL
    rw [List.getD_eq_getElem?_getD (i := k), List.getElem?_eq_getElem hk]; rfl
  rw [e9]
  clear e9
  generalize L[k] = x at *
  obtain ⟨bs, r, f⟩ := x
  obtain ⟨E, hE⟩ : ∃ E, E = wrongE L.length k b (bs, r, f) (L.getD (k - 1) noPart) := ⟨_, rfl⟩
  rw [← hE] at hcs ⊢
  clear hE
  simp only [okPart] at hok hcs hc0 hc1 hc2
  obtain ⟨hlb, ⟨hr1, hr2⟩, hf1, hf2⟩ := hok
  have hst := size_str bs
  have i1 : (0 : Int) ≤ (k : Int) := by omega
  have i2 : (k : Int) < (L.length : Int) := by omega
  have HB := Lib.hid ((Below.refl w.heap.size w).alloc (Nat.le_refl _) (.cells #[.string (str bs), .int .i64 r, .int .i64 f] 33))
  have HV := Lib.hid hv
  have HL := Lib.hid hl
  clear hl hv
  rcases hcs with ⟨h1, rfl⟩ | ⟨h1, h2, rfl⟩ | ⟨h1, ⟨p1, p2, p3⟩, hcs⟩
  · have t1 : ((bs.length : Int) != b) = true := bne_iff_ne.2 h1
    clear h1
    go_enter Tryd.func22, Tryd.ntmps22
    go_wp2_with fail
    go_ret
    exact ⟨rfl, HB.out⟩
  · have t1 : ((bs.length : Int) != b) = false := by rw [h1]; exact bne_self_eq_false _
    clear h1
    by_cases q1 : r < 1
    · clear h2
      go_enter Tryd.func22, Tryd.ntmps22
      go_wp2_with fail
      go_ret
      exact ⟨rfl, HB.out⟩
    · by_cases q2 : b < r
      · clear h2
        go_enter Tryd.func22, Tryd.ntmps22
        go_wp2_with fail
        go_ret
        exact ⟨rfl, HB.out⟩
      · have q3 : f < 0 := by omega
        clear h2
        go_enter Tryd.func22, Tryd.ntmps22
        go_wp2_with fail
        go_ret
        exact ⟨rfl, HB.out⟩
  · have t1 : ((bs.length : Int) != b) = false := by rw [h1]; exact bne_self_eq_false _
    have q1 : ¬ r < 1 := by omega
    have q2 : ¬ b < r := by omega
    have q3 : ¬ f < 0 := by omega
    obtain ⟨rn, rfl⟩ : ∃ rn : Nat, r = rn := ⟨r.toNat, by omega⟩
    have wn : IntKind.i64.wrap ((k : Int) + 1) = (k : Int) + 1 := IntWalk.i64_in _ (by omega)
    rw [Int.toNat_natCast] at hcs
    rcases hcs with ⟨h3, h4, rfl⟩ | ⟨h3, hcs⟩
    · have u1 : (k : Int) + 1 < (L.length : Int) := by omega
      clear h4 h1
      go_enter Tryd.func22, Tryd.ntmps22
      go_wp2_with fail
      go_ret
      exact ⟨rfl, HB.out⟩
    · have hz0 : (0 : Int) ≤ (rn : Int) := by omega
      have hz1 : (rn : Int) ≤ b := by omega
      have hcase : ¬ (rn : Int) < b ∨ ((rn : Int) < b ∧ ¬ (k : Int) + 1 < (L.length : Int)) := by omega
      have H1 := Lib.hid h1
      have hnew : (w.alloc (.cells #[.string (str bs), .int .i64 (rn : Int), .int .i64 f] 33)).heap[w.heap.size]? = some (.cells #[.string (str bs), .int .i64 (rn : Int), .int .i64 f] 33) := heap_alloc_new w _
      have d0 : (w.alloc (.cells #[.string (str bs), .int .i64 (rn : Int), .int .i64 f] 33)).cell? ⟨w.heap.size, 0, none⟩ = some (.string (str bs)) := by unfold World.cell?; rw [hnew]; rfl
      have d1 : (w.alloc (.cells #[.string (str bs), .int .i64 (rn : Int), .int .i64 f] 33)).cell? ⟨w.heap.size, 1, none⟩ = some (.int .i64 (rn : Int)) := by unfold World.cell?; rw [hnew]; rfl
      have d2 : (w.alloc (.cells #[.string (str bs), .int .i64 (rn : Int), .int .i64 f] 33)).cell? ⟨w.heap.size, 2, none⟩ = some (.int .i64 f) := by unfold World.cell?; rw [hnew]; rfl
      have HD0 := Lib.hid d0
      have HD1 := Lib.hid d1
      have HD2 := Lib.hid d2
      clear h3 h1 q2 hnew d0 d1 d2
      rcases hcase with u0 | ⟨u0, u1⟩
      all_goals
        go_enter Tryd.func22, Tryd.ntmps22
        go_wp2_with fail
        go_loopw [8] (fun v wr => ∃ i : Nat, rn ≤ i ∧ i ≤ bs.length ∧ v = .int .i64 (i : Nat) ∧ (∀ j, rn ≤ j → j < i → bs.getD j 0 = 0) ∧ w.alloc (.cells #[.string (str bs), .int .i64 (rn : Int), .int .i64 f] 33) = wr) (fun v _ => bs.length - (intOf v).toNat)
        case atStart => exact ⟨rn, by omega, by have := H1.out; omega, rfl, fun j h1 h2 => by omega, rfl⟩
        case round =>
          obtain ⟨i, hi1, hi2, rfl, hall, rfl⟩ := hrel
          have HALL := Lib.hid hall
          have j1 : (0 : Int) ≤ (i : Int) := by omega
          clear hall
          by_cases hib : i < bs.length
          · have j2 : (i : Int) < b := by have := H1.out; omega
            have hrb : (rn : Int) < b := by omega
            try (exfalso; omega)
            all_goals
              have j3 : (i : Int) < (bs.length : Int) := by omega
              have g0 := fun (h : i < (str bs).size) => str_at (m := bs) (k := i) h
              obtain ⟨x, hx⟩ : ∃ x, bs.getD i 0 = x := ⟨_, rfl⟩
              rw [hx] at g0
              have HX := Lib.hid hx
              clear hx
              by_cases h0 : x = 0
              · have t1 : ((x.toNat : Int) != 0) = false := by rw [h0]; rfl
                have H0 := Lib.hid h0
                have wi1 : IntKind.i64.wrap ((i : Int) + 1) = (i : Int) + 1 := IntWalk.i64_in _ (by omega)
                clear h0
                go_wp2_with fail
                exact ⟨⟨i + 1, by omega, by omega, by go_num, fun j h1 h2 => by
                  by_cases h : j < i
                  · exact HALL.out j h1 h
                  · obtain rfl : j = i := by omega
                    rw [HX.out]; exact H0.out, by trivial⟩, by simp [intOf]; omega⟩
              · have t1 : ((x.toNat : Int) != 0) = true := bne_iff_ne.2 (fun h => h0 (UInt8.toNat_inj.1 (by simpa using h)))
                have hz : (bs.drop rn).all (· == 0) = false := all_false hi1 hib (by rw [HX.out]; exact h0)
                rw [hz] at hcs
                simp only [Bool.false_eq_true, false_and, or_false, true_and] at hcs
                subst hcs
                clear h0 hz
                go_wp2_with fail
                go_ret
                exact ⟨rfl, HB.out⟩
          · have j2 : ¬ (i : Int) < b := by have := H1.out; omega
            have hz : (bs.drop rn).all (· == 0) = true := all_true (fun j h1 h2 => HALL.out j h1 (by omega))
            rw [hz] at hcs
            simp only [Bool.true_eq_false, false_and, false_or, true_and] at hcs
            generalize w.alloc (.cells #[.string (str bs), .int .i64 (rn : Int), .int .i64 f] 33) = w1 at *
            have d1 := HD1.out
            have d2 := HD2.out
            have HB1 := Lib.hid HB.out
            have HV1 := Lib.hid (Row.below HV.out HB1.out)
            clear hz hib HB HALL
            have b0 : (0 : Int) ≤ (k : Int) * b := Int.mul_nonneg (by omega) (by omega)
            have b1 : (k : Int) * b ≤ (k : Int) * 16 := Int.mul_le_mul_of_nonneg_left hb.2 (by omega)
            obtain ⟨kb, hkb⟩ : ∃ kb, (k : Int) * b = kb := ⟨_, rfl⟩
            have wk : IntKind.i64.wrap ((k : Int) * b) = kb := (IntWalk.i64_in _ (by omega)).trans hkb
            rw [hkb] at hcs b0 b1
            have wk2 : IntKind.i64.wrap (kb + (rn : Int)) = kb + (rn : Int) := IntWalk.i64_in _ (by omega)
            have rn0 := hr1
            clear hkb
            have gd1 := fun d os => cell_regrown d1 d os
            have gd2 := fun d os => cell_regrown d2 d os
            by_cases hk0 : k = 0
            case' pos =>
              have hcs2 : (1000 < kb + (rn : Int) ∧ E = 3) ∨ (kb + (rn : Int) ≤ 1000 ∧ E = 0) := by
                rcases hcs with ⟨h, _⟩ | ⟨_, h⟩
                · omega
                · exact h
              have t0 : ¬ ((0 : Int) < (k : Int)) := by omega
              have t0d : decide ((0 : Int) < (k : Int)) = false := decide_eq_false (by omega)
              have t0n : decide (0 < k) = false := decide_eq_false (by omega)
              clear hk0 hcs
              go_wp2_with fail
              refine wp_region_quiet_below (by kernel_rfl) (by kernel_rfl) ?_
              repeat (go_big_quiet_step (fail))
              refine wpQuiet_nil ?_
              intro _ hw'
              obtain ⟨⟨dq, osq⟩, hw''⟩ := hw'
              subst hw''
              clear t0 t0d t0n
            case' neg =>
              obtain ⟨j, hj⟩ : ∃ j, j + 1 = k := ⟨k - 1, by omega⟩
              have hjl : j < L.length := by omega
              obtain ⟨g2, o2, e2, hg2, _, _, hd1⟩ := Parts.at HV1.out hjl
              cases e2
              have e7 : (L.getD (k - 1) noPart).2.2 = L[j].2.2 := by
                rw [← hj, Nat.add_sub_cancel, List.getD_eq_getElem?_getD, List.getElem?_eq_getElem hjl]; rfl
              rw [e7] at hcs
              have hyk := (HL.out L[j] (List.getElem_mem hjl)).2.2
              clear e7
              generalize L[j].2.2 = y at *
              have t0 : ((0 : Int) < (k : Int)) := by omega
              have t0d : decide ((0 : Int) < (k : Int)) = true := decide_eq_true (by omega)
              have t0n : decide (0 < k) = true := decide_eq_true (by omega)
              have wi : IntKind.i64.wrap ((k : Int) - 1) = (j : Int) := (IntWalk.i64_in _ (by omega)).trans (by omega)
              have k1 : (0 : Int) ≤ (j : Int) := by omega
              have k2 : (j : Int) < (L.length : Int) := by omega
              obtain ⟨q, hq⟩ : ∃ q, IntKind.i64.wrap (f - b) = q := ⟨_, rfl⟩
              have hqb : q = y ↔ f - b = y := by
                rw [← hq, IntKind.wrap_i64]; omega
              have gd3 := fun d os => cell_regrown hd1 d os
              have HJ := Lib.hid hj
              clear hk0 hj hd1
              rcases hcs with ⟨_, h5, rfl⟩ | ⟨h5, hcs2⟩
              case' inl =>
                have t6 : (q != y) = true := bne_iff_ne.2 (fun h => h5 (hqb.1 h))
                clear hqb h5
                go_wp2_with fail
                refine wp_region_quiet_below (by kernel_rfl) (by kernel_rfl) ?_
                repeat (go_big_quiet_step (fail))
                refine wpQuiet_nil ?_
                intro _ hw'
                obtain ⟨⟨dq, osq⟩, hw''⟩ := hw'
                subst hw''
                have hgr := below_regrown w1 dq osq
                clear gd1 gd2 gd3
                go_wp2_with fail
                go_ret
                exact ⟨rfl, next HB1.out hgr⟩
              case' inr =>
                have t6 : (q != y) = false := by rw [hqb.2 (by omega)]; exact bne_self_eq_false _
                clear hqb h5
                go_wp2_with fail
                refine wp_region_quiet_below (by kernel_rfl) (by kernel_rfl) ?_
                repeat (go_big_quiet_step (fail))
                refine wpQuiet_nil ?_
                intro _ hw'
                obtain ⟨⟨dq, osq⟩, hw''⟩ := hw'
                subst hw''
                clear t0 t0d t0n t6 wi k1 k2 hq gd3 hyk
            all_goals
              have hgr := below_regrown w1 dq osq
              have e1 := (hgr.cell (p := ⟨w.heap.size, 1, none⟩) (World.block_lt_of_cell? w1 _ d1)).trans d1
              have HB2 := Lib.hid (next HB1.out hgr)
              generalize grow (redrawn w1 dq) osq = w2 at *
              clear hgr gd1 gd2 d1 d2
              rcases hcs2 with ⟨h6, rfl⟩ | ⟨h6, rfl⟩
              · have t7 : 1000 < kb + (rn : Int) := h6
                go_wp2_with fail
                go_ret
                exact ⟨rfl, HB2.out⟩
              · have t7 : ¬ 1000 < kb + (rn : Int) := by omega
                clear h6
                go_wp2_with fail
                go_ret
                exact ⟨rfl, HB2.out⟩
end Go.Proofs.YtfmngphmmhjicaaDoor
