/- blocks.wrong: the error of a part, behind another one. -/
import Derived.Test.YtfmngphmmhjicaaDoorDTrim
import Derived.Test.YtfmngphmmhjicaaDoorDSame
namespace Go.Proofs.YtfmngphmmhjicaaDoor
open Go.RowKit Go.Sort

theorem Row.cellAt2 {w : World} {size n : Nat} {v : Value} {xs : List Value} (h : Row w size v n xs) {i : Nat} (hi : i < n) (hs : 0 < size) :
    ∃ g o cap, v = .slice (some ⟨g, o, none⟩) n cap ∧ g < w.heap.size ∧ ∀ j, j < size → w.cell? ⟨g, o + i * size + j, none⟩ = xs[i * size + j]? := by
  obtain ⟨h1, _, a, cap, rfl, _, h2⟩ := h
  rcases h2 with h0 | ⟨g, o, rfl, hc⟩
  · omega
  · have hm : ∀ j, j < size → i * size + j < n * size := fun j hj => by
      have : (i + 1) * size ≤ n * size := Nat.mul_le_mul_right _ hi
      rw [Nat.add_mul] at this; omega
    have e0 := hc (i * size + 0) (hm 0 hs)
    have hx : (xs[i * size + 0]?) = some (xs[i * size + 0]'(by rw [h1]; exact hm 0 hs)) := List.getElem?_eq_getElem _
    refine ⟨g, o, cap, rfl, World.block_lt_of_cell? w _ (e0.trans hx), fun j hj => ?_⟩
    rw [Nat.add_assoc]
    exact hc _ (hm j hj)
theorem Row.form2 {w : World} {size n : Nat} {v : Value} {xs : List Value} (h : Row w size v n xs) : ∃ a cap, v = .slice a n cap := by
  obtain ⟨_, _, a, cap, e, _⟩ := h
  exact ⟨a, cap, e⟩
theorem Parts.at {w : World} {a : Option Addr} {n cap : Nat} {l : List Part} (h : Parts w (.slice a n cap) l) {i : Nat} (hi : i < l.length) :
    ∃ g o, a = some ⟨g, o, none⟩ ∧ g < w.heap.size ∧ w.cell? ⟨g, o + i * 3, none⟩ = some (.string (str l[i].1)) ∧ w.cell? ⟨g, o + i * 3 + 1, none⟩ = some (.int .i64 l[i].2.1) ∧ w.cell? ⟨g, o + i * 3 + 2, none⟩ = some (.int .i64 l[i].2.2) := by
  obtain ⟨g, o, cap', e, hg, hc⟩ := Row.cellAt2 h hi (by omega)
  cases e
  obtain ⟨e0, e1, e2⟩ := pcells_at l i hi
  exact ⟨g, o, rfl, hg, (hc 0 (by omega)).trans e0, (hc 1 (by omega)).trans e1, (hc 2 (by omega)).trans e2⟩

def wrongE (n k : Nat) (b : Int) (x y : Part) : Int :=
  if (x.1.length : Int) ≠ b then 6 else
  if x.2.1 < 1 ∨ b < x.2.1 ∨ x.2.2 < 0 then 7 else
  if x.2.1 < b ∧ k + 1 < n then 6 else
  if (x.1.drop x.2.1.toNat).all (· == 0) = false then 6 else
  if 0 < k ∧ x.2.2 - b ≠ y.2.2 then 6 else
  if 1000 < k * b + x.2.1 then 3 else 0
theorem wrong_cases (n k : Nat) (b : Int) (x y : Part) :
    ((x.1.length : Int) ≠ b ∧ wrongE n k b x y = 6) ∨
    ((x.1.length : Int) = b ∧ (x.2.1 < 1 ∨ b < x.2.1 ∨ x.2.2 < 0) ∧ wrongE n k b x y = 7) ∨
    ((x.1.length : Int) = b ∧ (1 ≤ x.2.1 ∧ x.2.1 ≤ b ∧ 0 ≤ x.2.2) ∧
      ((x.2.1 < b ∧ k + 1 < n ∧ wrongE n k b x y = 6) ∨
       (¬ (x.2.1 < b ∧ k + 1 < n) ∧
        (((x.1.drop x.2.1.toNat).all (· == 0) = false ∧ wrongE n k b x y = 6) ∨
         ((x.1.drop x.2.1.toNat).all (· == 0) = true ∧
          ((0 < k ∧ x.2.2 - b ≠ y.2.2 ∧ wrongE n k b x y = 6) ∨
           (¬ (0 < k ∧ x.2.2 - b ≠ y.2.2) ∧ ((1000 < k * b + x.2.1 ∧ wrongE n k b x y = 3) ∨ (k * b + x.2.1 ≤ 1000 ∧ wrongE n k b x y = 0))))))))) := by
  by_cases h1 : (x.1.length : Int) ≠ b
  · exact .inl ⟨h1, by unfold wrongE; rw [if_pos h1]⟩
  · by_cases h2 : x.2.1 < 1 ∨ b < x.2.1 ∨ x.2.2 < 0
    · exact .inr (.inl ⟨by omega, h2, by unfold wrongE; rw [if_neg h1, if_pos h2]⟩)
    · refine .inr (.inr ⟨by omega, by omega, ?_⟩)
      by_cases h3 : x.2.1 < b ∧ k + 1 < n
      · exact .inl ⟨h3.1, h3.2, by unfold wrongE; rw [if_neg h1, if_neg h2, if_pos h3]⟩
      · refine .inr ⟨h3, ?_⟩
        by_cases h4 : (x.1.drop x.2.1.toNat).all (· == 0) = false
        · exact .inl ⟨h4, by unfold wrongE; rw [if_neg h1, if_neg h2, if_neg h3, if_pos h4]⟩
        · refine .inr ⟨by simpa using h4, ?_⟩
          by_cases h5 : 0 < k ∧ x.2.2 - b ≠ y.2.2
          · exact .inl ⟨h5.1, h5.2, by unfold wrongE; rw [if_neg h1, if_neg h2, if_neg h3, if_neg h4, if_pos h5]⟩
          · refine .inr ⟨h5, ?_⟩
            by_cases h6 : 1000 < k * b + x.2.1
            · exact .inl ⟨h6, by unfold wrongE; rw [if_neg h1, if_neg h2, if_neg h3, if_neg h4, if_neg h5, if_pos h6]⟩
            · exact .inr ⟨by omega, by unfold wrongE; rw [if_neg h1, if_neg h2, if_neg h3, if_neg h4, if_neg h5, if_neg h6]⟩
def noPart : Part := ([], 0, 0)
def wrongL (L : List Part) (b : Int) (k : Nat) : Int := wrongE L.length k b (L.getD k noPart) (L.getD (k - 1) noPart)
/-- the numbers of a part are int64 -/
def okPart (p : Part) : Prop := p.1.length ≤ 1000 ∧ (-9223372036854775808 ≤ p.2.1 ∧ p.2.1 ≤ 9223372036854775807) ∧ (-9223372036854775808 ≤ p.2.2 ∧ p.2.2 ≤ 9223372036854775807)

set_option maxRecDepth 100000 in
set_option maxHeartbeats 4000000 in
theorem wrong_p (v : Value) (L : List Part) (k : Nat) (b : Int) (w : World) (hv : Parts w v L) (hk : k < L.length) (hn : L.length ≤ 1000) (hl : ∀ p ∈ L, okPart p) (hb : 1 ≤ b ∧ b ≤ 16) :
    Calls Tryd.prog 18 #[v, .int .i64 (k : Int), .int .i64 b] w fun e w' => e = .returned (.int .i64 (wrongL L b k)) ∧ Below w.heap.size w w' := by
  obtain ⟨a, cap, rfl⟩ := Row.form2 hv
  obtain ⟨g, o, rfl, hg, hc0, hc1, hc2⟩ := hv.at hk
  have hok := hl L[k] (List.getElem_mem hk)
  have hcs := wrong_cases L.length k b L[k] (L.getD (k - 1) noPart)
  have e9 : wrongL L b k = wrongE L.length k b L[k] (L.getD (k - 1) noPart) := by
    unfold wrongL
    rw [List.getD_eq_getElem?_getD (i := k), List.getElem?_eq_getElem hk]; rfl
  rw [e9]
  clear e9
  generalize L[k] = x at *
  obtain ⟨bs, r, f⟩ := x
  obtain ⟨E, hE⟩ : ∃ E, E = wrongE L.length k b (bs, r, f) (L.getD (k - 1) noPart) := ⟨_, rfl⟩
  rw [← hE] at hcs ⊢
  clear hE
  simp only [okPart] at hok hcs hc0 hc1 hc2
  obtain ⟨hlb, ⟨hr1, hr2⟩, hf1, hf2⟩ := hok
  have hst := size_str bs
  have i1 : (0 : Int) ≤ (k : Int) := by omega
  have i2 : (k : Int) < (L.length : Int) := by omega
  have HB := Lib.hid ((Below.refl w.heap.size w).alloc (Nat.le_refl _) (.cells #[.string (str bs), .int .i64 r, .int .i64 f] 33))
  have HV := Lib.hid hv
  have HL := Lib.hid hl
  clear hl hv
  rcases hcs with ⟨h1, rfl⟩ | ⟨h1, h2, rfl⟩ | ⟨h1, ⟨p1, p2, p3⟩, hcs⟩
  · have t1 : ((bs.length : Int) != b) = true := bne_iff_ne.2 h1
    clear h1
    go_enter Tryd.func18, Tryd.ntmps18
    go_wp2_with fail
    go_ret
    exact ⟨rfl, HB.out⟩
  · have t1 : ((bs.length : Int) != b) = false := by rw [h1]; exact bne_self_eq_false _
    clear h1
    by_cases q1 : r < 1
    · clear h2
      go_enter Tryd.func18, Tryd.ntmps18
      go_wp2_with fail
      go_ret
      exact ⟨rfl, HB.out⟩
    · by_cases q2 : b < r
      · clear h2
        go_enter Tryd.func18, Tryd.ntmps18
        go_wp2_with fail
        go_ret
        exact ⟨rfl, HB.out⟩
      · have q3 : f < 0 := by omega
        clear h2
        go_enter Tryd.func18, Tryd.ntmps18
        go_wp2_with fail
        go_ret
        exact ⟨rfl, HB.out⟩
  · have t1 : ((bs.length : Int) != b) = false := by rw [h1]; exact bne_self_eq_false _
    have q1 : ¬ r < 1 := by omega
    have q2 : ¬ b < r := by omega
    have q3 : ¬ f < 0 := by omega
    obtain ⟨rn, rfl⟩ : ∃ rn : Nat, r = rn := ⟨r.toNat, by omega⟩
    have wn : IntKind.i64.wrap ((L.length : Int) - 1) = (L.length : Int) - 1 := IntWalk.i64_in _ (by omega)
    rw [Int.toNat_natCast] at hcs
    rcases hcs with ⟨h3, h4, rfl⟩ | ⟨h3, hcs⟩
    · have u1 : (k : Int) < (L.length : Int) - 1 := by omega
      clear h4 h1
      go_enter Tryd.func18, Tryd.ntmps18
      go_wp2_with fail
      go_ret
      exact ⟨rfl, HB.out⟩
    · have hdl : (bs.drop rn).length ≤ 1000 := by rw [List.length_drop]; omega
      have KT := Lib.hid (fun w => trim_p (bs.drop rn) hdl w)
      have htn := trim_nil (bs.drop rn)
      have hex := str_drop bs rn bs.length (Nat.le_refl _)
      have hlt0 : w.heap.size < (w.alloc (.cells #[.string (str bs), .int .i64 (rn : Int), .int .i64 f] 33)).heap.size := by simp
      have hz0 : (0 : Int) ≤ (rn : Int) := by omega
      have hz1 : (rn : Int) ≤ (bs.length : Int) := by omega
      generalize trimL (trimR (bs.drop rn)) = m at *
      have htl : (str m).toList = m := by rw [ByteArray.toList_eq]; rfl
      generalize (bs.drop rn).all (· == 0) = z at *
      clear hdl
      have hcase : ¬ (rn : Int) < b ∨ ((rn : Int) < b ∧ ¬ (k : Int) < (L.length : Int) - 1) := by omega
      have H1 := Lib.hid h1
      clear h3 h1 q2
      rcases hcase with u0 | ⟨u0, u1⟩
      all_goals
        rcases hcs with ⟨rfl, rfl⟩ | ⟨rfl, hcs⟩
        · have hm : m ≠ [] := fun h => absurd (htn.1 h) (by simp)
          have t2 : ((str m).toList != []) = true := by rw [htl]; exact bne_iff_ne.2 hm
          have t3 : ((str m).toList == []) = false := by rw [htl]; exact beq_eq_false_iff_ne.2 hm
          clear hm htn htl
          go_enter Tryd.func18, Tryd.ntmps18
          go_wp2_with fail
          refine (KT.out _).mono ?_
          rintro e w1 ⟨rfl, hb1⟩
          go_wp2_with fail
          go_ret
          exact ⟨rfl, next HB.out hb1⟩
        · obtain rfl : m = [] := htn.2 rfl
          have hz : str [] = ⟨#[]⟩ := rfl
          rw [hz] at KT
          clear htn htl hz
          go_enter Tryd.func18, Tryd.ntmps18
          go_wp2_with fail
          refine (KT.out _).mono ?_
          rintro e w1 ⟨rfl, hb1⟩
          have HB1 := Lib.hid (next HB.out hb1)
          have hnew : (w.alloc (.cells #[.string (str bs), .int .i64 (rn : Int), .int .i64 f] 33)).heap[w.heap.size]? = some (.cells #[.string (str bs), .int .i64 (rn : Int), .int .i64 f] 33) := heap_alloc_new w _
          have hnew1 := (hb1.block w.heap.size hlt0).trans hnew
          have d1 : w1.cell? ⟨w.heap.size, 1, none⟩ = some (.int .i64 (rn : Int)) := by simp [World.cell?, hnew1]
          have d2 : w1.cell? ⟨w.heap.size, 2, none⟩ = some (.int .i64 f) := by simp [World.cell?, hnew1]
          have HV1 := Lib.hid (Row.below HV.out HB1.out)
          clear hnew hnew1 hb1 hlt0 HB KT
          have b0 : (0 : Int) ≤ (k : Int) * b := Int.mul_nonneg (by omega) (by omega)
          have b1 : (k : Int) * b ≤ (k : Int) * 16 := Int.mul_le_mul_of_nonneg_left hb.2 (by omega)
          obtain ⟨kb, hkb⟩ : ∃ kb, (k : Int) * b = kb := ⟨_, rfl⟩
          have wk : IntKind.i64.wrap ((k : Int) * b) = kb := (IntWalk.i64_in _ (by omega)).trans hkb
          rw [hkb] at hcs b0 b1
          have wk2 : IntKind.i64.wrap (kb + (rn : Int)) = kb + (rn : Int) := IntWalk.i64_in _ (by omega)
          have rn0 := hr1
          clear hkb
          have gd1 := fun d os => cell_regrown d1 d os
          have gd2 := fun d os => cell_regrown d2 d os
          by_cases hk0 : k = 0
          case' pos =>
            have hcs2 : (1000 < kb + (rn : Int) ∧ E = 3) ∨ (kb + (rn : Int) ≤ 1000 ∧ E = 0) := by
              rcases hcs with ⟨h, _⟩ | ⟨_, h⟩
              · omega
              · exact h
            have t0 : ¬ ((0 : Int) < (k : Int)) := by omega
            have t0d : decide ((0 : Int) < (k : Int)) = false := decide_eq_false (by omega)
            have t0n : decide (0 < k) = false := decide_eq_false (by omega)
            clear hk0 hcs
            go_wp2_with fail
            refine wp_region_quiet_below (by kernel_rfl) (by kernel_rfl) ?_
            repeat (go_big_quiet_step (fail))
            refine wpQuiet_nil ?_
            intro _ hw'
            obtain ⟨⟨dq, osq⟩, hw''⟩ := hw'
            subst hw''
            clear t0 t0d t0n
          case' neg =>
            obtain ⟨j, hj⟩ : ∃ j, j + 1 = k := ⟨k - 1, by omega⟩
            have hjl : j < L.length := by omega
            obtain ⟨g2, o2, e2, hg2, _, _, hd1⟩ := Parts.at HV1.out hjl
            cases e2
            have e7 : (L.getD (k - 1) noPart).2.2 = L[j].2.2 := by
              rw [← hj, Nat.add_sub_cancel, List.getD_eq_getElem?_getD, List.getElem?_eq_getElem hjl]; rfl
            rw [e7] at hcs
            have hyk := (HL.out L[j] (List.getElem_mem hjl)).2.2
            clear e7
            generalize L[j].2.2 = y at *
            have t0 : ((0 : Int) < (k : Int)) := by omega
            have t0d : decide ((0 : Int) < (k : Int)) = true := decide_eq_true (by omega)
            have t0n : decide (0 < k) = true := decide_eq_true (by omega)
            have wi : IntKind.i64.wrap ((k : Int) - 1) = (j : Int) := (IntWalk.i64_in _ (by omega)).trans (by omega)
            have k1 : (0 : Int) ≤ (j : Int) := by omega
            have k2 : (j : Int) < (L.length : Int) := by omega
            obtain ⟨q, hq⟩ : ∃ q, IntKind.i64.wrap (f - y) = q := ⟨_, rfl⟩
            have hqb : q = b ↔ f - b = y := by
              rw [← hq, IntKind.wrap_i64]; omega
            have gd3 := fun d os => cell_regrown hd1 d os
            have HJ := Lib.hid hj
            clear hk0 hj hd1
            rcases hcs with ⟨_, h5, rfl⟩ | ⟨h5, hcs2⟩
            case' inl =>
              have t6 : (q != b) = true := bne_iff_ne.2 (fun h => h5 (hqb.1 h))
              clear hqb h5
              go_wp2_with fail
              refine wp_region_quiet_below (by kernel_rfl) (by kernel_rfl) ?_
              repeat (go_big_quiet_step (fail))
              refine wpQuiet_nil ?_
              intro _ hw'
              obtain ⟨⟨dq, osq⟩, hw''⟩ := hw'
              subst hw''
              have hgr := below_regrown w1 dq osq
              clear gd1 gd2 gd3
              go_wp2_with fail
              go_ret
              exact ⟨rfl, next HB1.out hgr⟩
            case' inr =>
              have t6 : (q != b) = false := by rw [hqb.2 (by omega)]; exact bne_self_eq_false _
              clear hqb h5
              go_wp2_with fail
              refine wp_region_quiet_below (by kernel_rfl) (by kernel_rfl) ?_
              repeat (go_big_quiet_step (fail))
              refine wpQuiet_nil ?_
              intro _ hw'
              obtain ⟨⟨dq, osq⟩, hw''⟩ := hw'
              subst hw''
              clear t0 t0d t0n t6 wi k1 k2 hq gd3 hyk
          all_goals
            have hgr := below_regrown w1 dq osq
            have e1 := (hgr.cell (p := ⟨w.heap.size, 1, none⟩) (World.block_lt_of_cell? w1 _ d1)).trans d1
            have HB2 := Lib.hid (next HB1.out hgr)
            generalize grow (redrawn w1 dq) osq = w2 at *
            clear hgr gd1 gd2 d1 d2
            rcases hcs2 with ⟨h6, rfl⟩ | ⟨h6, rfl⟩
            · have t7 : 1000 < kb + (rn : Int) := h6
              go_wp2_with fail
              go_ret
              exact ⟨rfl, HB2.out⟩
            · have t7 : ¬ 1000 < kb + (rn : Int) := by omega
              clear h6
              go_wp2_with fail
              go_ret
              exact ⟨rfl, HB2.out⟩
end Go.Proofs.YtfmngphmmhjicaaDoor
