/- Region of an arena. -/
import Derived.Test.YtomjefplacgoeaaDoorArRegW
namespace Go.Proofs.YtomjefplacgoeaaDoor
open Go.RowKit

theorem after_grow1 {W W3 : World} {A : Nat} {o o1 : Obj} {rv : Value} (ha : W.heap[A]? = some o) (hn : A ∉ blockOf rv) (hgrow : (W.alloc o1).grownBy W3 rv.ownBlock) : W3.heap[A]? = some o := by
  have hA : A < W.heap.size := (Array.getElem?_eq_some_iff.1 ha).1
  rw [hgrow.block A (by simp; omega) (fun e => hn (by simp [blockOf, ← e])), Below.heap_alloc _ _ _ hA]
  exact ha

section
variable {W : World} {base : Nat} {F : List Nat} {A : Nat} {cs : List Nat} {rs : List Reg} {ev : List Ev}
set_option maxRecDepth 100000 in
set_option maxHeartbeats 4000000 in
theorem region_p (nm : List UInt8) (hnm : nm.length ≤ 1000000000) (k : Int) (h : ArenaAt W base F A cs rs ev) (hok : RegsOk cs.length rs) (hbase : base ≤ W.heap.size) :
    Calls Tryd.prog 17 #[.pointer (some ⟨A, 0, none⟩), .string (str nm), .int .i64 k] W (RegionP W base F A cs rs ev nm k) := by
  obtain ⟨i0, hi, hz0, hz1, hz2⟩ := info_parts infoReg
  have KN := Lib.hid (none_p h)
  have KM := Lib.hid (name_p nm hnm W)
  have KP := Lib.hid (fun (w' : World) (hb : Below W.heap.size W w') => place_p nm (h.below hb))
  have BAD := Lib.hid (fun (w' : World) (hb : Below W.heap.size W w') (E : Int) (he : regE cs.length rs nm k = E) (h0 : E ≠ 0) => RegionP.bad h hb he h0)
  have HH := Lib.hid h
  have HOK := Lib.hid hok
  have hER := endR_in hok
  obtain ⟨pv, rv, C, PL, h⟩ := h
  have HI := Lib.hid h
  have hlm := h.lc.2.1
  have hlr := h.lr
  clear h hok
  go_enter Tryd.func17, Tryd.ntmps17
  go_wp2_with fail
  refine KN.out.mono ?_
  rintro e w1 ⟨rfl, rfl⟩
  go_wp2_with fail
  refine KM.out.mono ?_
  rintro e w1 ⟨rfl, hb1⟩
  have HB1 := Lib.hid hb1
  cases hnb : nameB nm with
  | false =>
    have HE := Lib.hid (show regE cs.length rs nm k = 6 by unfold regE; rw [if_pos hnb])
    clear hb1
    go_wp2_with fail
    go_ret2
    exact BAD.out _ HB1.out 6 HE.out (by decide)
  | true =>
    by_cases h1 : k < 1
    · have HE := Lib.hid (show regE cs.length rs nm k = 7 by unfold regE; rw [if_neg (by rw [hnb]; decide), if_pos h1])
      clear hb1
      go_wp2_with fail
      go_ret2
      exact BAD.out _ HB1.out 7 HE.out (by decide)
    · obtain ⟨c0, c1, c2, c3, c4⟩ := (HI.out.below hb1).cells
      have KP1 := Lib.hid (KP.out _ hb1)
      clear hb1 c0 c1
      go_wp2_with fail
      refine KP1.out.mono ?_
      rintro e w2 ⟨rfl, hb2⟩
      have hb3 := next HB1.out hb2
      have HB3 := Lib.hid hb3
      clear hb2 c2 c3 c4
      obtain ⟨c0, c1, c2, c3, c4⟩ := (HI.out.below hb3).cells
      clear c0 c1 c4
      by_cases h2 : 0 ≤ idxR rs nm
      · have HE := Lib.hid (show regE cs.length rs nm k = 8 by unfold regE; rw [if_neg (by rw [hnb]; decide), if_neg (by omega), if_pos h2])
        generalize idxR rs nm = I at *
        clear hb3 c2 c3
        go_wp2_with fail
        go_ret2
        exact BAD.out _ HB3.out 8 HE.out (by decide)
      · have HX := Lib.hid h2
        have h2' : ¬ (0 : Int) ≤ idxR rs nm := h2
        have hregs : Regs w2 rv rs := Row.of_owns (HI.out.below hb3).r
        have hregs2 := hregs
        obtain ⟨ra, rcap, rfl⟩ := Row.form2 hregs
        by_cases h3 : rs.length = 64
        · have HE := Lib.hid (show regE cs.length rs nm k = 3 by unfold regE; rw [if_neg (by rw [hnb]; decide), if_neg (by omega), if_neg HX.out, if_pos h3])
          have t3 : ((rs.length : Int) == 64) = true := beq_iff_eq.2 (by omega)
          generalize idxR rs nm = I at *
          clear hb3 c2 hregs hregs2 h3
          go_wp2_with fail
          go_ret2
          exact BAD.out _ HB3.out 3 HE.out (by decide)
        · have t3 : ((rs.length : Int) == 64) = false := beq_eq_false_iff_ne.2 (by omega)
          have hE : regE cs.length rs nm k = if (cs.length : Int) - endR rs < k then 5 else 0 := by
            unfold regE; rw [if_neg (by rw [hnb]; decide), if_neg (by omega), if_neg HX.out, if_neg h3]
          have HE0 := Lib.hid hE
          have H3 := Lib.hid h3
          clear hE h3
          generalize idxR rs nm = I at *
          have wn : IntKind.i64.wrap ((cs.length : Int) - endR rs) = (cs.length : Int) - endR rs := IntWalk.i64_in _ (by omega)
          by_cases h4 : (cs.length : Int) - endR rs < k
          · have HE := Lib.hid (HE0.out.trans (if_pos h4))
            by_cases h5 : rs.length = 0
            · have e0 : endR rs = 0 := by rw [List.length_eq_zero_iff.1 h5]; rfl
              rw [e0] at h4 wn
              have t5 : ¬ (0 : Int) < (rs.length : Int) := by omega
              clear hregs hregs2 h5 hb3 e0
              go_wp2_with fail
              go_ret2
              exact BAD.out _ HB3.out 5 HE.out (by decide)
            · have hlt : rs.length - 1 < rs.length := by omega
              have t5 : (0 : Int) < (rs.length : Int) := by omega
              obtain ⟨g, o, hga, hg, d0, d1, d2⟩ := Regs.at hregs hlt
              subst hga
              have e1 := endR_at hlt
              have wi : IntKind.i64.wrap ((rs.length : Int) - 1) = ((rs.length - 1 : Nat) : Int) := by rw [IntWalk.i64_in _ (by omega)]; omega
              have we : IntKind.i64.wrap (rs[rs.length - 1].2.1 + rs[rs.length - 1].2.2) = endR rs := by rw [← e1]; exact IntWalk.i64_in _ (by omega)
              have i1 : (0 : Int) ≤ ((rs.length - 1 : Nat) : Int) := by omega
              have i2 : ((rs.length - 1 : Nat) : Int) < (rs.length : Int) := by omega
              generalize rs.length - 1 = q at *
              generalize endR rs = E at *
              have q1 := fun d os => cell_regrown d1 d os
              have q2 := fun d os => cell_regrown d2 d os
              have q3 := fun d os => cell_regrown c3 d os
              have c2' : ∀ d os, _ := fun d os => cell_regrown c2 d os
              clear hregs hregs2 h5 hb3 d0 d1 d2 hg e1
              go_wp2_with fail
              refine wp_region_quiet_below (by kernel_rfl) (by kernel_rfl) ?_
              repeat (go_big_quiet_step (fail))
              refine wpQuiet_nil ?_
              intro _ hw'
              obtain ⟨⟨dq, osq⟩, hw''⟩ := hw'
              subst hw''
              have c2'' := c2' dq osq
              have HB4 := Lib.hid (next HB3.out (below_regrown _ dq osq))
              clear q1 q2 q3 c2 c3 c2'
              go_wp2_with fail
              go_ret2
              exact BAD.out _ HB4.out 5 HE.out (by decide)
          · have HE := Lib.hid (HE0.out.trans (if_neg h4))
            have RB := Lib.hid (regB_ok HE.out)
            by_cases h5 : rs.length = 0
            · have e0 : endR rs = 0 := by rw [List.length_eq_zero_iff.1 h5]; rfl
              rw [e0] at h4 wn RB
              have t5 : ¬ (0 : Int) < (rs.length : Int) := by omega
              have HB4 := HB3
              have hsz : W.heap.size ≤ w2.heap.size := HB4.out.size
              have HI4 := Lib.hid (HI.out.below hb3)
              have HO := Lib.hid HI4.out.r
              have HA := Lib.hid HI4.out.a
              have HAR := Lib.hid (show A ∉ blockOf (.slice ra rs.length rcap) from fun hm => (HI4.out.parts.2.2.2.1 A hm).1 rfl)
              have f3 := HI4.out.free 3
              clear hregs hregs2 h5 hb3 e0
              go_wp2_with (at_builtin; refine wpList_append_lies _ rfl _ _ _ rfl base 43 i0 _ 3 32 Tryd.underlying46 hi hz0 hz1 hz2 rfl (by decide) (.slice ra rs.length rcap) rs.length (rcells rs) rfl (HO.out.alloc _) ⟨w2.heap.size, 0, none⟩ 1 1 (rcell (nm, 0, k)) rfl rfl (World.news_of_block (cs := (rcell (nm, 0, k)).toArray) (t := 43) (fr := (0, 0)) (heap_alloc_new w2 _)) (by simp [rcell, Value.oneCell']) (by decide) (by unfold maxLen; omega) (by omega) (by simp; omega) (w2.heap.size + 1) (by simp) ?_; intro g9 cap9 w9 hown9 hgrow9 hat9 hlt9; have hA9 := after_grow1 HA.out HAR.out hgrow9; have e1 := free_in (i := 3) hA9; have e2 := cell_in (i := 3) hA9 rfl; clear hA9)
              obtain ⟨hI9, hF9⟩ := HI4.out.regioned (by have := HB4.out.size; omega) (nm, 0, k) (by have := H3.out; omega) hown9 hgrow9 hat9 hlt9
              have HI9 := Lib.hid hI9
              have HF9 := Lib.hid hF9
              clear hI9 hF9 hown9 hgrow9 hat9 hlt9
              go_wp2_with fail
              go_ret2
              refine show RegionP _ _ _ _ _ _ _ _ _ _ _ from ⟨?_, ?_⟩
              · rw [RB.out.1, HE.out]; rfl
              · rw [RB.out.2]
                exact ⟨_, ⟨_, _, _, _, HI9.out⟩, fun j hj => by
                  have := HB4.out.size
                  rcases List.mem_append.1 hj with hj | hj
                  · exact .inl hj
                  · rw [List.mem_singleton] at hj; right; omega, Fr.trans (Fr.of_below F HB4.out) HF9.out (fun j hj => .inl hj)⟩
            · have hlt : rs.length - 1 < rs.length := by omega
              have t5 : (0 : Int) < (rs.length : Int) := by omega
              obtain ⟨g, o, hga, hg, d0, d1, d2⟩ := Regs.at hregs hlt
              subst hga
              have e1 := endR_at hlt
              have wi : IntKind.i64.wrap ((rs.length : Int) - 1) = ((rs.length - 1 : Nat) : Int) := by rw [IntWalk.i64_in _ (by omega)]; omega
              have we : IntKind.i64.wrap (rs[rs.length - 1].2.1 + rs[rs.length - 1].2.2) = endR rs := by rw [← e1]; exact IntWalk.i64_in _ (by omega)
              have i1 : (0 : Int) ≤ ((rs.length - 1 : Nat) : Int) := by omega
              have i2 : ((rs.length - 1 : Nat) : Int) < (rs.length : Int) := by omega
              generalize rs.length - 1 = q at *
              generalize hEE : endR rs = E at *
              have HEE := Lib.hid hEE
              have q1 := fun d os => cell_regrown d1 d os
              have q2 := fun d os => cell_regrown d2 d os
              have q3 := fun d os => cell_regrown c3 d os
              have c2' : ∀ d os, _ := fun d os => cell_regrown c2 d os
              clear hregs hregs2 h5 hb3 d0 d1 d2 hg e1 hEE
              go_wp2_with fail
              refine wp_region_quiet_below (by kernel_rfl) (by kernel_rfl) ?_
              repeat (go_big_quiet_step (fail))
              refine wpQuiet_nil ?_
              intro _ hw'
              obtain ⟨⟨dq, osq⟩, hw''⟩ := hw'
              subst hw''
              have c2'' := c2' dq osq
              have c3'' := q3 dq osq
              have HB4 := Lib.hid (next HB3.out (below_regrown _ dq osq))
              generalize Go.Sort.grow (redrawn w2 dq) osq = w4 at *
              have hsz : W.heap.size ≤ w4.heap.size := HB4.out.size
              have HI4 := Lib.hid (HI.out.below HB4.out)
              have HO := Lib.hid HI4.out.r
              have HA := Lib.hid HI4.out.a
              have HAR := Lib.hid (show A ∉ blockOf (.slice (some ⟨g, o, none⟩) rs.length rcap) from fun hm => (HI4.out.parts.2.2.2.1 A hm).1 rfl)
              have f3 := HI4.out.free 3
              clear q1 q2 q3 c2 c3 c2'
              go_wp2_with (at_builtin; refine wpList_append_lies _ rfl _ _ _ rfl base 43 i0 _ 3 32 Tryd.underlying46 hi hz0 hz1 hz2 rfl (by decide) (.slice (some ⟨g, o, none⟩) rs.length rcap) rs.length (rcells rs) rfl (HO.out.alloc _) ⟨w4.heap.size, 0, none⟩ 1 1 (rcell (nm, E, k)) rfl rfl (World.news_of_block (cs := (rcell (nm, E, k)).toArray) (t := 43) (fr := (0, 0)) (heap_alloc_new w4 _)) (by simp [rcell, Value.oneCell']) (by decide) (by unfold maxLen; omega) (by omega) (by simp; omega) (w4.heap.size + 1) (by simp) ?_; intro g9 cap9 w9 hown9 hgrow9 hat9 hlt9; have hA9 := after_grow1 HA.out HAR.out hgrow9; have e1 := free_in (i := 3) hA9; have e2 := cell_in (i := 3) hA9 rfl; clear hA9)
              obtain ⟨hI9, hF9⟩ := HI4.out.regioned (by have := HB4.out.size; omega) (nm, E, k) (by have := H3.out; omega) hown9 hgrow9 hat9 hlt9
              have HI9 := Lib.hid hI9
              have HF9 := Lib.hid hF9
              clear hI9 hF9 hown9 hgrow9 hat9 hlt9
              go_wp2_with fail
              go_ret2
              refine show RegionP _ _ _ _ _ _ _ _ _ _ _ from ⟨?_, ?_⟩
              · rw [RB.out.1, HE.out]; rfl
              · rw [RB.out.2]
                exact ⟨_, ⟨_, _, _, _, HI9.out⟩, fun j hj => by
                  have := HB4.out.size
                  rcases List.mem_append.1 hj with hj | hj
                  · exact .inl hj
                  · rw [List.mem_singleton] at hj; right; omega, Fr.trans (Fr.of_below F HB4.out) HF9.out (fun j hj => .inl hj)⟩
end
end Go.Proofs.YtomjefplacgoeaaDoor
