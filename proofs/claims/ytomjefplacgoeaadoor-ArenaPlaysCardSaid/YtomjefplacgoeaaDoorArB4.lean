/- The reference's arena: Find, Region. Printed by tools/gen_arb3.py. -/
import Derived.Test.YtomjefplacgoeaaDoorArB3
namespace Go.Proofs.YtomjefplacgoeaaDoor
open Go.RowKit Go.Sort

section
variable {W : World} {base : Nat} {F : List Nat} {A : Nat} {cs : List Nat} {rs : List Reg} {ev : List Ev} {rv vv : Value} {C : Nat}
theorem RefIn.below {W' : World} (h : RefIn W base F A cs rs ev rv vv C) (hb : Below W.heap.size W W') : RefIn W' base F A cs rs ev rv vv C := by
  have hm : ∀ k ∈ A :: C :: (blockOf rv ++ blockOf vv), W'.heap[k]? = W.heap[k]? := fun k hkm => hb.block k (h.own k hkm).2.2
  exact ⟨(hm A (by simp)).trans h.a, (hm C (by simp)).trans h.c, owns_keep h.r (fun k hk => hm k (by simp [hk])), owns_keep h.v (fun k hk => hm k (by simp [hk])),
    h.nd, fun k hkm => ⟨(h.own k hkm).1, (h.own k hkm).2.1, Nat.lt_of_lt_of_le (h.own k hkm).2.2 hb.size⟩, h.lc, h.le, h.lr⟩
theorem RefAt.below {W' : World} (h : RefAt W base F A cs rs ev) (hb : Below W.heap.size W W') : RefAt W' base F A cs rs ev := by
  obtain ⟨rv, vv, C, h⟩ := h
  exact ⟨rv, vv, C, h.below hb⟩
theorem RNow.of_below {W' : World} (h : RefAt W base F A cs rs ev) (hb : Below W.heap.size W W') : RNow W base F A cs rs ev W' := ⟨F, h.below hb, fun _ hj => .inl hj, Fr.of_below _ hb⟩
theorem rfind_fin (r : Reg) (x : Int) (w2 : World) (a : Act) (h0 : w2.cell? ⟨W.heap.size, 0, none⟩ = some (.string (str r.1))) (h1 : w2.cell? ⟨W.heap.size, 1, none⟩ = some (.int .i64 r.2.1)) (h2 : w2.cell? ⟨W.heap.size, 2, none⟩ = some (.int .i64 r.2.2))
    (hB : Below W.heap.size W w2) (h4 : a.tmps[4]?.getD undef = .pointer (some ⟨W.heap.size, 0, none⟩)) (h5 : a.tmps[5]?.getD undef = .int .i64 x) (hd : a.defers = []) :
    bodyPost Tryd.prog Tryd.f44 (FindP W r x) .ret a w2 :=
  bodyPost_ret (v := .tuple #[.agg #[.string (str r.1), .int .i64 r.2.1, .int .i64 r.2.2], .int .i64 x]) (by simp [results, Tryd.results44, go_sem, h4, h5, h0, h1, h2]) hd ⟨rfl, hB⟩
set_option maxRecDepth 100000 in
set_option maxHeartbeats 2000000 in
theorem rfind_p (nm : List UInt8) (h : RefAt W base F A cs rs ev) :
    Calls Tryd.prog 44 #[.pointer (some ⟨A, 0, none⟩), .string (str nm)] W (FindP W (findV rs nm) (findE rs nm)) := by
  have HB0 := Lib.hid ((Below.refl W.heap.size W).alloc (Nat.le_refl _) (.cells #[.string ⟨#[]⟩, .int .i64 0, .int .i64 0] 43))
  have h0 := h.below HB0.out
  have hz1 : (W.alloc (.cells #[.string ⟨#[]⟩, .int .i64 0, .int .i64 0] 43)).heap[W.heap.size]? = some (.cells #[.string ⟨#[]⟩, .int .i64 0, .int .i64 0] 43) := heap_alloc_new _ _
  have f0 := free_in (i := 0) hz1
  have f1 := free_in (i := 1) hz1
  have f2 := free_in (i := 2) hz1
  have g0 := cell_in (i := 0) hz1 rfl
  have g1 := cell_in (i := 1) hz1 rfl
  have g2 := cell_in (i := 2) hz1 rfl
  have HZ := Lib.hid hz1
  have KN := Lib.hid (rnone_p h0)
  have hlA : A < W.heap.size := by obtain ⟨_, _, _, h⟩ := h; exact h.lt
  obtain ⟨rv, vv, C, hI⟩ := h0
  obtain ⟨c0, c1, c2⟩ := hI.cells
  have hregs : Regs (W.alloc (.cells #[.string ⟨#[]⟩, .int .i64 0, .int .i64 0] 43)) rv rs := Row.of_owns hI.r
  obtain ⟨ra, rcap, hre⟩ := hI.lenR
  subst hre
  have hl64 := hI.lr
  have HR := Lib.hid hregs
  have hm1 : rs.length ≤ 9223372036854775807 := by omega
  clear h hI c0 c2 hregs hz1
  go_enter Tryd.func44, Tryd.ntmps44
  go_wp2_with fail
  refine KN.out.mono ?_
  rintro e w1 ⟨rfl, rfl⟩
  go_wp2_with fail
  go_loopw [6] (fun iv wr => ∃ k : Nat, k ≤ rs.length ∧ iv = .int .i64 (k : Nat) ∧ (∀ j (h : j < rs.length), j < k → rs[j].1 ≠ nm) ∧ W.alloc (.cells #[.string ⟨#[]⟩, .int .i64 0, .int .i64 0] 43) = wr) (fun iv _ => rs.length - (intOf iv).toNat)
  case atStart => exact ⟨0, by omega, rfl, fun j _ h => absurd h (by omega), rfl⟩
  case round =>
    obtain ⟨k, hk, rfl, hno, rfl⟩ := hrel
    have HE := Lib.hid hno
    clear hno
    by_cases hlt : k < rs.length
    · obtain ⟨g, o, hga, hg, hc0, hc1, hc2⟩ := Regs.at HR.out hlt
      subst hga
      have i1 : (0 : Int) ≤ (k : Int) := by omega
      have i2 : (k : Int) < (rs.length : Int) := by omega
      have wi1 : IntKind.i64.wrap ((k : Int) + 1) = (k : Int) + 1 := IntWalk.i64_in _ (by omega)
      by_cases hpq : rs[k].1 = nm
      · have hI := idxR_hit hlt hpq HE.out
        have e1 : findV rs nm = rs[k] := by unfold findV; rw [hI, if_pos (by omega), Int.toNat_natCast, List.getD_eq_getElem?_getD, List.getElem?_eq_getElem hlt]; rfl
        have e2 : findE rs nm = 0 := by unfold findE; rw [hI, if_pos (by omega)]
        have E1 := Lib.hid e1
        have E2 := Lib.hid e2
        have ts : ((str rs[k].1).toList == (str nm).toList) = true := by rw [eq_str]; exact decide_eq_true hpq
        clear hI e1 e2 hpq
        go_wp2_with fail
        rw [E1.out, E2.out]
        exact rfind_fin rs[k] 0 _ _ (cell_in (heap_alloc_new _ _) rfl) (cell_in (heap_alloc_new _ _) rfl) (cell_in (heap_alloc_new _ _) rfl) ((Below.refl _ _).alloc (Nat.le_refl _) _) rfl rfl rfl
      · have HPQ := Lib.hid hpq
        have ts : ((str rs[k].1).toList == (str nm).toList) = false := by rw [eq_str]; exact decide_eq_false hpq
        clear hpq
        go_wp2_with fail
        exact ⟨⟨k + 1, by omega, by go_num, fun j hj hjk => by
          by_cases e : j = k
          · subst e; exact HPQ.out
          · exact HE.out j hj (by omega), by first | rfl | trivial⟩, by simp [intOf]; omega⟩
    · obtain rfl : rs.length = k := by omega
      have i1 : ¬ ((rs.length : Int) < (rs.length : Int)) := by omega
      have hI := idxR_miss (nm := nm) (fun j hj => HE.out j hj hj)
      have e1 : findV rs nm = ([], 0, 0) := by unfold findV; rw [hI, if_neg (by omega)]
      have e2 : findE rs nm = 4 := by unfold findE; rw [hI, if_neg (by omega)]
      have E1 := Lib.hid e1
      have E2 := Lib.hid e2
      clear hI e1 e2
      go_wp2_with fail
      rw [E1.out, E2.out]
      exact rfind_fin ([], 0, 0) 4 _ _ (cell_in (heap_alloc_new _ _) rfl) (cell_in (heap_alloc_new _ _) rfl) (cell_in (heap_alloc_new _ _) rfl) ((Below.refl _ _).alloc (Nat.le_refl _) _) rfl rfl rfl
theorem endR_take {rs : List Reg} {i : Nat} (h : i < rs.length) : endR (rs.take (i + 1)) = rs[i].2.1 + rs[i].2.2 := by
  unfold endR
  rw [List.take_succ_eq_append_getElem h, List.getLast?_append]
  rfl
def RRegionP (W : World) (base : Nat) (F : List Nat) (A : Nat) (cs : List Nat) (rs : List Reg) (ev : List Ev) (nm : List UInt8) (k : Int) (e : Ending) (w' : World) : Prop :=
  e = .returned (.tuple #[.int .i64 (regB cs.length rs nm k), .int .i64 (regE cs.length rs nm k)]) ∧ RNow W base F A cs (regV cs.length rs nm k) ev w'
theorem RRegionP.bad {w' : World} (h : RefAt W base F A cs rs ev) (hb : Below W.heap.size W w') {nm : List UInt8} {k E : Int} (he : regE cs.length rs nm k = E) (h0 : E ≠ 0) : RRegionP W base F A cs rs ev nm k (.returned (.tuple #[.int .i64 0, .int .i64 E])) w' := by
  have hne : regE cs.length rs nm k ≠ 0 := by rw [he]; exact h0
  obtain ⟨e1, e2⟩ := regB_bad hne
  unfold RRegionP
  rw [e1, e2, he]
  exact ⟨rfl, RNow.of_below h hb⟩
set_option maxRecDepth 100000 in
set_option maxHeartbeats 2000000 in
theorem rregion_p (nm : List UInt8) (hnm : nm.length ≤ 1000000000) (k : Int) (h : RefAt W base F A cs rs ev) (hok : RegsOk cs.length rs) (hbase : base ≤ W.heap.size) :
    Calls Tryd.prog 43 #[.pointer (some ⟨A, 0, none⟩), .string (str nm), .int .i64 k] W (RRegionP W base F A cs rs ev nm k) := by
  have KN := Lib.hid (rnone_p h)
  have KM := Lib.hid (rname_p nm hnm W)
  have HH := Lib.hid h
  have BAD := Lib.hid (fun w' (hb : Below W.heap.size W w') (E : Int) (he : regE cs.length rs nm k = E) (h0 : E ≠ 0) => RRegionP.bad (nm := nm) (k := k) h hb he h0)
  obtain ⟨rv, vv, C, h⟩ := h
  obtain ⟨c0, c1, c2⟩ := h.cells
  obtain ⟨ra, rcap, hre⟩ := h.lenR
  subst hre
  have hlr := h.lr
  have hlc := h.lc.2.1
  have HI := Lib.hid h
  have HOK := Lib.hid hok
  clear h c2 c0 c1 hok
  by_cases h1 : nameB nm = true
  · have HN := Lib.hid (show ¬ nameB nm = false by rw [h1]; decide)
    rw [h1] at KM
    clear h1
    by_cases h2 : k < 1
    · have HE := Lib.hid (show regE cs.length rs nm k = 7 by unfold regE; rw [if_neg HN.out, if_pos h2])
      go_enter Tryd.func43, Tryd.ntmps43
      go_wp2_with fail
      refine KN.out.mono ?_
      rintro e w1 ⟨rfl, rfl⟩
      go_wp2_with fail
      refine KM.out.mono ?_
      rintro e w1 ⟨rfl, rfl⟩
      go_wp2_with fail
      go_ret2
      exact BAD.out _ (Below.refl _ _) 7 HE.out (by decide)
    · have HK := Lib.hid (Int.not_lt.1 h2)
      go_enter Tryd.func43, Tryd.ntmps43
      go_wp2_with fail
      refine KN.out.mono ?_
      rintro e w1 ⟨rfl, rfl⟩
      go_wp2_with fail
      refine KM.out.mono ?_
      rintro e w1 ⟨rfl, rfl⟩
      go_wp2_with fail
      go_loopw [8, 9] (fun bv iv wr => ∃ i : Nat, i ≤ rs.length ∧ iv = .int .i64 (i : Nat) ∧ bv = .int .i64 (endR (rs.take i)) ∧ (∀ j (h : j < rs.length), j < i → rs[j].1 ≠ nm) ∧ Below W.heap.size W wr) (fun _ iv _ => rs.length - (intOf iv).toNat)
      case atStart => exact ⟨0, by omega, rfl, rfl, fun j _ h => absurd h (by omega), Below.refl _ _⟩
      case round =>
        obtain ⟨i, hi, rfl, rfl, hno, hB⟩ := hrel
        have HE := Lib.hid hno
        have HB := Lib.hid hB
        have hI := HI.out.below hB
        obtain ⟨c0, c1, c2⟩ := hI.cells
        clear hno hB c2
        by_cases hlt : i < rs.length
        · obtain ⟨g, o, hga, hg, hc0, hc1, hc2⟩ := Regs.at (Row.of_owns hI.r) hlt
          subst hga
          have i1 : (0 : Int) ≤ (i : Int) := by omega
          have i2 : (i : Int) < (rs.length : Int) := by omega
          have wi1 : IntKind.i64.wrap ((i : Int) + 1) = (i : Int) + 1 := IntWalk.i64_in _ (by omega)
          clear hI c0
          by_cases hpq : rs[i].1 = nm
          · have hId := idxR_hit hlt hpq HE.out
            have HEE := Lib.hid (show regE cs.length rs nm k = 8 by unfold regE; rw [if_neg HN.out, if_neg (Int.not_lt.2 HK.out), hId, if_pos (by omega)])
            have ts : ((str rs[i].1).toList == (str nm).toList) = true := by rw [eq_str]; exact decide_eq_true hpq
            clear hId hpq
            generalize endR (rs.take i) = E at *
            go_wp2_with fail
            go_ret2
            exact BAD.out _ HB.out 8 HEE.out (by decide)
          · have HPQ := Lib.hid hpq
            have ts : ((str rs[i].1).toList == (str nm).toList) = false := by rw [eq_str]; exact decide_eq_false hpq
            have hb := HOK.out _ (List.getElem_mem hlt)
            have HS := Lib.hid (endR_take hlt)
            have ws : IntKind.i64.wrap (rs[i].2.1 + rs[i].2.2) = rs[i].2.1 + rs[i].2.2 := IntWalk.i64_in _ (by omega)
            generalize endR (rs.take i) = E at *
            have q0 := fun d os => cell_regrown c1 d os
            have q1 := fun d os => cell_regrown hc1 d os
            have q2 := fun d os => cell_regrown hc2 d os
            clear hpq hb
            go_wp2_with fail
            refine wp_region_quiet_below (by kernel_rfl) (by kernel_rfl) ?_
            repeat (go_big_quiet_step (fail))
            refine wpQuiet_nil ?_
            intro _ hw'
            obtain ⟨⟨dq, osq⟩, hw''⟩ := hw'
            subst hw''
            have HB2 := Lib.hid (next HB.out (below_regrown _ dq osq))
            clear q0 q1 q2 c1 hc0 hc1 hc2
            go_wp2_with fail
            exact ⟨⟨i + 1, by omega, by go_num, by rw [HS.out], fun j hj hjk => by
              by_cases e : j = i
              · subst e; exact HPQ.out
              · exact HE.out j hj (by omega), HB2.out⟩, by simp [intOf]; omega⟩
        · obtain rfl : rs.length = i := by omega
          have i1 : ¬ ((rs.length : Int) < (rs.length : Int)) := by omega
          rw [List.take_of_length_le (Nat.le_refl _)]
          have hId := idxR_miss (nm := nm) (fun j hj => HE.out j hj hj)
          have HI4 := Lib.hid hI
          obtain ⟨hE0, hEm⟩ := endR_in HOK.out
          have HEI := Lib.hid (show ∀ (X : Int), (if rs.length = 64 then 3 else if (cs.length : Int) - endR rs < k then 5 else 0) = X → regE cs.length rs nm k = X from fun X hX => by unfold regE; rw [if_neg HN.out, if_neg (Int.not_lt.2 HK.out), hId, if_neg (by omega)]; exact hX)
          clear hI hId
          by_cases h4 : rs.length = 64
          · have HEE := Lib.hid (HEI.out 3 (if_pos h4))
            have t4 : (64 : Int) ≤ (rs.length : Int) := by omega
            generalize endR rs = E at *
            clear h4
            go_wp2_with fail
            go_ret2
            exact BAD.out _ HB.out 3 HEE.out (by decide)
          · have t4 : decide ((64 : Int) ≤ (rs.length : Int)) = false := decide_eq_false (by omega)
            have wn : IntKind.i64.wrap ((cs.length : Int) - endR rs) = (cs.length : Int) - endR rs := IntWalk.i64_in _ (by omega)
            by_cases h5 : (cs.length : Int) - endR rs < k
            · have HEE := Lib.hid (HEI.out 5 (by rw [if_neg h4, if_pos h5]))
              generalize endR rs = E at *
              clear h4
              go_wp2_with fail
              go_ret2
              exact BAD.out _ HB.out 5 HEE.out (by decide)
            · have HEE := Lib.hid (HEI.out 0 (by rw [if_neg h4, if_neg h5]))
              have RB := Lib.hid (regB_ok HEE.out)
              have H3 := Lib.hid (show rs.length < 64 by omega)
              obtain ⟨i0, hi0, hz0, hz1, hz2⟩ := info_parts infoReg
              have hsz : W.heap.size ≤ wr.heap.size := HB.out.size
              have HAR := Lib.hid (show A ∉ blockOf (.slice ra rs.length rcap) from fun hm => (HI.out.parts.2.1 A hm).1 rfl)
              have f1 := free_in (i := 1) HI4.out.a
              generalize endR rs = E at *
              clear h4
              go_wp2_with (at_builtin; refine wpList_append_lies _ rfl _ _ _ rfl base 43 i0 _ 3 32 Tryd.underlying46 hi0 hz0 hz1 hz2 rfl (by decide) (.slice ra rs.length rcap) rs.length (rcells rs) rfl (HI4.out.r.alloc _) ⟨wr.heap.size, 0, none⟩ 1 1 (rcell (nm, E, k)) rfl rfl (World.news_of_block (cs := (rcell (nm, E, k)).toArray) (t := 43) (fr := (0, 0)) (heap_alloc_new wr _)) (by simp [rcell, Value.oneCell']) (by decide) (by unfold maxLen; omega) (by omega) (by simp; omega) (wr.heap.size + 1) (by simp) ?_; intro g9 cap9 w9 hown9 hgrow9 hat9 hlt9; have hA9 := after_grow1 HI4.out.a HAR.out hgrow9; have e1 := free_in (i := 1) hA9; have e2 := cell_in (i := 1) hA9 rfl; clear hA9)
              obtain ⟨hI9, hF9⟩ := HI4.out.regioned (by omega) (nm, E, k) H3.out hown9 hgrow9 hat9 hlt9
              have HI9 := Lib.hid hI9
              have HF9 := Lib.hid hF9
              clear hI9 hF9 hown9 hgrow9 hat9 hlt9
              go_wp2_with fail
              go_ret2
              refine show RRegionP _ _ _ _ _ _ _ _ _ _ _ from ⟨?_, ?_⟩
              · rw [RB.out.1, HEE.out]; rfl
              · rw [RB.out.2]
                exact ⟨_, ⟨_, _, _, HI9.out⟩, fun j hj => by
                  rcases List.mem_append.1 hj with hj | hj
                  · exact .inl hj
                  · rw [List.mem_singleton] at hj; right; omega, Fr.trans (Fr.of_below F HB.out) HF9.out (fun j hj => .inl hj)⟩
  · rw [Bool.not_eq_true] at h1
    rw [h1] at KM
    have HE := Lib.hid (show regE cs.length rs nm k = 6 by unfold regE; rw [if_pos h1])
    clear h1
    go_enter Tryd.func43, Tryd.ntmps43
    go_wp2_with fail
    refine KN.out.mono ?_
    rintro e w1 ⟨rfl, rfl⟩
    go_wp2_with fail
    refine KM.out.mono ?_
    rintro e w1 ⟨rfl, rfl⟩
    go_wp2_with fail
    go_ret2
    exact BAD.out _ (Below.refl _ _) 6 HE.out (by decide)
end
end Go.Proofs.YtomjefplacgoeaaDoor
