/- The reference's arena: Name, New, Cells, Regions, Since, Events. Printed by tools/gen_arb3.py. -/
import Derived.Test.YtomjefplacgoeaaDoorArB2
import Derived.Test.YtomjefplacgoeaaDoorArCut
namespace Go.Proofs.YtomjefplacgoeaaDoor
open Go.RowKit

set_option maxRecDepth 100000 in
set_option maxHeartbeats 2000000 in
theorem rlower_p (n : Nat) (w : World) :
    Calls Tryd.prog 63 #[.int .u8 (n : Int)] w fun e w' => e = .returned (.bool (lowC n)) ∧ w = w' := by
  unfold lowC
  by_cases h1 : 97 ≤ n
  · have t1 : (97 : Int) ≤ (n : Int) := by omega
    by_cases h2 : n ≤ 122
    · have t2 : (n : Int) ≤ 122 := by omega
      rw [decide_eq_true h1, decide_eq_true h2, Bool.true_and]
      clear h1 h2
      go_enter Tryd.func63, Tryd.ntmps63
      go_wp2_with fail
      go_ret
      exact ⟨rfl, rfl⟩
    · have t2 : ¬ (n : Int) ≤ 122 := by omega
      rw [decide_eq_true h1, decide_eq_false h2, Bool.true_and]
      clear h1 h2
      go_enter Tryd.func63, Tryd.ntmps63
      go_wp2_with fail
      go_ret
      exact ⟨rfl, rfl⟩
  · have t1 : ¬ (97 : Int) ≤ (n : Int) := by omega
    rw [decide_eq_false h1, Bool.false_and]
    clear h1
    go_enter Tryd.func63, Tryd.ntmps63
    go_wp2_with fail
    go_ret
    exact ⟨rfl, rfl⟩
set_option maxRecDepth 100000 in
set_option maxHeartbeats 2000000 in
theorem rdigit_p (n : Nat) (w : World) :
    Calls Tryd.prog 64 #[.int .u8 (n : Int)] w fun e w' => e = .returned (.bool (digC n)) ∧ w = w' := by
  unfold digC
  by_cases h1 : 48 ≤ n
  · have t1 : (48 : Int) ≤ (n : Int) := by omega
    by_cases h2 : n ≤ 57
    · have t2 : (n : Int) ≤ 57 := by omega
      rw [decide_eq_true h1, decide_eq_true h2, Bool.true_and]
      clear h1 h2
      go_enter Tryd.func64, Tryd.ntmps64
      go_wp2_with fail
      go_ret
      exact ⟨rfl, rfl⟩
    · have t2 : ¬ (n : Int) ≤ 57 := by omega
      rw [decide_eq_true h1, decide_eq_false h2, Bool.true_and]
      clear h1 h2
      go_enter Tryd.func64, Tryd.ntmps64
      go_wp2_with fail
      go_ret
      exact ⟨rfl, rfl⟩
  · have t1 : ¬ (48 : Int) ≤ (n : Int) := by omega
    rw [decide_eq_false h1, Bool.false_and]
    clear h1
    go_enter Tryd.func64, Tryd.ntmps64
    go_wp2_with fail
    go_ret
    exact ⟨rfl, rfl⟩
theorem all_take_next {p : UInt8 → Bool} {l : List UInt8} {k : Nat} (h : k < l.length) (h1 : (l.take k).all p = true) (h2 : p l[k] = true) : (l.take (k + 1)).all p = true := by
  rw [List.take_add_one, List.all_append, h1, List.getElem?_eq_getElem h]
  simp [h2]
theorem all_no {p : UInt8 → Bool} {l : List UInt8} {k : Nat} (h : k < l.length) (h2 : p l[k] = false) : l.all p = false := by
  rw [List.all_eq_false]
  exact ⟨l[k], List.getElem_mem h, by rw [h2]; decide⟩
theorem byt_el {t : List UInt8} {i : Nat} (h : i < t.length) : byt t i = t[i].toNat := by
  unfold byt
  rw [List.getD_eq_getElem?_getD, List.getElem?_eq_getElem h]
  rfl
set_option maxRecDepth 100000 in
set_option maxHeartbeats 2000000 in
theorem rname_p (t : List UInt8) (ht : t.length ≤ 1000000000) (w : World) :
    Calls Tryd.prog 55 #[.string (str t)] w fun e w' => e = .returned (.bool (nameB t)) ∧ w = w' := by
  have hst := size_str t
  have hg := fun (i : Nat) (h : i < (str t).size) => byt_at (t := t) h
  have hx := byt_lt t 0
  by_cases h1 : t.length = 0
  · have e : nameB t = false := by unfold nameB; rw [h1]; rfl
    rw [e]; clear e
    have j0 : (t.length : Int) < 1 := by omega
    clear hg hx h1 ht
    go_enter Tryd.func55, Tryd.ntmps55
    go_wp2_with fail
    go_ret
    exact ⟨rfl, rfl⟩
  · have j1 : ¬ (t.length : Int) < 1 := by omega
    by_cases h2 : 16 < t.length
    · have e : nameB t = false := by unfold nameB; rw [decide_eq_false (p := t.length ≤ 16) (by omega)]; simp
      rw [e]; clear e
      have j2 : (16 : Int) < (t.length : Int) := by omega
      clear hg hx h1 h2
      go_enter Tryd.func55, Tryd.ntmps55
      go_wp2_with fail
      go_ret
      exact ⟨rfl, rfl⟩
    · have j2 : ¬ (16 : Int) < (t.length : Int) := by omega
      have j3 : (0 : Int) < (t.length : Int) := by omega
      have g0 := hg 0 (by omega)
      have KL := Lib.hid (rlower_p (byt t 0) w)
      by_cases h3 : lowC (byt t 0) = true
      · rw [h3] at KL
        have hN : nameB t = t.all fun b => nameC b.toNat := by
          unfold nameB
          rw [decide_eq_true (p := 1 ≤ t.length) (by omega), decide_eq_true (p := t.length ≤ 16) (by omega), h3]
          rfl
        rw [hN]
        have HG := Lib.hid hg
        generalize byt t 0 = x0 at *
        clear hN hg h3 hx
        go_enter Tryd.func55, Tryd.ntmps55
        go_wp2_with fail
        refine KL.out.mono ?_
        rintro e w1 ⟨rfl, rfl⟩
        clear g0 KL
        go_wp2_with fail
        go_loopw [3] (fun iv wr => ∃ k : Nat, k ≤ t.length ∧ iv = .int .i64 (k : Nat) ∧ (t.take k).all (fun b => nameC b.toNat) = true ∧ w = wr) (fun iv _ => t.length - (intOf iv).toNat)
        case atStart => exact ⟨0, by omega, rfl, by simp, rfl⟩
        case round =>
          obtain ⟨k, hk, rfl, ha, rfl⟩ := hrel
          have HA := Lib.hid ha
          clear ha
          by_cases hlt : k < t.length
          · have i1 : (0 : Int) ≤ (k : Int) := by omega
            have i2 : (k : Int) < (t.length : Int) := by omega
            have wi1 : IntKind.i64.wrap ((k : Int) + 1) = (k : Int) + 1 := IntWalk.i64_in _ (by omega)
            have gk := HG.out k (by omega)
            have he := byt_el hlt
            have hx := byt_lt t k
            have K1 := Lib.hid (rlower_p (byt t k) w)
            have K2 := Lib.hid (rdigit_p (byt t k) w)
            have HT := Lib.hid (fun (h : nameC (byt t k) = true) => all_take_next (p := fun b => nameC b.toNat) hlt HA.out (by rw [← he]; exact h))
            have HF := Lib.hid (fun (h : nameC (byt t k) = false) => all_no (p := fun b => nameC b.toNat) hlt (by rw [← he]; exact h))
            clear he
            generalize byt t k = x at *
            have hnc : nameC x = (lowC x || digC x || decide (x = 45)) := rfl
            cases h5 : lowC x
            · rw [h5] at K1
              cases h6 : digC x
              · rw [h6] at K2
                by_cases h7 : x = 45
                · have t7 : ((x : Int) != 45) = false := by rw [h7]; rfl
                  have HT2 := Lib.hid (HT.out (by rw [hnc, h7]; simp))
                  clear HT HF h5 h6 h7 hnc
                  go_wp2_with fail
                  refine K1.out.mono ?_
                  rintro e w1 ⟨rfl, rfl⟩
                  go_wp2_with fail
                  refine K2.out.mono ?_
                  rintro e w1 ⟨rfl, rfl⟩
                  go_wp2_with fail
                  exact ⟨⟨k + 1, by omega, by go_num, HT2.out, by first | rfl | trivial⟩, by simp [intOf]; omega⟩
                · have t7 : ((x : Int) != 45) = true := bne_iff_ne.2 (by omega)
                  have HF2 := Lib.hid (HF.out (by rw [hnc, h5, h6, decide_eq_false h7]; rfl))
                  clear HT HF h5 h6 h7 hnc
                  go_wp2_with fail
                  refine K1.out.mono ?_
                  rintro e w1 ⟨rfl, rfl⟩
                  go_wp2_with fail
                  refine K2.out.mono ?_
                  rintro e w1 ⟨rfl, rfl⟩
                  go_wp2_with fail
                  go_ret
                  exact ⟨by rw [HF2.out]; rfl, rfl⟩
              · rw [h6] at K2
                have HT2 := Lib.hid (HT.out (by rw [hnc, h5, h6]; rfl))
                clear HT HF h5 h6 hnc
                go_wp2_with fail
                refine K1.out.mono ?_
                rintro e w1 ⟨rfl, rfl⟩
                go_wp2_with fail
                refine K2.out.mono ?_
                rintro e w1 ⟨rfl, rfl⟩
                go_wp2_with fail
                exact ⟨⟨k + 1, by omega, by go_num, HT2.out, by first | rfl | trivial⟩, by simp [intOf]; omega⟩
            · rw [h5] at K1
              have HT2 := Lib.hid (HT.out (by rw [hnc, h5]; rfl))
              clear HT HF h5 hnc
              go_wp2_with fail
              refine K1.out.mono ?_
              rintro e w1 ⟨rfl, rfl⟩
              go_wp2_with fail
              exact ⟨⟨k + 1, by omega, by go_num, HT2.out, by first | rfl | trivial⟩, by simp [intOf]; omega⟩
          · obtain rfl : t.length = k := by omega
            have i1 : ¬ ((t.length : Int) < (t.length : Int)) := by omega
            have e : (t.all fun b => nameC b.toNat) = true := by
              have := HA.out
              rwa [List.take_of_length_le (Nat.le_refl _)] at this
            have HE := Lib.hid e
            clear e
            go_wp2_with fail
            go_ret
            exact ⟨by rw [HE.out]; rfl, rfl⟩
      · rw [Bool.not_eq_true] at h3
        rw [h3] at KL
        have hN : nameB t = false := by
          unfold nameB; rw [h3, Bool.and_false, Bool.false_and]
        rw [hN]
        generalize byt t 0 = x0 at *
        clear hN hg h3 hx
        go_enter Tryd.func55, Tryd.ntmps55
        go_wp2_with fail
        refine KL.out.mono ?_
        rintro e w1 ⟨rfl, rfl⟩
        clear g0 KL
        go_wp2_with fail
        go_ret
        exact ⟨rfl, rfl⟩
theorem made_cells {w' : World} {base n g : Nat} (hn : 1 ≤ n) (hown : w'.ownsRow base 31 1 (.slice (some ⟨g, 0, none⟩) n n) n (madeCells #[.int .u64 0] (n * 1)).toList) : w'.heap[g]? = some (.cells (ccells (List.replicate n 0)).toArray 31) := by
  rw [Nat.mul_one, toList_madeCells_one] at hown
  rcases hown.2 with ⟨_, h0⟩ | ⟨g1, cap, cur, he, hgb, hg, _, _, hs, ht⟩
  · omega
  · injection he with e1 e2 e3
    injection e1 with e1
    injection e1 with e1
    subst e1
    subst e3
    have hcur : cur = (ccells (List.replicate n 0)).toArray := by
      apply Array.ext'
      rw [Nat.mul_one, List.take_of_length_le (by rw [Array.length_toList]; omega)] at ht
      rw [ht]; simp [ccells]
    rw [hg, hcur]
def RNewP (W : World) (base n : Nat) (e : Ending) (w' : World) : Prop :=
  ∃ A F, e = .returned (.tuple #[.pointer (some ⟨A, 0, none⟩), .int .i64 0]) ∧ RefAt w' base F A (List.replicate n 0) [] [] ∧ (∀ k ∈ F, W.heap.size ≤ k) ∧ Below W.heap.size W w'
section
variable {W : World}
set_option maxRecDepth 100000 in
set_option maxHeartbeats 2000000 in
theorem rnew_bad (n : Int) (hn : n < 1 ∨ 65536 < n) :
    Calls Tryd.prog 27 #[.int .i64 n] W fun e w' => e = .returned (.tuple #[.pointer none, .int .i64 7]) ∧ W = w' := by
  by_cases h1 : n < 1
  · clear hn
    go_enter Tryd.func27, Tryd.ntmps27
    go_wp2_with fail
    go_ret2
    exact ⟨rfl, rfl⟩
  · have h2 : 65536 < n := by omega
    clear hn
    go_enter Tryd.func27, Tryd.ntmps27
    go_wp2_with fail
    go_ret2
    exact ⟨rfl, rfl⟩
set_option maxRecDepth 100000 in
set_option maxHeartbeats 2000000 in
theorem rnew_p (n base : Nat) (h1 : 1 ≤ n) (h2 : n ≤ 65536) (hb : base ≤ W.heap.size) :
    Calls Tryd.prog 27 #[.int .i64 (n : Int)] W (RNewP W base n) := by
  obtain ⟨i0, hi, hz0, hz1, hz2⟩ := info_parts infoU64
  have t1 : ¬ (n : Int) < 1 := by omega
  have t2 : ¬ 65536 < (n : Int) := by omega
  go_enter Tryd.func27, Tryd.ntmps27
  go_wp2_with (first | (at_make; refine wpList_make_full _ rfl _ _ 30 rfl W.heap.size 31 i0 _ 1 Tryd.underlying30 hi hz0 hz1 _ _ _ _ n rfl rfl rfl rfl (by rw [hz2]; omega) (by unfold maxLen; omega) (Nat.le_refl _) ?_; intro w1 hown hgrow))
  have hC := made_cells h1 hown
  have hb1 : Below W.heap.size W w1 := (Below.refl _ _).grown hgrow (Nat.le_refl _) (fun q e => by cases e)
  have hlt : W.heap.size < w1.heap.size := (Array.getElem?_eq_some_iff.1 hC).1
  have HB := Lib.hid (hb1.alloc hb1.size (.cells #[.slice (some ⟨W.heap.size, 0, none⟩) n n, .slice none 0 0, .slice none 0 0] 77))
  have HR := Lib.hid (show RefIn (w1.alloc (.cells #[.slice (some ⟨W.heap.size, 0, none⟩) n n, .slice none 0 0, .slice none 0 0] 77)) base [w1.heap.size, W.heap.size] w1.heap.size (List.replicate n 0) [] [] (.slice none 0 0) (.slice none 0 0) W.heap.size from by
    refine ⟨?_, ?_, World.ownsRow_nil _ _ _ _, World.ownsRow_nil _ _ _ _, ?_, fun k hk => ?_, ⟨by simpa using h1, by simpa using h2, fun x hx => ?_⟩, ⟨by simp, fun e he => by simp at he⟩, by simp⟩
    · rw [heap_alloc_new]; simp
    · rw [Below.heap_alloc _ _ _ hlt, hC]
    · simp [blockOf, Value.ownBlock]; omega
    · simp [blockOf, Value.ownBlock] at hk
      rcases hk with rfl | rfl
      · exact ⟨by simp, by omega, by simp⟩
      · exact ⟨by simp, by omega, by simp; omega⟩
    · rw [List.mem_replicate] at hx
      omega)
  have hs := hb1.size
  clear hown hgrow hC
  go_ret2
  refine show RNewP _ _ _ _ _ from ⟨w1.heap.size, [w1.heap.size, W.heap.size], rfl, ⟨_, _, _, HR.out⟩, fun k hk => ?_, HB.out⟩
  simp at hk
  rcases hk with rfl | rfl <;> omega
variable {base : Nat} {F : List Nat} {A : Nat} {cs : List Nat} {rs : List Reg} {ev : List Ev}
theorem RefIn.lt {rv vv : Value} {C : Nat} (h : RefIn W base F A cs rs ev rv vv C) : A < W.heap.size := (h.own A (by simp)).2.2
theorem ecells_one (l : List Ev) : ∀ u ∈ ecells l, u.oneCell' = true := by
  intro u hu
  unfold ecells at hu
  rw [List.mem_flatMap] at hu
  obtain ⟨e, _, hu⟩ := hu
  simp [ecell] at hu
  rcases hu with rfl | rfl <;> rfl
set_option maxRecDepth 100000 in
set_option maxHeartbeats 2000000 in
theorem rcells_p (h : RefAt W base F A cs rs ev) :
    Calls Tryd.prog 33 #[.pointer (some ⟨A, 0, none⟩)] W (CellsP W cs) := by
  have KN := Lib.hid (rnone_p h)
  obtain ⟨rv, vv, C, h⟩ := h
  obtain ⟨c0, c1, c2⟩ := h.cells
  have hlA := h.lt
  have hrow : Us W (.slice (some ⟨C, 0, none⟩) cs.length cs.length) cs := ⟨by simp [ccells], by have := h.lc.2.1; unfold maxLen; omega, _, _, rfl, by simp, .inr ⟨C, 0, rfl, fun j hj => by unfold World.cell?; rw [h.c]; simp⟩⟩
  have hbn := h.lc.2.1
  obtain ⟨i0, hi, hz0, hz1, hz2⟩ := info_parts infoU64
  have o0 : (W.alloc (.cells #[] 31)).ownsRow W.heap.size 31 1 (.slice (some ⟨W.heap.size, 0, none⟩) 0 0) 0 [] := World.ownsRow_lit W #[] 0 (Nat.le_refl _) (by decide) rfl
  have al : Below W.heap.size W (W.alloc (.cells #[] 31)) := (Below.refl _ _).alloc (Nat.le_refl _) _
  obtain ⟨va, wa, hra, hoa, hga⟩ := append_row (P := Tryd.prog) W.heap.size 30 30 31 Tryd.underlying30 hi hz0 hz1 hz2 rfl (by decide) o0 (Row.below hrow al) (ccells_one _) (by unfold maxLen; omega) (by omega) (by simp)
  have ala : Below W.heap.size W wa := al.grown hga (by simp) (fun k e => by simp [Value.ownBlock] at e; omega)
  rw [Nat.zero_add, List.nil_append] at hoa
  have HRA := Lib.hid hra
  have HA := Lib.hid ala
  have HO := Lib.hid hoa
  clear o0 al hoa hga hra ala hrow h hz0 hz1 hz2 hi c1 c2
  go_enter Tryd.func33, Tryd.ntmps33
  go_wp2_with fail
  refine KN.out.mono ?_
  rintro e w1 ⟨rfl, rfl⟩
  go_wp2_with (at_builtin; refine wpList_append_run rfl rfl rfl rfl HRA.out ?_)
  go_ret
  exact show CellsP _ _ _ _ from ⟨_, rfl, HO.out, HA.out⟩
set_option maxRecDepth 100000 in
set_option maxHeartbeats 2000000 in
theorem rregions_p (h : RefAt W base F A cs rs ev) :
    Calls Tryd.prog 32 #[.pointer (some ⟨A, 0, none⟩)] W (RegsP W rs) := by
  have KN := Lib.hid (rnone_p h)
  obtain ⟨rv, vv, C, h⟩ := h
  obtain ⟨c0, c1, c2⟩ := h.cells
  have hlA := h.lt
  have hrow : Regs W rv rs := Row.of_owns h.r
  obtain ⟨ra, rcap, hre⟩ := h.lenR
  subst hre
  have hbn := h.lr
  obtain ⟨i0, hi, hz0, hz1, hz2⟩ := info_parts infoReg
  have o0 : (W.alloc (.cells #[] 43)).ownsRow W.heap.size 43 3 (.slice (some ⟨W.heap.size, 0, none⟩) 0 0) 0 [] := World.ownsRow_lit W #[] 0 (Nat.le_refl _) (by decide) rfl
  have al : Below W.heap.size W (W.alloc (.cells #[] 43)) := (Below.refl _ _).alloc (Nat.le_refl _) _
  obtain ⟨va, wa, hra, hoa, hga⟩ := append_row (P := Tryd.prog) W.heap.size 46 46 43 Tryd.underlying46 hi hz0 hz1 hz2 rfl (by decide) o0 (Row.below hrow al) (rcells_one _) (by unfold maxLen; omega) (by omega) (by simp)
  have ala : Below W.heap.size W wa := al.grown hga (by simp) (fun k e => by simp [Value.ownBlock] at e; omega)
  rw [Nat.zero_add, List.nil_append] at hoa
  have HRA := Lib.hid hra
  have HA := Lib.hid ala
  have HO := Lib.hid hoa
  clear o0 al hoa hga hra ala hrow h hz0 hz1 hz2 hi c0 c2
  go_enter Tryd.func32, Tryd.ntmps32
  go_wp2_with fail
  refine KN.out.mono ?_
  rintro e w1 ⟨rfl, rfl⟩
  go_wp2_with (at_builtin; refine wpList_append_run rfl rfl rfl rfl HRA.out ?_)
  go_ret
  exact show RegsP _ _ _ _ from ⟨_, rfl, HO.out, HA.out⟩
theorem sinceE_of {n : Nat} {a : Int} : (sinceE n a = 7 ∧ (a < 0 ∨ (n : Int) < a)) ∨ (sinceE n a = 0 ∧ 0 ≤ a ∧ a ≤ n) := by
  unfold sinceE
  by_cases h : a < 0 ∨ (n : Int) < a
  · rw [if_pos h]; exact .inl ⟨rfl, h⟩
  · rw [if_neg h]; exact .inr ⟨rfl, by omega⟩
set_option maxRecDepth 100000 in
set_option maxHeartbeats 2000000 in
theorem rsince_p (a : Int) (h : RefAt W base F A cs rs ev) :
    Calls Tryd.prog 47 #[.pointer (some ⟨A, 0, none⟩), .int .i64 a] W (SinceP W (sinceV ev a) (sinceE ev.length a)) := by
  have KN := Lib.hid (rnone_p h)
  obtain ⟨rv, vv, C, h⟩ := h
  obtain ⟨c0, c1, c2⟩ := h.cells
  have hlA := h.lt
  have hle := h.le.1
  obtain ⟨va, vcap, hve⟩ := h.len
  subst hve
  have hown := h.v
  clear h c0 c1
  rcases sinceE_of (n := ev.length) (a := a) with ⟨hE, h1⟩ | ⟨hE, h1, h2⟩
  · have e : sinceV ev a = [] := by unfold sinceV; rw [hE, if_neg (by decide)]
    rw [e, hE]
    clear e hE hown
    by_cases h3 : a < 0
    · clear h1
      go_enter Tryd.func47, Tryd.ntmps47
      go_wp2_with fail
      refine KN.out.mono ?_
      rintro e w1 ⟨rfl, rfl⟩
      go_wp2_with fail
      go_ret2
      exact show SinceP _ _ _ _ _ from ⟨_, rfl, World.ownsRow_nil _ _ _ _, Below.refl _ _⟩
    · have h4 : (ev.length : Int) < a := by omega
      clear h1
      go_enter Tryd.func47, Tryd.ntmps47
      go_wp2_with fail
      refine KN.out.mono ?_
      rintro e w1 ⟨rfl, rfl⟩
      go_wp2_with fail
      go_ret2
      exact show SinceP _ _ _ _ _ from ⟨_, rfl, World.ownsRow_nil _ _ _ _, Below.refl _ _⟩
  · obtain ⟨j, rfl⟩ : ∃ j : Nat, a = j := ⟨a.toNat, by omega⟩
    have hj : j ≤ ev.length := by omega
    have e : sinceV ev (j : Int) = ev.drop j := by unfold sinceV; rw [hE, if_pos rfl, Int.toNat_natCast]
    rw [e, hE]
    have t1 : ¬ (j : Int) < 0 := by omega
    have t2 : ¬ (ev.length : Int) < (j : Int) := by omega
    obtain ⟨V, hV, hVR⟩ := slice_from hown j hj (by unfold maxLen; omega) rfl
    rw [ecells_drop] at hVR
    obtain ⟨i0, hi, hz0, hz1, hz2⟩ := info_parts infoEv
    have o0 : (W.alloc (.cells #[] 54)).ownsRow W.heap.size 54 2 (.slice (some ⟨W.heap.size, 0, none⟩) 0 0) 0 [] := World.ownsRow_lit W #[] 0 (Nat.le_refl _) (by decide) rfl
    have al : Below W.heap.size W (W.alloc (.cells #[] 54)) := (Below.refl _ _).alloc (Nat.le_refl _) _
    obtain ⟨vn, wa, hra, hoa, hga⟩ := append_row (P := Tryd.prog) W.heap.size 49 49 54 Tryd.underlying49 hi hz0 hz1 hz2 rfl (by decide) o0 (Row.below hVR al) (ecells_one _) (by unfold maxLen; omega) (by omega) (by simp)
    have ala : Below W.heap.size W wa := al.grown hga (by simp) (fun k e => by simp [Value.ownBlock] at e; omega)
    rw [Nat.zero_add, List.nil_append] at hoa
    have HRA := Lib.hid hra
    have HA := Lib.hid ala
    have HO := Lib.hid hoa
    clear o0 al hoa hga hra ala hVR hown hz0 hz1 hz2 hi e hE h1 h2
    go_enter Tryd.func47, Tryd.ntmps47
    go_wp2_with fail
    refine KN.out.mono ?_
    rintro e w1 ⟨rfl, rfl⟩
    go_wp2_with (at_builtin; refine wpList_append_run rfl rfl rfl rfl HRA.out ?_)
    go_ret2
    refine show SinceP _ _ _ _ _ from ⟨_, rfl, ?_, HA.out⟩
    rw [List.length_drop]
    exact HO.out
set_option maxRecDepth 100000 in
set_option maxHeartbeats 2000000 in
theorem revents_p (h : RefAt W base F A cs rs ev) :
    Calls Tryd.prog 30 #[.pointer (some ⟨A, 0, none⟩)] W (EvP W ev) := by
  have K := Lib.hid (rsince_p 0 h)
  rw [show sinceV ev 0 = ev by unfold sinceV; rw [show sinceE ev.length 0 = 0 by unfold sinceE; rw [if_neg (by omega)]]; simp] at K
  clear h
  go_enter Tryd.func30, Tryd.ntmps30
  go_wp2_with fail
  refine K.out.mono ?_
  rintro e w1 ⟨v, rfl, hown, hb⟩
  have HO := Lib.hid hown
  have HB := Lib.hid hb
  clear hown hb K
  generalize sinceE ev.length 0 = E at *
  go_wp2_with fail
  go_ret
  exact show EvP _ _ _ _ from ⟨_, rfl, HO.out, HB.out⟩
end
end Go.Proofs.YtomjefplacgoeaaDoor
