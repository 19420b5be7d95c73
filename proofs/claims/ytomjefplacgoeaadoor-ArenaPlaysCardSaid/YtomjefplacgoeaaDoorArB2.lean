/- The reference's arena: step, Load, Store. Printed by tools/gen_arb.py. -/
import Derived.Test.YtomjefplacgoeaaDoorArB1
namespace Go.Proofs.YtomjefplacgoeaaDoor
open Go.RowKit
section
variable {W : World} {base : Nat} {F : List Nat} {A : Nat} {cs : List Nat} {rs : List Reg} {ev : List Ev} {rv vv : Value} {C : Nat}
theorem after_grow2 {W W3 : World} {A : Nat} {o o1 : Obj} {rv : Value} (ha : W.heap[A]? = some o) (hn : A ∉ blockOf rv) (hgrow : (W.alloc o1).grownBy W3 rv.ownBlock) : W3.heap[A]? = some o := after_grow1 ha hn hgrow
set_option maxRecDepth 100000 in
set_option maxHeartbeats 2000000 in
theorem rstep_p (k : Nat) (a : Int) (hk : k < 4) (h : RefAt W base F A cs rs ev) (hbase : base ≤ W.heap.size) :
    Calls Tryd.prog 54 #[.pointer (some ⟨A, 0, none⟩), .int .i64 (k : Int), .int .i64 a] W fun e w' => e = .returned (.int .i64 (stepE cs.length ev.length a)) ∧ RNow W base F A cs rs (stepV cs.length ev k a) w' := by
  have KN := Lib.hid (rnone_p h)
  have HR := Lib.hid (RNow.refl h)
  obtain ⟨rv, vv, C, h⟩ := h
  obtain ⟨c0, c1, c2⟩ := h.cells
  have hl := h.lc.2.1
  have hle := h.le.1
  unfold stepV
  by_cases h1 : a < 0
  · have e : stepE cs.length ev.length a = 7 := by unfold stepE; rw [if_pos (.inl h1)]
    rw [e, if_neg (by omega)]; clear e h c1 c2
    go_enter Tryd.func54, Tryd.ntmps54
    go_wp2_with fail
    refine KN.out.mono ?_
    rintro e w1 ⟨rfl, rfl⟩
    go_wp2_with fail
    go_ret
    exact ⟨rfl, HR.out⟩
  · by_cases h2 : (cs.length : Int) ≤ a
    · have e : stepE cs.length ev.length a = 7 := by unfold stepE; rw [if_pos (.inr h2)]
      rw [e, if_neg (by omega)]; clear e h c1 c2
      go_enter Tryd.func54, Tryd.ntmps54
      go_wp2_with fail
      refine KN.out.mono ?_
      rintro e w1 ⟨rfl, rfl⟩
      go_wp2_with fail
      go_ret
      exact ⟨rfl, HR.out⟩
    · obtain ⟨t, rfl⟩ : ∃ t : Nat, a = t := ⟨a.toNat, by omega⟩
      obtain ⟨va, vcap, hve⟩ := h.len
      subst hve
      by_cases h3 : ev.length = 8388608
      · have e : stepE cs.length ev.length (t : Int) = 3 := by unfold stepE; rw [if_neg (by omega), if_pos h3]
        rw [e, if_neg (by omega)]; clear e
        have t3 : (8388608 : Int) ≤ (ev.length : Int) := by omega
        clear h3 h
        go_enter Tryd.func54, Tryd.ntmps54
        go_wp2_with fail
        refine KN.out.mono ?_
        rintro e w1 ⟨rfl, rfl⟩
        go_wp2_with fail
        go_ret
        exact ⟨rfl, HR.out⟩
      · have e : stepE cs.length ev.length (t : Int) = 0 := by unfold stepE; rw [if_neg (by omega), if_neg h3]
        rw [e, if_pos rfl, Int.toNat_natCast]; clear e
        have t3 : decide ((8388608 : Int) ≤ (ev.length : Int)) = false := decide_eq_false (by omega)
        obtain ⟨i0, hi, hz0, hz1, hz2⟩ := info_parts infoEv
        have wk : IntKind.i32.wrap (k : Int) = (k : Int) := by rw [IntKind.wrap_i32]; omega
        have wt : IntKind.i32.wrap (t : Int) = (t : Int) := by rw [IntKind.wrap_i32]; omega
        have HI := Lib.hid h
        have HN := Lib.hid (show ev.length < 8388608 by omega)
        have f2 := free_in (i := 2) h.a
        have ht : t < 65536 := by omega
        clear h3 h c1
        go_enter Tryd.func54, Tryd.ntmps54
        go_wp2_with fail
        refine KN.out.mono ?_
        rintro e w1 ⟨rfl, rfl⟩
        have HAR := Lib.hid (show A ∉ blockOf (.slice va ev.length vcap) from fun hm => (HI.out.parts.2.2.1 A hm).1 rfl)
        go_wp2_with (at_builtin; refine wpList_append_lies _ rfl _ _ _ rfl base 54 i0 _ 2 8 Tryd.underlying49 hi hz0 hz1 hz2 rfl (by decide) (.slice va ev.length vcap) ev.length (ecells ev) rfl (HI.out.v.alloc _) ⟨W.heap.size, 0, none⟩ 1 1 [.int .i32 (k : Int), .int .i32 (t : Int)] rfl rfl (World.news_of_block (cs := #[.int .i32 (k : Int), .int .i32 (t : Int)]) (t := 54) (fr := (0, 0)) (heap_alloc_new W _)) (by simp [Value.oneCell']) (by decide) (by unfold maxLen; omega) (by omega) (by simp; omega) (W.heap.size + 1) (by simp) ?_; intro g9 cap9 w9 hown9 hgrow9 hat9 hlt9; have hA9 := after_grow2 HI.out.a HAR.out hgrow9; have e1 := free_in (i := 2) hA9; have e2 := cell_in (i := 2) hA9 rfl; clear hA9)
        obtain ⟨hI9, hF9⟩ := HI.out.logged hbase (k, t) HN.out ⟨hk, ht⟩ hown9 hgrow9 hat9 hlt9
        have HI9 := Lib.hid hI9
        have HF9 := Lib.hid hF9
        clear hI9 hF9 hown9 hgrow9 hat9 hlt9
        go_wp2_with fail
        go_ret
        exact ⟨rfl, RNow.mk' HI9.out HF9.out⟩

set_option maxRecDepth 100000 in
set_option maxHeartbeats 2000000 in
theorem rload_p (a : Int) (h : RefAt W base F A cs rs ev) (hbase : base ≤ W.heap.size) :
    Calls Tryd.prog 41 #[.pointer (some ⟨A, 0, none⟩), .int .i64 a] W fun e w' => e = .returned (.tuple #[.int .u64 (loadV cs ev.length a : Int), .int .i64 (stepE cs.length ev.length a)]) ∧ RNow W base F A cs rs (stepV cs.length ev 1 a) w' := by
  have KS := Lib.hid (rstep_p 1 a (by omega) h hbase)
  have hlm : cs.length ≤ 65536 := by obtain ⟨_, _, _, h⟩ := h; exact h.lc.2.1
  clear h
  by_cases hE : stepE cs.length ev.length a = 0
  · have hr : 0 ≤ a ∧ a < cs.length := by
      unfold stepE at hE
      by_cases h1 : a < 0 ∨ (cs.length : Int) ≤ a
      · rw [if_pos h1] at hE; omega
      · omega
    obtain ⟨t, rfl⟩ : ∃ t : Nat, a = t := ⟨a.toNat, by omega⟩
    have htl : t < cs.length := by omega
    have e : loadV cs ev.length (t : Int) = cs[t] := by
      unfold loadV; rw [if_pos hE, Int.toNat_natCast, List.getD_eq_getElem?_getD, List.getElem?_eq_getElem htl]; rfl
    rw [e, hE]
    rw [hE] at KS
    have i1 : (0 : Int) ≤ (t : Int) := by omega
    have i2 : (t : Int) < (cs.length : Int) := by omega
    clear e hE hr
    go_enter Tryd.func41, Tryd.ntmps41
    go_wp2_with fail
    refine KS.out.mono ?_
    rintro e w1 ⟨rfl, hN⟩
    have HN := Lib.hid hN
    obtain ⟨F', ⟨rv, vv, C, h1⟩, _, _⟩ := hN
    obtain ⟨c0, c1, c2⟩ := h1.cells
    have d := h1.cellAt htl
    clear h1 c1 c2
    go_wp2_with fail
    go_ret2
    exact ⟨rfl, HN.out⟩
  · have e : loadV cs ev.length a = 0 := by unfold loadV; rw [if_neg hE]
    rw [e]
    have t1 : (stepE cs.length ev.length a != 0) = true := bne_iff_ne.2 hE
    generalize stepE cs.length ev.length a = E at *
    clear e hE
    go_enter Tryd.func41, Tryd.ntmps41
    go_wp2_with fail
    refine KS.out.mono ?_
    rintro e w1 ⟨rfl, hN⟩
    have HN := Lib.hid hN
    clear hN
    go_wp2_with fail
    go_ret2
    exact ⟨rfl, HN.out⟩
set_option maxRecDepth 100000 in
set_option maxHeartbeats 2000000 in
theorem rstore_p (a : Int) (v : Nat) (hv : v < 18446744073709551616) (h : RefAt W base F A cs rs ev) (hbase : base ≤ W.heap.size) :
    Calls Tryd.prog 42 #[.pointer (some ⟨A, 0, none⟩), .int .i64 a, .int .u64 (v : Int)] W fun e w' => e = .returned (.int .i64 (stepE cs.length ev.length a)) ∧ RNow W base F A (storeV cs ev.length a v) rs (stepV cs.length ev 2 a) w' := by
  have KS := Lib.hid (rstep_p 2 a (by omega) h hbase)
  have hlm : cs.length ≤ 65536 := by obtain ⟨_, _, _, h⟩ := h; exact h.lc.2.1
  have HO := Lib.hid (show ∀ C rv vv, RefIn W base F A cs rs ev rv vv C → C ∈ F ∧ C < W.heap.size from fun C rv vv h => ⟨(h.own C (by simp)).1, (h.own C (by simp)).2.2⟩)
  clear h
  by_cases hE : stepE cs.length ev.length a = 0
  · have hr : 0 ≤ a ∧ a < cs.length := by
      unfold stepE at hE
      by_cases h1 : a < 0 ∨ (cs.length : Int) ≤ a
      · rw [if_pos h1] at hE; omega
      · omega
    obtain ⟨t, rfl⟩ : ∃ t : Nat, a = t := ⟨a.toNat, by omega⟩
    have htl : t < cs.length := by omega
    have e : storeV cs ev.length (t : Int) v = cs.set t v := by unfold storeV; rw [if_pos hE, Int.toNat_natCast]
    rw [e, hE]
    rw [hE] at KS
    have i1 : (0 : Int) ≤ (t : Int) := by omega
    have i2 : (t : Int) < (cs.length : Int) := by omega
    clear e hE hr
    go_enter Tryd.func42, Tryd.ntmps42
    go_wp2_with fail
    refine KS.out.mono ?_
    rintro e w1 ⟨rfl, hN⟩
    obtain ⟨F', ⟨rv, vv, C, h1⟩, hsub, hfr⟩ := hN
    obtain ⟨c0, c1, c2⟩ := h1.cells
    have d := h1.cellAt htl
    have d2 := free_in (i := t) h1.c
    have HS := Lib.hid (h1.stored t v hv)
    have HC := Lib.hid ((h1.own C (by simp)).1)
    have HSUB := Lib.hid hsub
    have HFR := Lib.hid hfr
    clear h1 c1 c2 hsub hfr
    go_wp2_with fail
    go_ret
    refine ⟨rfl, F', ⟨_, _, _, HS.out⟩, HSUB.out, HFR.out.os, HFR.out.tape, HFR.out.output, by simpa [World.size_setCell] using HFR.out.size, fun j hj hn => ?_⟩
    have hne : j ≠ C := fun e => by
      rcases HSUB.out C HC.out with hm | hm
      · exact hn (e ▸ hm)
      · omega
    exact (Below.heap_setCell _ _ _ _ hne).trans (HFR.out.block j hj hn)
  · have e : storeV cs ev.length a v = cs := by unfold storeV; rw [if_neg hE]
    rw [e]
    have t1 : (stepE cs.length ev.length a == 0) = false := beq_eq_false_iff_ne.2 hE
    generalize stepE cs.length ev.length a = E at *
    clear e hE
    go_enter Tryd.func42, Tryd.ntmps42
    go_wp2_with fail
    refine KS.out.mono ?_
    rintro e w1 ⟨rfl, hN⟩
    have HN := Lib.hid hN
    clear hN
    go_wp2_with fail
    go_ret
    exact ⟨rfl, HN.out⟩
end
end Go.Proofs.YtomjefplacgoeaaDoor
