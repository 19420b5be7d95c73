/- step, Load, Store of an arena. -/
import Derived.Test.YtomjefplacgoeaaDoorArNew
namespace Go.Proofs.YtomjefplacgoeaaDoor
open Go.RowKit

/-- the arena behind a call: what it is now, of which blocks; no others were turned -/
def Now (W : World) (base : Nat) (F : List Nat) (A : Nat) (cs : List Nat) (rs : List Reg) (ev : List Ev) (w' : World) : Prop :=
  ∃ F', ArenaAt w' base F' A cs rs ev ∧ (∀ j ∈ F', j ∈ F ∨ W.heap.size ≤ j) ∧ Fr F W w'
def stepE (n len : Nat) (a : Int) : Int := if a < 0 ∨ (n : Int) ≤ a then 7 else if len = 8388608 then 3 else 0
def stepV (n : Nat) (ev : List Ev) (k : Nat) (a : Int) : List Ev := if stepE n ev.length a = 0 then ev ++ [(k, a.toNat)] else ev

section
variable {W : World} {base : Nat} {F : List Nat} {A : Nat} {cs : List Nat} {rs : List Reg} {ev : List Ev}
theorem Now.refl (h : ArenaAt W base F A cs rs ev) : Now W base F A cs rs ev W := ⟨F, h, fun _ hj => .inl hj, Fr.refl _ _⟩

theorem add_p (k t : Nat) (hk : k < 4) (ht : t < 65536) (h : ArenaAt W base F A cs rs ev) (hn : ev.length < 8388608) (hbase : base ≤ W.heap.size) :
    Calls Tryd.prog 52 #[.pointer (some ⟨A, 0, none⟩), .int .i64 (k : Int), .int .i64 (t : Int)] W fun e w' => e = .returned (.tuple #[]) ∧ Now W base F A cs rs (ev ++ [(k, t)]) w' := by
  by_cases hm : ev.length % 4096 = 0
  · exact add_new k t hk ht h hn hm hbase
  · exact (add_old k t hk ht h hn hm).mono fun e w' ⟨h1, h2, h3⟩ => ⟨h1, F, h2, fun _ hj => .inl hj, h3⟩

set_option maxRecDepth 100000 in
set_option maxHeartbeats 2000000 in
theorem step_p (k : Nat) (a : Int) (hk : k < 4) (h : ArenaAt W base F A cs rs ev) (hbase : base ≤ W.heap.size) :
    Calls Tryd.prog 35 #[.pointer (some ⟨A, 0, none⟩), .int .i64 (k : Int), .int .i64 a] W fun e w' => e = .returned (.int .i64 (stepE cs.length ev.length a)) ∧ Now W base F A cs rs (stepV cs.length ev k a) w' := by
  have KN := Lib.hid (none_p h)
  have KA := Lib.hid (fun t ht hn => add_p k t hk ht h hn hbase)
  have HR := Lib.hid (Now.refl h)
  obtain ⟨pv, rv, C, PL, h⟩ := h
  obtain ⟨c0, c1, c2, c3, c4⟩ := h.cells
  have hl := h.lc.2.1
  have hle := h.le.1
  clear h c0 c3 c4
  unfold stepV
  by_cases h1 : a < 0
  · have e : stepE cs.length ev.length a = 7 := by unfold stepE; rw [if_pos (.inl h1)]
    rw [e, if_neg (by omega)]; clear e
    go_enter Tryd.func35, Tryd.ntmps35
    go_wp2_with fail
    refine KN.out.mono ?_
    rintro e w1 ⟨rfl, rfl⟩
    go_wp2_with fail
    go_ret
    exact ⟨rfl, HR.out⟩
  · by_cases h2 : (cs.length : Int) ≤ a
    · have e : stepE cs.length ev.length a = 7 := by unfold stepE; rw [if_pos (.inr h2)]
      rw [e, if_neg (by omega)]; clear e
      go_enter Tryd.func35, Tryd.ntmps35
      go_wp2_with fail
      refine KN.out.mono ?_
      rintro e w1 ⟨rfl, rfl⟩
      go_wp2_with fail
      go_ret
      exact ⟨rfl, HR.out⟩
    · obtain ⟨t, rfl⟩ : ∃ t : Nat, a = t := ⟨a.toNat, by omega⟩
      by_cases h3 : ev.length = 8388608
      · have e : stepE cs.length ev.length (t : Int) = 3 := by unfold stepE; rw [if_neg (by omega), if_pos h3]
        rw [e, if_neg (by omega)]; clear e
        have t3 : ((ev.length : Int) == 8388608) = true := beq_iff_eq.2 (by omega)
        clear h3
        go_enter Tryd.func35, Tryd.ntmps35
        go_wp2_with fail
        refine KN.out.mono ?_
        rintro e w1 ⟨rfl, rfl⟩
        go_wp2_with fail
        go_ret
        exact ⟨rfl, HR.out⟩
      · have e : stepE cs.length ev.length (t : Int) = 0 := by unfold stepE; rw [if_neg (by omega), if_neg h3]
        rw [e, if_pos rfl, Int.toNat_natCast]; clear e
        have t3 : ((ev.length : Int) == 8388608) = false := beq_eq_false_iff_ne.2 (by omega)
        have KA2 := Lib.hid (KA.out t (by omega) (by omega))
        clear h3 KA
        go_enter Tryd.func35, Tryd.ntmps35
        go_wp2_with fail
        refine KN.out.mono ?_
        rintro e w1 ⟨rfl, rfl⟩
        go_wp2_with fail
        refine KA2.out.mono ?_
        rintro e w2 ⟨rfl, hN⟩
        have HN := Lib.hid hN
        clear hN c1 c2
        go_wp2_with fail
        go_ret
        exact ⟨rfl, HN.out⟩

theorem ArenaIn.cellAt {pv rv : Value} {C : Nat} {PL : List Nat} {m : Nat} (h : ArenaIn W base F A cs rs ev pv rv C PL m) {t : Nat} (ht : t < cs.length) : W.cell? ⟨C, t, none⟩ = some (.int .u64 (cs[t] : Int)) :=
  cell_in h.c (by simp [ccells, List.getElem?_eq_getElem ht])

def loadV (cs : List Nat) (len : Nat) (a : Int) : Nat := if stepE cs.length len a = 0 then cs.getD a.toNat 0 else 0

set_option maxRecDepth 100000 in
set_option maxHeartbeats 2000000 in
theorem load_p (a : Int) (h : ArenaAt W base F A cs rs ev) (hbase : base ≤ W.heap.size) :
    Calls Tryd.prog 13 #[.pointer (some ⟨A, 0, none⟩), .int .i64 a] W fun e w' => e = .returned (.tuple #[.int .u64 (loadV cs ev.length a : Int), .int .i64 (stepE cs.length ev.length a)]) ∧ Now W base F A cs rs (stepV cs.length ev 1 a) w' := by
  have KS := Lib.hid (step_p 1 a (by omega) h hbase)
  have hlm : cs.length ≤ 65536 := by obtain ⟨_, _, _, _, h⟩ := h; exact h.lc.2.1
  clear h
  by_cases hE : stepE cs.length ev.length a = 0
  · have hr : 0 ≤ a ∧ a < cs.length := by
      unfold stepE at hE
      by_cases h1 : a < 0 ∨ (cs.length : Int) ≤ a
      · rw [if_pos h1] at hE; omega
      · omega
    obtain ⟨t, rfl⟩ : ∃ t : Nat, a = t := ⟨a.toNat, by omega⟩
    have htl : t < cs.length := by omega
    have e : loadV cs ev.length (t : Int) = cs[t] := by
      unfold loadV; rw [if_pos hE, Int.toNat_natCast, List.getD_eq_getElem?_getD, List.getElem?_eq_getElem htl]; rfl
    rw [e, hE]
    rw [hE] at KS
    have i1 : (0 : Int) ≤ (t : Int) := by omega
    have i2 : (t : Int) < (cs.length : Int) := by omega
    clear e hE hr
    go_enter Tryd.func13, Tryd.ntmps13
    go_wp2_with fail
    refine KS.out.mono ?_
    rintro e w1 ⟨rfl, hN⟩
    have HN := Lib.hid hN
    obtain ⟨F', ⟨pv, rv, C, PL, h1⟩, _, _⟩ := hN
    obtain ⟨c0, c1, c2, c3, c4⟩ := h1.cells
    have d := h1.cellAt htl
    clear h1 c0 c1 c3 c4
    go_wp2_with fail
    go_ret2
    exact ⟨rfl, HN.out⟩
  · have e : loadV cs ev.length a = 0 := by unfold loadV; rw [if_neg hE]
    rw [e]
    have t1 : (stepE cs.length ev.length a != 0) = true := bne_iff_ne.2 hE
    generalize stepE cs.length ev.length a = E at *
    clear e hE
    go_enter Tryd.func13, Tryd.ntmps13
    go_wp2_with fail
    refine KS.out.mono ?_
    rintro e w1 ⟨rfl, hN⟩
    have HN := Lib.hid hN
    clear hN
    go_wp2_with fail
    go_ret2
    exact ⟨rfl, HN.out⟩

theorem ArenaIn.stored {pv rv : Value} {C : Nat} {PL : List Nat} {m : Nat} (h : ArenaIn W base F A cs rs ev pv rv C PL m) (t v : Nat) (hv : v < 18446744073709551616) :
    ArenaIn (W.setCell ⟨C, t, none⟩ (.int .u64 (v : Int))) base F A (cs.set t v) rs ev pv rv C PL m := by
  obtain ⟨hAC, hP, hpv, hrv, hPn⟩ := h.parts
  have far : ∀ k, k ≠ C → (W.setCell ⟨C, t, none⟩ (.int .u64 (v : Int))).heap[k]? = W.heap[k]? := fun k hk => Below.heap_setCell _ _ _ _ hk
  refine ⟨?_, ?_, owns_keep h.p (fun k hk => far k (hpv k hk).2.1), owns_keep h.r (fun k hk => far k (hrv k hk).2.1), h.np, fun i p hp => ?_, h.nd, fun k hk => ⟨(h.own k hk).1, (h.own k hk).2.1, by simpa [World.size_setCell] using (h.own k hk).2.2⟩, ?_, h.le, h.lr⟩
  · rw [far A hAC, List.length_set]; exact h.a
  · rw [heap_setCell_at _ h.c]
    congr 2
    apply Array.ext'
    simp [ccells, List.map_set]
  · obtain ⟨c, h1, h2⟩ := h.pg i p hp
    exact ⟨c, (far p (hP p (List.mem_of_getElem? hp)).2).trans h1, h2⟩
  · rw [List.length_set]
    refine ⟨h.lc.1, h.lc.2.1, fun n hn => ?_⟩
    rcases List.mem_or_eq_of_mem_set hn with h1 | h1
    · exact h.lc.2.2 n h1
    · subst h1; exact hv

def storeV (cs : List Nat) (len : Nat) (a : Int) (v : Nat) : List Nat := if stepE cs.length len a = 0 then cs.set a.toNat v else cs

set_option maxRecDepth 100000 in
set_option maxHeartbeats 2000000 in
theorem store_p (a : Int) (v : Nat) (hv : v < 18446744073709551616) (h : ArenaAt W base F A cs rs ev) (hbase : base ≤ W.heap.size) :
    Calls Tryd.prog 14 #[.pointer (some ⟨A, 0, none⟩), .int .i64 a, .int .u64 (v : Int)] W fun e w' => e = .returned (.int .i64 (stepE cs.length ev.length a)) ∧ Now W base F A (storeV cs ev.length a v) rs (stepV cs.length ev 2 a) w' := by
  have KS := Lib.hid (step_p 2 a (by omega) h hbase)
  have hlm : cs.length ≤ 65536 := by obtain ⟨_, _, _, _, h⟩ := h; exact h.lc.2.1
  clear h
  by_cases hE : stepE cs.length ev.length a = 0
  · have hr : 0 ≤ a ∧ a < cs.length := by
      unfold stepE at hE
      by_cases h1 : a < 0 ∨ (cs.length : Int) ≤ a
      · rw [if_pos h1] at hE; omega
      · omega
    obtain ⟨t, rfl⟩ : ∃ t : Nat, a = t := ⟨a.toNat, by omega⟩
    have htl : t < cs.length := by omega
    have e : storeV cs ev.length (t : Int) v = cs.set t v := by unfold storeV; rw [if_pos hE, Int.toNat_natCast]
    rw [e, hE]
    rw [hE] at KS
    have i1 : (0 : Int) ≤ (t : Int) := by omega
    have i2 : (t : Int) < (cs.length : Int) := by omega
    clear e hE hr
    go_enter Tryd.func14, Tryd.ntmps14
    go_wp2_with fail
    refine KS.out.mono ?_
    rintro e w1 ⟨rfl, hN⟩
    obtain ⟨F', ⟨pv, rv, C, PL, h1⟩, hsub, hfr⟩ := hN
    obtain ⟨c0, c1, c2, c3, c4⟩ := h1.cells
    have d := h1.cellAt htl
    have d2 := free_in (i := t) h1.c
    have HS := Lib.hid (h1.stored t v hv)
    have HC := Lib.hid ((h1.own C (by simp)).1)
    have HSUB := Lib.hid hsub
    have HFR := Lib.hid hfr
    clear h1 c0 c1 c3 c4 hsub hfr
    go_wp2_with fail
    go_ret
    refine ⟨rfl, F', ⟨_, _, _, _, HS.out⟩, HSUB.out, HFR.out.os, HFR.out.tape, HFR.out.output, by simpa [World.size_setCell] using HFR.out.size, fun j hj hn => ?_⟩
    have hne : j ≠ C := fun e => by
      rcases HSUB.out C HC.out with hm | hm
      · exact hn (e ▸ hm)
      · omega
    exact (Below.heap_setCell _ _ _ _ hne).trans (HFR.out.block j hj hn)
  · have e : storeV cs ev.length a v = cs := by unfold storeV; rw [if_neg hE]
    rw [e]
    have t1 : (stepE cs.length ev.length a == 0) = false := beq_eq_false_iff_ne.2 hE
    generalize stepE cs.length ev.length a = E at *
    clear e hE
    go_enter Tryd.func14, Tryd.ntmps14
    go_wp2_with fail
    refine KS.out.mono ?_
    rintro e w1 ⟨rfl, hN⟩
    have HN := Lib.hid hN
    clear hN
    go_wp2_with fail
    go_ret
    exact ⟨rfl, HN.out⟩
end
end Go.Proofs.YtomjefplacgoeaaDoor
