/- Since, Events, Cells, New of an arena. -/
import Derived.Test.YtomjefplacgoeaaDoorArFrom
namespace Go.Proofs.YtomjefplacgoeaaDoor
open Go.RowKit

def sinceE (len : Nat) (a : Int) : Int := if a < 0 ∨ (len : Int) < a then 7 else 0
def sinceV (ev : List Ev) (a : Int) : List Ev := if sinceE ev.length a = 0 then ev.drop a.toNat else []
def SinceP (W : World) (l : List Ev) (x : Int) (e : Ending) (w' : World) : Prop := ∃ v, e = .returned (.tuple #[v, .int .i64 x]) ∧ w'.ownsRow W.heap.size 54 2 v l.length (ecells l) ∧ Below W.heap.size W w'
def EvP (W : World) (l : List Ev) (e : Ending) (w' : World) : Prop := ∃ v, e = .returned v ∧ w'.ownsRow W.heap.size 54 2 v l.length (ecells l) ∧ Below W.heap.size W w'

section
variable {W : World} {base : Nat} {F : List Nat} {A : Nat} {cs : List Nat} {rs : List Reg} {ev : List Ev}
set_option maxRecDepth 100000 in
set_option maxHeartbeats 2000000 in
theorem since_p (a : Int) (h : ArenaAt W base F A cs rs ev) :
    Calls Tryd.prog 21 #[.pointer (some ⟨A, 0, none⟩), .int .i64 a] W (SinceP W (sinceV ev a) (sinceE ev.length a)) := by
  have KN := Lib.hid (none_p h)
  have KF := Lib.hid (fun s hs => from_p s h hs)
  obtain ⟨pv, rv, C, PL, h⟩ := h
  obtain ⟨c0, c1, c2, c3, c4⟩ := h.cells
  have hle := h.le.1
  clear h c0 c2 c3 c4
  unfold sinceV
  by_cases h1 : a < 0
  · have e : sinceE ev.length a = 7 := by unfold sinceE; rw [if_pos (.inl h1)]
    rw [e, if_neg (by omega)]; clear e
    go_enter Tryd.func21, Tryd.ntmps21
    go_wp2_with fail
    refine KN.out.mono ?_
    rintro e w1 ⟨rfl, rfl⟩
    go_wp2_with fail
    go_ret2
    exact show SinceP _ _ _ _ _ from ⟨_, rfl, World.ownsRow_nil _ _ _ _, Below.refl _ _⟩
  · by_cases h2 : (ev.length : Int) < a
    · have e : sinceE ev.length a = 7 := by unfold sinceE; rw [if_pos (.inr h2)]
      rw [e, if_neg (by omega)]; clear e
      go_enter Tryd.func21, Tryd.ntmps21
      go_wp2_with fail
      refine KN.out.mono ?_
      rintro e w1 ⟨rfl, rfl⟩
      go_wp2_with fail
      go_ret2
      exact show SinceP _ _ _ _ _ from ⟨_, rfl, World.ownsRow_nil _ _ _ _, Below.refl _ _⟩
    · obtain ⟨t, rfl⟩ : ∃ t : Nat, a = t := ⟨a.toNat, by omega⟩
      have e : sinceE ev.length (t : Int) = 0 := by unfold sinceE; rw [if_neg (by omega)]
      rw [e, if_pos rfl, Int.toNat_natCast]; clear e
      have KF2 := Lib.hid (KF.out t (by omega))
      rw [show ev.length - t = (ev.drop t).length by rw [List.length_drop]] at KF2
      clear KF
      generalize ev.drop t = L at *
      go_enter Tryd.func21, Tryd.ntmps21
      go_wp2_with fail
      refine KN.out.mono ?_
      rintro e w1 ⟨rfl, rfl⟩
      go_wp2_with fail
      refine KF2.out.mono ?_
      rintro e w2 ⟨v, rfl, hown, hb⟩
      have HO := Lib.hid hown
      have HB := Lib.hid hb
      clear hown hb c1
      go_wp2_with fail
      go_ret2
      exact show SinceP _ _ _ _ _ from ⟨_, rfl, HO.out, HB.out⟩

set_option maxRecDepth 100000 in
set_option maxHeartbeats 2000000 in
theorem events_p (h : ArenaAt W base F A cs rs ev) :
    Calls Tryd.prog 26 #[.pointer (some ⟨A, 0, none⟩)] W (EvP W ev) := by
  have KS := Lib.hid (since_p 0 h)
  have e1 : sinceE ev.length 0 = 0 := by unfold sinceE; rw [if_neg (by omega)]
  have e2 : sinceV ev 0 = ev := by unfold sinceV; rw [if_pos e1]; rfl
  rw [e1, e2] at KS
  clear e1 e2 h
  go_enter Tryd.func26, Tryd.ntmps26
  go_wp2_with fail
  refine KS.out.mono ?_
  rintro e w1 ⟨v, rfl, hown, hb⟩
  have HO := Lib.hid hown
  have HB := Lib.hid hb
  clear hown hb
  go_wp2_with fail
  go_ret
  exact show EvP _ _ _ _ from ⟨_, rfl, HO.out, HB.out⟩

theorem infoU64 : (Tryd.prog.info? 31).map (fun i => (i.zero, i.size, i.bytes)) = some (some (.int .u64 0), 1, 8) := by kernel_rfl
theorem ccells_one (l : List Nat) : ∀ u ∈ ccells l, u.oneCell' = true := by
  intro u hu
  simp only [ccells, List.mem_map] at hu
  obtain ⟨n, _, rfl⟩ := hu
  rfl
theorem eq_slice (a : Addr) (n c : Nat) (w : World) : (binOp .eql 30 (.slice (some a) n c) (.slice none 0 0)).run Tryd.prog w = .ok (.bool false) w := by kernel_rfl
def CellsP (W : World) (l : List Nat) (e : Ending) (w' : World) : Prop := ∃ v, e = .returned v ∧ w'.ownsRow W.heap.size 31 1 v l.length (ccells l) ∧ Below W.heap.size W w'

set_option maxRecDepth 100000 in
set_option maxHeartbeats 2000000 in
theorem clone_p (C : Nat) (l : List Nat) (w : World) (h : w.heap[C]? = some (.cells (ccells l).toArray 31)) (hl : l.length ≤ 65536) (h1 : 1 ≤ l.length) :
    Calls Tryd.prog 37 #[.slice (some ⟨C, 0, none⟩) l.length l.length] w (CellsP w l) := by
  obtain ⟨i0, hi, hz0, hz1, hz2⟩ := info_parts infoU64
  have HC := Lib.hid h
  have hlt : C < w.heap.size := (Array.getElem?_eq_some_iff.1 h).1
  have o0 : (w.alloc (.cells #[] 31)).ownsRow w.heap.size 31 1 (.slice (some ⟨w.heap.size, 0, none⟩) 0 0) 0 [] := World.ownsRow_lit w #[] 0 (Nat.le_refl _) (by decide) rfl
  have hc1 : (w.alloc (.cells #[] 31)).heap[C]? = some (.cells (ccells l).toArray 31) := (Below.heap_alloc _ _ _ hlt).trans h
  have HO := Lib.hid o0
  have HC1 := Lib.hid hc1
  clear h o0 hc1
  have es := eq_slice
  go_enter Tryd.func37, Tryd.ntmps37
  go_wp2_with (at_builtin; refine wpList_append_lies _ rfl _ _ _ rfl w.heap.size 31 i0 _ 1 8 Tryd.underlying30 hi hz0 hz1 hz2 rfl (by decide) _ 0 _ rfl HO.out ⟨C, 0, none⟩ l.length l.length (ccells l) rfl (by simp [ccells]) (by have := World.news_of_block HC1.out; simpa using this) (ccells_one l) (by omega) (by unfold maxLen; omega) (by omega) (by simp) (w.heap.size + 1) (by simp) ?_; intro g9 cap9 w9 hown9 hgrow9 hat9 hlt9)
  have hb9 : Below w.heap.size w w9 := ((Below.refl _ _).alloc (Nat.le_refl _) _).grown hgrow9 (by simp) (fun q e => by cases e; exact Nat.le_refl _)
  go_ret
  refine show CellsP _ _ _ _ from ⟨_, rfl, ?_, hb9⟩
  simpa using hown9

set_option maxRecDepth 100000 in
set_option maxHeartbeats 2000000 in
theorem cells_p (h : ArenaAt W base F A cs rs ev) :
    Calls Tryd.prog 16 #[.pointer (some ⟨A, 0, none⟩)] W (CellsP W cs) := by
  have KN := Lib.hid (none_p h)
  obtain ⟨pv, rv, C, PL, h⟩ := h
  obtain ⟨c0, c1, c2, c3, c4⟩ := h.cells
  have KC := Lib.hid (clone_p C cs W h.c h.lc.2.1 h.lc.1)
  clear h c0 c1 c3 c4
  go_enter Tryd.func16, Tryd.ntmps16
  go_wp2_with fail
  refine KN.out.mono ?_
  rintro e w1 ⟨rfl, rfl⟩
  go_wp2_with fail
  refine KC.out.mono ?_
  rintro e w2 ⟨v, rfl, hown, hb⟩
  have HO := Lib.hid hown
  have HB := Lib.hid hb
  clear hown hb c2
  go_wp2_with fail
  go_ret
  exact show CellsP _ _ _ _ from ⟨_, rfl, HO.out, HB.out⟩
end
end Go.Proofs.YtomjefplacgoeaaDoor
