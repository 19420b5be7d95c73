/- Find, Regions of an arena. -/
import Derived.Test.YtomjefplacgoeaaDoorArRegion
namespace Go.Proofs.YtomjefplacgoeaaDoor
open Go.RowKit

def findE (rs : List Reg) (nm : List UInt8) : Int := if 0 ≤ idxR rs nm then 0 else 4
def findV (rs : List Reg) (nm : List UInt8) : Reg := if 0 ≤ idxR rs nm then rs.getD (idxR rs nm).toNat ([], 0, 0) else ([], 0, 0)
theorem idxR_lt {rs : List Reg} {nm : List UInt8} (h : 0 ≤ idxR rs nm) : ∃ i, idxR rs nm = (i : Nat) ∧ ∃ hi : i < rs.length, rs[i].1 = nm ∧ ∀ j (hj : j < i), (rs[j]'(by omega)).1 ≠ nm := by
  unfold idxR at *
  by_cases ha : rs.any (fun r => decide (r.1 = nm)) = true
  · rw [if_pos ha]
    have hl : rs.findIdx (fun r => decide (r.1 = nm)) < rs.length := List.findIdx_lt_length_of_exists (by
      rw [List.any_eq_true] at ha; exact ha)
    refine ⟨_, rfl, hl, ?_, fun j hj => ?_⟩
    · have := List.findIdx_getElem (p := fun r : Reg => decide (r.1 = nm)) (w := hl)
      simpa using this
    · have := List.not_of_lt_findIdx hj
      simpa using this
  · rw [if_neg ha] at h; omega
def FindP (W : World) (r : Reg) (x : Int) (e : Ending) (w' : World) : Prop := e = .returned (.tuple #[.agg #[.string (str r.1), .int .i64 r.2.1, .int .i64 r.2.2], .int .i64 x]) ∧ Below W.heap.size W w'
def RegsP (W : World) (l : List Reg) (e : Ending) (w' : World) : Prop := ∃ v, e = .returned v ∧ w'.ownsRow W.heap.size 43 3 v l.length (rcells l) ∧ Below W.heap.size W w'
section
variable {W : World} {base : Nat} {F : List Nat} {A : Nat} {cs : List Nat} {rs : List Reg} {ev : List Ev}
theorem find_fin (r : Reg) (x : Int) (w2 : World) (a : Act) (h0 : w2.cell? ⟨W.heap.size, 0, none⟩ = some (.string (str r.1))) (h1 : w2.cell? ⟨W.heap.size, 1, none⟩ = some (.int .i64 r.2.1)) (h2 : w2.cell? ⟨W.heap.size, 2, none⟩ = some (.int .i64 r.2.2))
    (hB : Below W.heap.size W w2) (h4 : a.tmps[4]?.getD undef = .pointer (some ⟨W.heap.size, 0, none⟩)) (h5 : a.tmps[5]?.getD undef = .int .i64 x) (hd : a.defers = []) :
    bodyPost Tryd.prog Tryd.f18 (FindP W r x) .ret a w2 :=
  bodyPost_ret (v := .tuple #[.agg #[.string (str r.1), .int .i64 r.2.1, .int .i64 r.2.2], .int .i64 x]) (by simp [results, Tryd.results18, go_sem, h4, h5, h0, h1, h2]) hd ⟨rfl, hB⟩
theorem cell_set3 {w : World} {b : Nat} {t : TypeId} {x y z x' y' z' : Value} (h : w.heap[b]? = some (.cells #[x, y, z] t)) :
    (((w.setCell ⟨b, 0, none⟩ x').setCell ⟨b, 1, none⟩ y').setCell ⟨b, 2, none⟩ z').heap[b]? = some (.cells #[x', y', z'] t) := by
  have e1 := heap_setCell_at (o := 0) (v := x') h
  have e2 := heap_setCell_at (o := 1) (v := y') e1
  have e3 := heap_setCell_at (o := 2) (v := z') e2
  rw [e3]; simp
set_option maxRecDepth 100000 in
set_option maxHeartbeats 2000000 in
theorem find_p (nm : List UInt8) (h : ArenaAt W base F A cs rs ev) :
    Calls Tryd.prog 18 #[.pointer (some ⟨A, 0, none⟩), .string (str nm)] W (FindP W (findV rs nm) (findE rs nm)) := by
  have HB0 := Lib.hid ((Below.refl W.heap.size W).alloc (Nat.le_refl _) (.cells #[.string ⟨#[]⟩, .int .i64 0, .int .i64 0] 43))
  have h0 := h.below HB0.out
  have HZ := Lib.hid (show (W.alloc (.cells #[.string ⟨#[]⟩, .int .i64 0, .int .i64 0] 43)).heap[W.heap.size]? = some (.cells #[.string ⟨#[]⟩, .int .i64 0, .int .i64 0] 43) from heap_alloc_new _ _)
  have KN := Lib.hid (none_p h0)
  have KP := Lib.hid (place_p nm h0)
  have HH := Lib.hid h0
  have c4 : (W.alloc (.cells #[.string ⟨#[]⟩, .int .i64 0, .int .i64 0] 43)).cell? ⟨A, 4, none⟩ = some (.func (.func 34) #[.pointer (some ⟨A, 0, none⟩)] #[]) := by
    obtain ⟨pv, rv, C, PL, h0⟩ := h0
    exact h0.cells.2.2.2.2
  have hlA : A < W.heap.size := by obtain ⟨_, _, _, _, h⟩ := h; exact h.lt
  clear h h0
  go_enter Tryd.func18, Tryd.ntmps18
  go_wp2_with fail
  refine KN.out.mono ?_
  rintro e w1 ⟨rfl, rfl⟩
  go_wp2_with fail
  refine KP.out.mono ?_
  rintro e w1 ⟨rfl, hb⟩
  have HB1 := Lib.hid (next HB0.out (hb.mono (by simp)))
  have hz1 : w1.heap[W.heap.size]? = some (.cells #[.string ⟨#[]⟩, .int .i64 0, .int .i64 0] 43) := (hb.block _ (by simp)).trans HZ.out
  have f0 := free_in (i := 0) hz1
  have f1 := free_in (i := 1) hz1
  have f2 := free_in (i := 2) hz1
  have g0 := cell_in (i := 0) hz1 rfl
  have g1 := cell_in (i := 1) hz1 rfl
  have g2 := cell_in (i := 2) hz1 rfl
  by_cases h1 : 0 ≤ idxR rs nm
  · obtain ⟨i, hi, hil, hin, hij⟩ := idxR_lt h1
    have e1 : findV rs nm = rs[i] := by unfold findV; rw [if_pos h1, hi, Int.toNat_natCast, List.getD_eq_getElem?_getD, List.getElem?_eq_getElem hil]; rfl
    have e2 : findE rs nm = 0 := by unfold findE; rw [if_pos h1]
    have E1 := Lib.hid e1
    have E2 := Lib.hid e2
    rw [hi]
    obtain ⟨pv, rv, C, PL, hI⟩ := HH.out.below hb
    obtain ⟨c0, c1, c2, c3, c4'⟩ := hI.cells
    have hregs : Regs w1 rv rs := Row.of_owns hI.r
    obtain ⟨ra, rcap, rfl⟩ := Row.form2 hregs
    obtain ⟨g, o, hga, hg, d0, d1, d2⟩ := Regs.at hregs hil
    subst hga
    have i1 : (0 : Int) ≤ (i : Int) := by omega
    have i2 : (i : Int) < (rs.length : Int) := by omega
    have HE := Lib.hid (cell_set3 (x' := .string (str rs[i].1)) (y' := .int .i64 rs[i].2.1) (z' := .int .i64 rs[i].2.2) hz1)
    clear hb hz1 hI c0 c1 c2 c4' hregs e1 e2 h1 hi hin hij hg c4
    go_wp2_with fail
    rw [E1.out, E2.out]
    exact find_fin rs[i] 0 _ _ (cell_in HE.out rfl) (cell_in HE.out rfl) (cell_in HE.out rfl) (((HB1.out.setCell (Nat.le_refl _) _).setCell (Nat.le_refl _) _).setCell (Nat.le_refl _) _) rfl rfl rfl
  · have e1 : findV rs nm = ([], 0, 0) := by unfold findV; rw [if_neg h1]
    have e2 : findE rs nm = 4 := by unfold findE; rw [if_neg h1]
    have E1 := Lib.hid e1
    have E2 := Lib.hid e2
    have HE := Lib.hid (cell_set3 (x' := .string ⟨#[]⟩) (y' := .int .i64 0) (z' := .int .i64 0) hz1)
    clear hb hz1 e1 e2 c4
    generalize idxR rs nm = I at *
    go_wp2_with fail
    rw [E1.out, E2.out]
    exact find_fin ([], 0, 0) 4 _ _ (cell_in HE.out rfl) (cell_in HE.out rfl) (cell_in HE.out rfl) (((HB1.out.setCell (Nat.le_refl _) _).setCell (Nat.le_refl _) _).setCell (Nat.le_refl _) _) rfl rfl rfl
end

theorem eq_regs (a : Addr) (n c : Nat) (w : World) : (binOp .eql 46 (.slice (some a) n c) (.slice none 0 0)).run Tryd.prog w = .ok (.bool false) w := by kernel_rfl
theorem eq_regs0 (w : World) : (binOp .eql 46 (.slice none 0 0) (.slice none 0 0)).run Tryd.prog w = .ok (.bool true) w := by kernel_rfl
theorem rcells_one (l : List Reg) : ∀ u ∈ rcells l, u.oneCell' = true := by
  intro u hu
  simp only [rcells, List.mem_flatMap] at hu
  obtain ⟨r, _, hu⟩ := hu
  simp only [rcell, List.mem_cons, List.not_mem_nil, or_false] at hu
  rcases hu with rfl | rfl | rfl <;> rfl
set_option maxRecDepth 100000 in
set_option maxHeartbeats 2000000 in
theorem cloneR_p {base : Nat} (v : Value) (l : List Reg) (w : World) (h : w.ownsRow base 43 3 v l.length (rcells l)) (hl : l.length ≤ 64) :
    Calls Tryd.prog 39 #[v] w (RegsP w l) := by
  obtain ⟨i0, hi, hz0, hz1, hz2⟩ := info_parts infoReg
  have hll := rcells_len l
  obtain ⟨h1, h2⟩ := h
  rcases h2 with ⟨rfl, h0⟩ | ⟨g, cap, cur, rfl, hgb, hg, hn, hc, hs, ht⟩
  · have e : l = [] := List.length_eq_zero_iff.1 h0
    subst e
    have es := eq_regs0
    clear h1 h0 hll
    go_enter Tryd.func39, Tryd.ntmps39
    go_wp2_with fail
    go_ret
    exact show RegsP _ _ _ _ from ⟨_, rfl, World.ownsRow_nil _ _ _ _, Below.refl _ _⟩
  · have hg1 : (w.alloc (.cells #[] 43)).heap[g]? = some (.cells cur 43) := (Below.heap_alloc _ _ _ (Array.getElem?_eq_some_iff.1 hg).1).trans hg
    have o0 : (w.alloc (.cells #[] 43)).ownsRow w.heap.size 43 3 (.slice (some ⟨w.heap.size, 0, none⟩) 0 0) 0 [] := World.ownsRow_lit w #[] 0 (Nat.le_refl _) (by decide) rfl
    have HO := Lib.hid o0
    have HG := Lib.hid hg1
    have HT := Lib.hid ht
    have HS := Lib.hid hs
    have es := eq_regs
    have news : ∀ j u, (rcells l)[j]? = some u → (w.alloc (.cells #[] 43)).cell? ((⟨g, 0, none⟩ : Addr).add j) = some u := fun j u hu => by
      refine World.news_of_block hg1 j u ?_
      rw [← ht, List.getElem?_take] at hu
      split at hu
      · exact hu
      · exact absurd hu (by simp)
    have HN := Lib.hid news
    have HL1 := Lib.hid h1
    clear h1 o0 hg1 news ht hg hs hc hn
    by_cases hl0 : l.length = 0
    · have e : l = [] := List.length_eq_zero_iff.1 hl0
      subst e
      clear hl0 hl hll
      go_enter Tryd.func39, Tryd.ntmps39
      go_wp2_with fail
      go_ret
      exact show RegsP _ _ _ _ from ⟨_, rfl, HO.out, (Below.refl _ _).alloc (Nat.le_refl _) _⟩
    · go_enter Tryd.func39, Tryd.ntmps39
      go_wp2_with (at_builtin; refine wpList_append_lies _ rfl _ _ _ rfl w.heap.size 43 i0 _ 3 32 Tryd.underlying46 hi hz0 hz1 hz2 rfl (by decide) _ 0 _ rfl HO.out ⟨g, 0, none⟩ l.length cap (rcells l) rfl hll HN.out (rcells_one l) (by omega) (by unfold maxLen; omega) (by omega) (by simp) (w.heap.size + 1) (by simp) ?_; intro g9 cap9 w9 hown9 hgrow9 hat9 hlt9)
      have hb9 : Below w.heap.size w w9 := ((Below.refl _ _).alloc (Nat.le_refl _) _).grown hgrow9 (by simp) (fun q e => by cases e; exact Nat.le_refl _)
      go_ret
      refine show RegsP _ _ _ _ from ⟨_, rfl, ?_, hb9⟩
      simpa using hown9

section
variable {W : World} {base : Nat} {F : List Nat} {A : Nat} {cs : List Nat} {rs : List Reg} {ev : List Ev}
set_option maxRecDepth 100000 in
set_option maxHeartbeats 2000000 in
theorem regions_p (h : ArenaAt W base F A cs rs ev) :
    Calls Tryd.prog 19 #[.pointer (some ⟨A, 0, none⟩)] W (RegsP W rs) := by
  have KN := Lib.hid (none_p h)
  obtain ⟨pv, rv, C, PL, h⟩ := h
  obtain ⟨c0, c1, c2, c3, c4⟩ := h.cells
  have KC := Lib.hid (cloneR_p rv rs W h.r h.lr)
  clear h c0 c1 c2 c4
  go_enter Tryd.func19, Tryd.ntmps19
  go_wp2_with fail
  refine KN.out.mono ?_
  rintro e w1 ⟨rfl, rfl⟩
  go_wp2_with fail
  refine KC.out.mono ?_
  rintro e w2 ⟨v, rfl, hown, hb⟩
  have HO := Lib.hid hown
  have HB := Lib.hid hb
  clear hown hb c3
  go_wp2_with fail
  go_ret
  exact show RegsP _ _ _ _ from ⟨_, rfl, HO.out, HB.out⟩
end
end Go.Proofs.YtomjefplacgoeaaDoor
