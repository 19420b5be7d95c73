/- The reference's arena: representation, none, Has, Room, Steps, Forget, step, Load, Store. Printed by tools/gen_arb.py. -/
import Derived.Test.YtomjefplacgoeaaDoorArArg
namespace Go.Proofs.YtomjefplacgoeaaDoor
open Go.RowKit

/-- the reference's arena at the block A -/
structure RefIn (W : World) (base : Nat) (F : List Nat) (A : Nat) (cs : List Nat) (rs : List Reg) (ev : List Ev) (rv vv : Value) (C : Nat) : Prop where
  a : W.heap[A]? = some (.cells #[.slice (some ⟨C, 0, none⟩) cs.length cs.length, rv, vv] 77)
  c : W.heap[C]? = some (.cells (ccells cs).toArray 31)
  r : W.ownsRow base 43 3 rv rs.length (rcells rs)
  v : W.ownsRow base 54 2 vv ev.length (ecells ev)
  nd : (A :: C :: (blockOf rv ++ blockOf vv)).Nodup
  own : ∀ k ∈ A :: C :: (blockOf rv ++ blockOf vv), k ∈ F ∧ base ≤ k ∧ k < W.heap.size
  lc : 1 ≤ cs.length ∧ cs.length ≤ 65536 ∧ ∀ n ∈ cs, n < 18446744073709551616
  le : ev.length ≤ 8388608 ∧ ∀ e ∈ ev, e.1 < 4 ∧ e.2 < 65536
  lr : rs.length ≤ 64
def RefAt (W : World) (base : Nat) (F : List Nat) (A : Nat) (cs : List Nat) (rs : List Reg) (ev : List Ev) : Prop := ∃ rv vv C, RefIn W base F A cs rs ev rv vv C
theorem RefAt.keep {W W' : World} {base : Nat} {F : List Nat} {A : Nat} {cs : List Nat} {rs : List Reg} {ev : List Ev} (h : RefAt W base F A cs rs ev)
    (hk : ∀ k ∈ F, W'.heap[k]? = W.heap[k]?) (hs : W.heap.size ≤ W'.heap.size) : RefAt W' base F A cs rs ev := by
  obtain ⟨rv, vv, C, h⟩ := h
  have hm : ∀ k ∈ A :: C :: (blockOf rv ++ blockOf vv), W'.heap[k]? = W.heap[k]? := fun k hkm => hk k (h.own k hkm).1
  exact ⟨rv, vv, C, (hm A (by simp)).trans h.a, (hm C (by simp)).trans h.c, owns_keep h.r (fun k hk => hm k (by simp [hk])), owns_keep h.v (fun k hk => hm k (by simp [hk])),
    h.nd, fun k hkm => ⟨(h.own k hkm).1, (h.own k hkm).2.1, Nat.lt_of_lt_of_le (h.own k hkm).2.2 hs⟩, h.lc, h.le, h.lr⟩
section
variable {W : World} {base : Nat} {F : List Nat} {A : Nat} {cs : List Nat} {rs : List Reg} {ev : List Ev} {rv vv : Value} {C : Nat}
theorem RefIn.cells (h : RefIn W base F A cs rs ev rv vv C) :
    W.cell? ⟨A, 0, none⟩ = some (.slice (some ⟨C, 0, none⟩) cs.length cs.length) ∧ W.cell? ⟨A, 1, none⟩ = some rv ∧ W.cell? ⟨A, 2, none⟩ = some vv :=
  ⟨cell_in h.a rfl, cell_in h.a rfl, cell_in h.a rfl⟩
theorem RefIn.parts (h : RefIn W base F A cs rs ev rv vv C) : A ≠ C ∧ (∀ k ∈ blockOf rv, k ≠ A ∧ k ≠ C) ∧ (∀ k ∈ blockOf vv, k ≠ A ∧ k ≠ C) ∧ (∀ k ∈ blockOf rv, k ∉ blockOf vv) := by
  have := h.nd
  simp only [List.nodup_cons, List.mem_cons, List.mem_append, not_or, List.nodup_append] at this
  obtain ⟨⟨h1, h2, h3⟩, ⟨h4, h5⟩, h6, h7, h8⟩ := this
  exact ⟨h1, fun k hk => ⟨fun e => h2 (e ▸ hk), fun e => h4 (e ▸ hk)⟩, fun k hk => ⟨fun e => h3 (e ▸ hk), fun e => h5 (e ▸ hk)⟩, fun k hk hv => h8 k hk k hv rfl⟩
theorem RefIn.len (h : RefIn W base F A cs rs ev rv vv C) : ∃ a cap, vv = .slice a ev.length cap := Row.form2 (Row.of_owns h.v)
theorem RefIn.lenR (h : RefIn W base F A cs rs ev rv vv C) : ∃ a cap, rv = .slice a rs.length cap := Row.form2 (Row.of_owns h.r)
theorem RefIn.cellAt (h : RefIn W base F A cs rs ev rv vv C) {t : Nat} (ht : t < cs.length) : W.cell? ⟨C, t, none⟩ = some (.int .u64 (cs[t] : Int)) :=
  cell_in h.c (by simp [ccells, List.getElem?_eq_getElem ht])
theorem RefIn.stored (h : RefIn W base F A cs rs ev rv vv C) (t v : Nat) (hv : v < 18446744073709551616) :
    RefIn (W.setCell ⟨C, t, none⟩ (.int .u64 (v : Int))) base F A (cs.set t v) rs ev rv vv C := by
  obtain ⟨hAC, hrv, hvv, _⟩ := h.parts
  have far : ∀ k, k ≠ C → (W.setCell ⟨C, t, none⟩ (.int .u64 (v : Int))).heap[k]? = W.heap[k]? := fun k hk => Below.heap_setCell _ _ _ _ hk
  refine ⟨?_, ?_, owns_keep h.r (fun k hk => far k (hrv k hk).2), owns_keep h.v (fun k hk => far k (hvv k hk).2), h.nd, fun k hk => ⟨(h.own k hk).1, (h.own k hk).2.1, by simpa [World.size_setCell] using (h.own k hk).2.2⟩, ?_, h.le, h.lr⟩
  · rw [far A hAC, List.length_set]; exact h.a
  · rw [heap_setCell_at _ h.c]
    congr 2
    apply Array.ext'
    simp [ccells, List.map_set]
  · rw [List.length_set]
    refine ⟨h.lc.1, h.lc.2.1, fun n hn => ?_⟩
    rcases List.mem_or_eq_of_mem_set hn with h1 | h1
    · exact h.lc.2.2 n h1
    · subst h1; exact hv
theorem RefIn.forget (h : RefIn W base F A cs rs ev rv vv C) : RefIn (W.setCell ⟨A, 2, none⟩ (.slice none 0 0)) base F A cs rs [] rv (.slice none 0 0) C := by
  obtain ⟨hAC, hrv, hvv, _⟩ := h.parts
  have far : ∀ k, k ≠ A → (W.setCell ⟨A, 2, none⟩ (.slice none 0 0)).heap[k]? = W.heap[k]? := fun k hk => Below.heap_setCell _ _ _ _ hk
  have hsub : ∀ k, k ∈ A :: C :: (blockOf rv ++ blockOf (.slice none 0 0)) → k ∈ A :: C :: (blockOf rv ++ blockOf vv) := fun k hk => by
    simp [blockOf, Value.ownBlock] at hk ⊢
    rcases hk with hk | hk | hk <;> simp [hk]
  refine ⟨?_, (far C (Ne.symm hAC)).trans h.c, owns_keep h.r (fun k hk => far k (hrv k hk).1), World.ownsRow_nil _ _ _ _, ?_, fun k hk => ⟨(h.own k (hsub k hk)).1, (h.own k (hsub k hk)).2.1, by simpa [World.size_setCell] using (h.own k (hsub k hk)).2.2⟩, h.lc, ⟨by simp, fun e he => by simp at he⟩, h.lr⟩
  · rw [heap_setCell_at _ h.a]; rfl
  · have hn : (A :: C :: (blockOf rv ++ blockOf vv)).Nodup := h.nd
    refine hn.sublist (List.Sublist.cons_cons _ (List.Sublist.cons_cons _ ?_))
    simp [blockOf, Value.ownBlock]

set_option maxRecDepth 100000 in
set_option maxHeartbeats 2000000 in
theorem rnone_p (h : RefAt W base F A cs rs ev) :
    Calls Tryd.prog 49 #[.pointer (some ⟨A, 0, none⟩)] W fun e w' => e = .returned (.bool false) ∧ W = w' := by
  obtain ⟨rv, vv, C, h⟩ := h
  obtain ⟨c0, c1, c2⟩ := h.cells
  have hl := h.lc.1
  have t1 : ((cs.length : Int) == 0) = false := beq_eq_false_iff_ne.2 (by omega)
  clear h
  go_enter Tryd.func49, Tryd.ntmps49
  go_wp2_with fail
  go_ret
  exact ⟨rfl, rfl⟩
set_option maxRecDepth 100000 in
set_option maxHeartbeats 2000000 in
theorem rhas_p (f k : Int) (h : RefAt W base F A cs rs ev) :
    Calls Tryd.prog 45 #[.pointer (some ⟨A, 0, none⟩), .int .i64 f, .int .i64 k] W fun e w' => e = .returned (.int .i64 (hasE cs.length f k)) ∧ W = w' := by
  have KN := Lib.hid (rnone_p h)
  obtain ⟨rv, vv, C, h⟩ := h
  obtain ⟨c0, c1, c2⟩ := h.cells
  have hl := h.lc.2.1
  clear h c1 c2
  generalize cs.length = n at *
  by_cases h1 : f < 0
  · have e : hasE n f k = 7 := by unfold hasE; rw [if_pos (by omega)]
    rw [e]; clear e
    go_enter Tryd.func45, Tryd.ntmps45
    go_wp2_with fail
    refine KN.out.mono ?_
    rintro e w1 ⟨rfl, rfl⟩
    go_wp2_with fail
    go_ret
    exact ⟨rfl, rfl⟩
  · by_cases h3 : k < 0
    · have e : hasE n f k = 7 := by unfold hasE; rw [if_pos (by omega)]
      rw [e]; clear e
      go_enter Tryd.func45, Tryd.ntmps45
      go_wp2_with fail
      refine KN.out.mono ?_
      rintro e w1 ⟨rfl, rfl⟩
      go_wp2_with fail
      go_ret
      exact ⟨rfl, rfl⟩
    · by_cases h2 : (n : Int) < f
      · have e : hasE n f k = 7 := by unfold hasE; rw [if_pos (by omega)]
        rw [e]; clear e
        go_enter Tryd.func45, Tryd.ntmps45
        go_wp2_with fail
        refine KN.out.mono ?_
        rintro e w1 ⟨rfl, rfl⟩
        go_wp2_with fail
        go_ret
        exact ⟨rfl, rfl⟩
      · have wn : IntKind.i64.wrap ((n : Int) - f) = (n : Int) - f := IntWalk.i64_in _ (by omega)
        by_cases h4 : (n : Int) - f < k
        · have e : hasE n f k = 7 := by unfold hasE; rw [if_pos (by omega)]
          rw [e]; clear e
          go_enter Tryd.func45, Tryd.ntmps45
          go_wp2_with fail
          refine KN.out.mono ?_
          rintro e w1 ⟨rfl, rfl⟩
          go_wp2_with fail
          go_ret
          exact ⟨rfl, rfl⟩
        · have e : hasE n f k = 0 := by unfold hasE; rw [if_neg (by omega)]
          rw [e]; clear e
          go_enter Tryd.func45, Tryd.ntmps45
          go_wp2_with fail
          refine KN.out.mono ?_
          rintro e w1 ⟨rfl, rfl⟩
          go_wp2_with fail
          go_ret
          exact ⟨rfl, rfl⟩
set_option maxRecDepth 100000 in
set_option maxHeartbeats 2000000 in
theorem rroom_p (k : Int) (h : RefAt W base F A cs rs ev) :
    Calls Tryd.prog 48 #[.pointer (some ⟨A, 0, none⟩), .int .i64 k] W fun e w' => e = .returned (.int .i64 (roomE ev.length k)) ∧ W = w' := by
  have KN := Lib.hid (rnone_p h)
  obtain ⟨rv, vv, C, h⟩ := h
  obtain ⟨c0, c1, c2⟩ := h.cells
  obtain ⟨va, vcap, rfl⟩ := h.len
  have hl := h.le.1
  clear h c1 c0
  generalize ev.length = n at *
  by_cases h1 : k < 0
  · have e : roomE n k = 7 := by unfold roomE; rw [if_pos h1]
    rw [e]; clear e
    go_enter Tryd.func48, Tryd.ntmps48
    go_wp2_with fail
    refine KN.out.mono ?_
    rintro e w1 ⟨rfl, rfl⟩
    go_wp2_with fail
    go_ret
    exact ⟨rfl, rfl⟩
  · have wn : IntKind.i64.wrap (8388608 - (n : Int)) = 8388608 - (n : Int) := IntWalk.i64_in _ (by omega)
    by_cases h2 : 8388608 - (n : Int) < k
    · have e : roomE n k = 3 := by unfold roomE; rw [if_neg h1, if_pos h2]
      rw [e]; clear e
      go_enter Tryd.func48, Tryd.ntmps48
      go_wp2_with fail
      refine KN.out.mono ?_
      rintro e w1 ⟨rfl, rfl⟩
      go_wp2_with fail
      go_ret
      exact ⟨rfl, rfl⟩
    · have e : roomE n k = 0 := by unfold roomE; rw [if_neg h1, if_neg h2]
      rw [e]; clear e
      go_enter Tryd.func48, Tryd.ntmps48
      go_wp2_with fail
      refine KN.out.mono ?_
      rintro e w1 ⟨rfl, rfl⟩
      go_wp2_with fail
      go_ret
      exact ⟨rfl, rfl⟩
set_option maxRecDepth 100000 in
set_option maxHeartbeats 2000000 in
theorem rsteps_p (h : RefAt W base F A cs rs ev) :
    Calls Tryd.prog 29 #[.pointer (some ⟨A, 0, none⟩)] W fun e w' => e = .returned (.int .i64 (ev.length : Int)) ∧ W = w' := by
  have KN := Lib.hid (rnone_p h)
  obtain ⟨rv, vv, C, h⟩ := h
  obtain ⟨c0, c1, c2⟩ := h.cells
  obtain ⟨va, vcap, rfl⟩ := h.len
  clear h c1 c0
  go_enter Tryd.func29, Tryd.ntmps29
  go_wp2_with fail
  refine KN.out.mono ?_
  rintro e w1 ⟨rfl, rfl⟩
  go_wp2_with fail
  go_ret
  exact ⟨rfl, rfl⟩
/-- the arena behind a call -/
def RNow (W : World) (base : Nat) (F : List Nat) (A : Nat) (cs : List Nat) (rs : List Reg) (ev : List Ev) (w' : World) : Prop :=
  ∃ F', RefAt w' base F' A cs rs ev ∧ (∀ j ∈ F', j ∈ F ∨ W.heap.size ≤ j) ∧ Fr F W w'
theorem RNow.refl (h : RefAt W base F A cs rs ev) : RNow W base F A cs rs ev W := ⟨F, h, fun _ hj => .inl hj, Fr.refl _ _⟩
theorem RNow.mk' {w' : World} {rv' vv' : Value} {C' : Nat} (h : RefIn w' base (F ++ [W.heap.size + 1]) A cs rs ev rv' vv' C') (hf : Fr F W w') : RNow W base F A cs rs ev w' :=
  ⟨_, ⟨_, _, _, h⟩, fun j hj => by
    rcases List.mem_append.1 hj with hj | hj
    · exact .inl hj
    · rw [List.mem_singleton] at hj; right; omega, hf⟩
theorem RNow.below {w' : World} (h : RefAt W base F A cs rs ev) (hb : Below W.heap.size W w') (hF : ∀ k ∈ F, k < W.heap.size) : RNow W base F A cs rs ev w' :=
  ⟨F, h.keep (fun k hk => hb.block k (hF k hk)) hb.size, fun _ hj => .inl hj, Fr.of_below _ hb⟩
set_option maxRecDepth 100000 in
set_option maxHeartbeats 2000000 in
theorem rforget_p (h : RefAt W base F A cs rs ev) :
    Calls Tryd.prog 46 #[.pointer (some ⟨A, 0, none⟩)] W fun e w' => e = .returned (.int .i64 0) ∧ RNow W base F A cs rs [] w' := by
  have KN := Lib.hid (rnone_p h)
  obtain ⟨rv, vv, C, h⟩ := h
  obtain ⟨c0, c1, c2⟩ := h.cells
  have f2 := free_in (i := 2) h.a
  have HF := Lib.hid h.forget
  have HA := Lib.hid ((h.own A (by simp)).1)
  clear h c0 c1
  go_enter Tryd.func46, Tryd.ntmps46
  go_wp2_with fail
  refine KN.out.mono ?_
  rintro e w1 ⟨rfl, rfl⟩
  go_wp2_with fail
  go_ret
  refine ⟨rfl, F, ⟨_, _, _, HF.out⟩, fun _ hj => .inl hj, rfl, rfl, rfl, by simp [World.size_setCell], fun k hk hn => ?_⟩
  have hk : k ≠ A := fun e => hn (e ▸ HA.out)
  rw [Below.heap_setCell _ _ _ _ hk]
theorem RefIn.logged (h : RefIn W base F A cs rs ev rv vv C) (hbase : base ≤ W.heap.size) (e : Ev) (hr : ev.length < 8388608) (he : e.1 < 4 ∧ e.2 < 65536) {o : Obj} {W3 : World} {g cap : Nat}
    (hown : W3.ownsRow base 54 2 (.slice (some ⟨g, 0, none⟩) (ev.length + 1) cap) (ev.length + 1) (ecells ev ++ [.int .i32 (e.1 : Int), .int .i32 (e.2 : Int)]))
    (hgrow : (W.alloc o).grownBy W3 vv.ownBlock) (hat : vv.ownBlock = some g ∨ g = W.heap.size + 1) (hlt : g < W3.heap.size) :
    RefIn (W3.setCell ⟨A, 2, none⟩ (.slice (some ⟨g, 0, none⟩) (ev.length + 1) cap)) base (F ++ [W.heap.size + 1]) A cs rs (ev ++ [e]) rv (.slice (some ⟨g, 0, none⟩) (ev.length + 1) cap) C ∧
      Fr F W (W3.setCell ⟨A, 2, none⟩ (.slice (some ⟨g, 0, none⟩) (ev.length + 1) cap)) := by
  obtain ⟨hAC, hrv, hvv, hrs⟩ := h.parts
  have hs2 : (W.alloc o).heap.size = W.heap.size + 1 := by simp
  have hs3 : W.heap.size + 1 ≤ W3.heap.size := by have := hgrow.size; rw [hs2] at this; exact this
  have hrm : ∀ k, vv.ownBlock = some k → k ∈ blockOf vv := fun k e => by simp [blockOf, e]
  have old : ∀ k, k < W.heap.size → k ∉ blockOf vv → W3.heap[k]? = W.heap[k]? := fun k hk hn => by
    rw [hgrow.block k (by rw [hs2]; omega) (fun e => hn (hrm k e.symm)), Below.heap_alloc _ _ _ hk]
  have far : ∀ k, k < W.heap.size → k ∉ blockOf vv → k ≠ A → (W3.setCell ⟨A, 2, none⟩ (.slice (some ⟨g, 0, none⟩) (ev.length + 1) cap)).heap[k]? = W.heap[k]? := fun k hk hn hA => by
    rw [Below.heap_setCell _ _ _ _ hA]; exact old k hk hn
  have lt : ∀ k ∈ A :: C :: (blockOf rv ++ blockOf vv), k < W.heap.size := fun k hk => (h.own k hk).2.2
  have hgA : g ≠ A := fun e => by
    rcases hat with hg | hg
    · exact (hvv g (hrm g hg)).1 e
    · have := lt A (by simp); omega
  have hgC : g ≠ C := fun e => by
    rcases hat with hg | hg
    · exact (hvv g (hrm g hg)).2 e
    · have := lt C (by simp); omega
  have hgo : g ∉ blockOf rv := fun hm => by
    rcases hat with hg | hg
    · exact hrs g hm (hrm g hg)
    · have := lt g (by simp [hm]); omega
  have hArv : A ∉ blockOf vv := fun hm => (hvv A hm).1 rfl
  have hCrv : C ∉ blockOf vv := fun hm => (hvv C hm).2 rfl
  have hbo : blockOf (.slice (some ⟨g, 0, none⟩) (ev.length + 1) cap) = [g] := rfl
  have hkeep : ∀ k ∈ blockOf rv, (W3.setCell ⟨A, 2, none⟩ (.slice (some ⟨g, 0, none⟩) (ev.length + 1) cap)).heap[k]? = W.heap[k]? := fun k hk => far k (lt k (by simp [hk])) (fun hm => hrs k hk hm) (hrv k hk).1
  have hnew : (W3.setCell ⟨A, 2, none⟩ (.slice (some ⟨g, 0, none⟩) (ev.length + 1) cap)).ownsRow base 54 2 (.slice (some ⟨g, 0, none⟩) (ev.length + 1) cap) (ev ++ [e]).length (ecells (ev ++ [e])) := by
    rw [List.length_append, List.length_singleton, ecells_snoc]
    exact owns_keep hown (fun k hk => by rw [hbo, List.mem_singleton] at hk; subst hk; exact Below.heap_setCell _ _ _ _ hgA)
  have hno : g = W.heap.size + 1 ∨ g ∈ blockOf vv := hat.elim (fun hg => .inr (hrm g hg)) .inl
  have hnd := h.nd
  have hso : ∀ k, (k = A ∨ k = C ∨ k ∈ blockOf rv ∨ k ∈ blockOf vv ∨ k = g) → k ∈ F ++ [W.heap.size + 1] ∧ base ≤ k ∧ k < (W3.setCell ⟨A, 2, none⟩ (.slice (some ⟨g, 0, none⟩) (ev.length + 1) cap)).heap.size := fun k hk => by
    have oldk : k ∈ A :: C :: (blockOf rv ++ blockOf vv) → k ∈ F ++ [W.heap.size + 1] ∧ base ≤ k ∧ k < (W3.setCell ⟨A, 2, none⟩ (.slice (some ⟨g, 0, none⟩) (ev.length + 1) cap)).heap.size := fun hm => by
      obtain ⟨a1, a2, a3⟩ := h.own k hm
      exact ⟨by simp [a1], a2, by simp [World.size_setCell]; omega⟩
    rcases hk with e | e | e | e | e
    · exact oldk (by simp [e])
    · exact oldk (by simp [e])
    · exact oldk (by simp [e])
    · exact oldk (by simp [e])
    · subst e
      rcases hno with hg | hg
      · subst hg; exact ⟨by simp, by omega, by simp [World.size_setCell]; omega⟩
      · exact oldk (by simp [hg])
  refine ⟨⟨?_, (far C (lt C (by simp)) hCrv (Ne.symm hAC)).trans h.c, owns_keep h.r hkeep, hnew, ?_, fun k hk => hso k ?_, h.lc, ⟨by simp; omega, fun x hx => ?_⟩, h.lr⟩, ?_⟩
  · have e1 := (old A (lt A (by simp)) hArv).trans h.a
    rw [heap_setCell_at _ e1]; simp
  · rw [hbo]
    simp only [List.nodup_cons, List.mem_cons, List.mem_append, not_or, List.nodup_append, List.mem_singleton, List.not_mem_nil, or_false, List.nodup_nil, and_true, not_false_eq_true, true_and] at hnd ⊢
    obtain ⟨⟨n1, n2, n3⟩, ⟨n4, n5⟩, n6, n7, n8⟩ := hnd
    exact ⟨⟨n1, n2, Ne.symm hgA⟩, ⟨n4, Ne.symm hgC⟩, n6, fun x hx y hy e => hgo (by rw [← hy, ← e]; exact hx)⟩
  · rw [hbo] at hk
    simp only [List.mem_cons, List.mem_append, List.mem_singleton, List.not_mem_nil, or_false] at hk
    rcases hk with e | e | e | e <;> simp [e]
  · rcases List.mem_append.1 hx with hx | hx
    · exact h.le.2 x hx
    · rw [List.mem_singleton] at hx; subst hx; exact he
  · refine ⟨hgrow.os, hgrow.tape, hgrow.output, by simp [World.size_setCell]; omega, fun k hk hn => far k hk (fun hm => hn (h.own k (by simp [hm])).1) (fun e => hn (by rw [e]; exact (h.own A (by simp)).1))⟩
theorem RefIn.regioned (h : RefIn W base F A cs rs ev rv vv C) (hbase : base ≤ W.heap.size) (r : Reg) (hr : rs.length < 64) {o : Obj} {W3 : World} {g cap : Nat}
    (hown : W3.ownsRow base 43 3 (.slice (some ⟨g, 0, none⟩) (rs.length + 1) cap) (rs.length + 1) (rcells rs ++ rcell r))
    (hgrow : (W.alloc o).grownBy W3 rv.ownBlock) (hat : rv.ownBlock = some g ∨ g = W.heap.size + 1) (hlt : g < W3.heap.size) :
    RefIn (W3.setCell ⟨A, 1, none⟩ (.slice (some ⟨g, 0, none⟩) (rs.length + 1) cap)) base (F ++ [W.heap.size + 1]) A cs (rs ++ [r]) ev (.slice (some ⟨g, 0, none⟩) (rs.length + 1) cap) vv C ∧
      Fr F W (W3.setCell ⟨A, 1, none⟩ (.slice (some ⟨g, 0, none⟩) (rs.length + 1) cap)) := by
  obtain ⟨hAC, hrv, hvv, hrs⟩ := h.parts
  have hs2 : (W.alloc o).heap.size = W.heap.size + 1 := by simp
  have hs3 : W.heap.size + 1 ≤ W3.heap.size := by have := hgrow.size; rw [hs2] at this; exact this
  have hrm : ∀ k, rv.ownBlock = some k → k ∈ blockOf rv := fun k e => by simp [blockOf, e]
  have old : ∀ k, k < W.heap.size → k ∉ blockOf rv → W3.heap[k]? = W.heap[k]? := fun k hk hn => by
    rw [hgrow.block k (by rw [hs2]; omega) (fun e => hn (hrm k e.symm)), Below.heap_alloc _ _ _ hk]
  have far : ∀ k, k < W.heap.size → k ∉ blockOf rv → k ≠ A → (W3.setCell ⟨A, 1, none⟩ (.slice (some ⟨g, 0, none⟩) (rs.length + 1) cap)).heap[k]? = W.heap[k]? := fun k hk hn hA => by
    rw [Below.heap_setCell _ _ _ _ hA]; exact old k hk hn
  have lt : ∀ k ∈ A :: C :: (blockOf rv ++ blockOf vv), k < W.heap.size := fun k hk => (h.own k hk).2.2
  have hgA : g ≠ A := fun e => by
    rcases hat with hg | hg
    · exact (hrv g (hrm g hg)).1 e
    · have := lt A (by simp); omega
  have hgC : g ≠ C := fun e => by
    rcases hat with hg | hg
    · exact (hrv g (hrm g hg)).2 e
    · have := lt C (by simp); omega
  have hgo : g ∉ blockOf vv := fun hm => by
    rcases hat with hg | hg
    · exact hrs g (hrm g hg) hm
    · have := lt g (by simp [hm]); omega
  have hArv : A ∉ blockOf rv := fun hm => (hrv A hm).1 rfl
  have hCrv : C ∉ blockOf rv := fun hm => (hrv C hm).2 rfl
  have hbo : blockOf (.slice (some ⟨g, 0, none⟩) (rs.length + 1) cap) = [g] := rfl
  have hkeep : ∀ k ∈ blockOf vv, (W3.setCell ⟨A, 1, none⟩ (.slice (some ⟨g, 0, none⟩) (rs.length + 1) cap)).heap[k]? = W.heap[k]? := fun k hk => far k (lt k (by simp [hk])) (fun hm => hrs k hm hk) (hvv k hk).1
  have hnew : (W3.setCell ⟨A, 1, none⟩ (.slice (some ⟨g, 0, none⟩) (rs.length + 1) cap)).ownsRow base 43 3 (.slice (some ⟨g, 0, none⟩) (rs.length + 1) cap) (rs ++ [r]).length (rcells (rs ++ [r])) := by
    rw [List.length_append, List.length_singleton, rcells_snoc]
    exact owns_keep hown (fun k hk => by rw [hbo, List.mem_singleton] at hk; subst hk; exact Below.heap_setCell _ _ _ _ hgA)
  have hno : g = W.heap.size + 1 ∨ g ∈ blockOf rv := hat.elim (fun hg => .inr (hrm g hg)) .inl
  have hnd := h.nd
  have hso : ∀ k, (k = A ∨ k = C ∨ k ∈ blockOf rv ∨ k ∈ blockOf vv ∨ k = g) → k ∈ F ++ [W.heap.size + 1] ∧ base ≤ k ∧ k < (W3.setCell ⟨A, 1, none⟩ (.slice (some ⟨g, 0, none⟩) (rs.length + 1) cap)).heap.size := fun k hk => by
    have oldk : k ∈ A :: C :: (blockOf rv ++ blockOf vv) → k ∈ F ++ [W.heap.size + 1] ∧ base ≤ k ∧ k < (W3.setCell ⟨A, 1, none⟩ (.slice (some ⟨g, 0, none⟩) (rs.length + 1) cap)).heap.size := fun hm => by
      obtain ⟨a1, a2, a3⟩ := h.own k hm
      exact ⟨by simp [a1], a2, by simp [World.size_setCell]; omega⟩
    rcases hk with e | e | e | e | e
    · exact oldk (by simp [e])
    · exact oldk (by simp [e])
    · exact oldk (by simp [e])
    · exact oldk (by simp [e])
    · subst e
      rcases hno with hg | hg
      · subst hg; exact ⟨by simp, by omega, by simp [World.size_setCell]; omega⟩
      · exact oldk (by simp [hg])
  refine ⟨⟨?_, (far C (lt C (by simp)) hCrv (Ne.symm hAC)).trans h.c, hnew, owns_keep h.v hkeep, ?_, fun k hk => hso k ?_, h.lc, h.le, by simp; omega⟩, ?_⟩
  · have e1 := (old A (lt A (by simp)) hArv).trans h.a
    rw [heap_setCell_at _ e1]; simp
  · rw [hbo]
    simp only [List.nodup_cons, List.mem_cons, List.mem_append, not_or, List.nodup_append, List.mem_singleton, List.not_mem_nil, or_false, List.nodup_nil, and_true, not_false_eq_true, true_and] at hnd ⊢
    obtain ⟨⟨n1, n2, n3⟩, ⟨n4, n5⟩, n6, n7, n8⟩ := hnd
    exact ⟨⟨n1, Ne.symm hgA, n3⟩, ⟨Ne.symm hgC, n5⟩, n7, fun x hx y hy e => hgo (by rw [← hx, e]; exact hy)⟩
  · rw [hbo] at hk
    simp only [List.mem_cons, List.mem_append, List.mem_singleton, List.not_mem_nil, or_false] at hk
    rcases hk with e | e | e | e <;> simp [e]
  · refine ⟨hgrow.os, hgrow.tape, hgrow.output, by simp [World.size_setCell]; omega, fun k hk hn => far k hk (fun hm => hn (h.own k (by simp [hm])).1) (fun e => hn (by rw [e]; exact (h.own A (by simp)).1))⟩
end
end Go.Proofs.YtomjefplacgoeaaDoor
