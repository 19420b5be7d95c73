/- A step put at the end of an arena's log: a page is begun. -/
import Derived.Test.YtomjefplacgoeaaDoorArAdd
import Derived.Deep.AppendLies
namespace Go.Proofs.YtomjefplacgoeaaDoor
open Go.RowKit

theorem infoPage : (Tryd.prog.info? 84).map (fun i => (i.zero, i.size, i.bytes)) = some (some (.pointer none), 1, 8) := by kernel_rfl
theorem ptrs_snoc (l : List Nat) (p : Nat) : ptrs (l ++ [p]) = ptrs l ++ [.pointer (some ⟨p, 0, none⟩)] := by simp [ptrs]

section
variable {W : World} {base : Nat} {F : List Nat} {A : Nat} {cs : List Nat} {rs : List Reg} {ev : List Ev} {pv rv : Value} {C : Nat} {PL : List Nat} {m : Nat}
theorem ArenaIn.paged (h : ArenaIn W base F A cs rs ev pv rv C PL m) (hev : ev.length = 4096 * PL.length) (hbase : base ≤ W.heap.size) {z : Array Value} (hz : z.size = 4096) {W3 : World} {g cap : Nat}
    (hown : W3.ownsRow base 84 1 (.slice (some ⟨g, 0, none⟩) (PL.length + 1) cap) (PL.length + 1) (ptrs PL ++ [.pointer (some ⟨W.heap.size, 0, none⟩)]))
    (hgrow : ((W.alloc (.cells z 86)).alloc (.cells #[.pointer (some ⟨W.heap.size, 0, none⟩)] 84)).grownBy W3 pv.ownBlock) (hat : pv.ownBlock = some g ∨ g = W.heap.size + 2) (hlt : g < W3.heap.size) :
    ArenaIn (W3.setCell ⟨A, 0, none⟩ (.slice (some ⟨g, 0, none⟩) (PL.length + 1) cap)) base (F ++ [W.heap.size, W.heap.size + 2]) A cs rs ev (.slice (some ⟨g, 0, none⟩) (PL.length + 1) cap) rv C (PL ++ [W.heap.size]) (PL.length + 1) ∧
      Fr F W (W3.setCell ⟨A, 0, none⟩ (.slice (some ⟨g, 0, none⟩) (PL.length + 1) cap)) := by
  obtain ⟨hAC, hP, hpv, hrv, hPn⟩ := h.parts
  have hs2 : ((W.alloc (.cells z 86)).alloc (.cells #[.pointer (some ⟨W.heap.size, 0, none⟩)] 84)).heap.size = W.heap.size + 2 := by simp
  have hs3 : W.heap.size + 2 ≤ W3.heap.size := by have := hgrow.size; rw [hs2] at this; exact this
  have hpvm : ∀ k, pv.ownBlock = some k → k ∈ blockOf pv := fun k e => by simp [blockOf, e]
  have old : ∀ k, k < W.heap.size → k ∉ blockOf pv → W3.heap[k]? = W.heap[k]? := fun k hk hn => by
    rw [hgrow.block k (by rw [hs2]; omega) (fun e => hn (hpvm k e.symm)), Below.heap_alloc _ _ _ (by simp; omega), Below.heap_alloc _ _ _ hk]
  have far : ∀ k, k < W.heap.size → k ∉ blockOf pv → k ≠ A → (W3.setCell ⟨A, 0, none⟩ (.slice (some ⟨g, 0, none⟩) (PL.length + 1) cap)).heap[k]? = W.heap[k]? := fun k hk hn hA => by
    rw [Below.heap_setCell _ _ _ _ hA]; exact old k hk hn
  have lt : ∀ k ∈ A :: C :: (PL ++ blockOf pv ++ blockOf rv), k < W.heap.size := fun k hk => (h.own k hk).2.2
  have hgA : g ≠ A := fun e => by
    rcases hat with hg | hg
    · exact (hpv g (hpvm g hg)).1 e
    · have := lt A (by simp); omega
  have hApv : A ∉ blockOf pv := fun hm => (hpv A hm).1 rfl
  have hbo : blockOf (.slice (some ⟨g, 0, none⟩) (PL.length + 1) cap) = [g] := rfl
  have hgC : g ≠ C := fun e => by
    rcases hat with hg | hg
    · exact (hpv g (hpvm g hg)).2.1 e
    · have := lt C (by simp); omega
  have hgP : g ∉ PL := fun hm => by
    rcases hat with hg | hg
    · exact (hpv g (hpvm g hg)).2.2 hm
    · have := lt g (by simp [hm]); omega
  have hgW : g ≠ W.heap.size := fun e => by
    rcases hat with hg | hg
    · have := lt g (by simp [hpvm g hg]); omega
    · omega
  have hgr : g ∉ blockOf rv := fun hm => by
    rcases hat with hg | hg
    · exact (hrv g hm).2.2.2 (hpvm g hg)
    · have := lt g (by simp [hm]); omega
  refine ⟨⟨?_, (far C (lt C (by simp)) (fun hm => (hpv C hm).2.1 rfl) (Ne.symm hAC)).trans h.c, ?_, owns_keep h.r (fun k hk => far k (lt k (by simp [hk])) (hrv k hk).2.2.2 (hrv k hk).1), by simp, fun i p hp => ?_, ?_, fun k hk => ?_, h.lc, h.le, h.lr⟩, ?_⟩
  · have e1 := (old A (lt A (by simp)) hApv).trans h.a
    rw [heap_setCell_at _ e1]; simp
  · rw [List.length_append, List.length_singleton, ptrs_snoc]
    exact owns_keep hown (fun k hk => by rw [hbo, List.mem_singleton] at hk; subst hk; exact Below.heap_setCell _ _ _ _ hgA)
  · by_cases hi : i < PL.length
    · rw [List.getElem?_append_left hi] at hp
      have hm := List.mem_of_getElem? hp
      obtain ⟨c, h1, h2, h3⟩ := h.pg i p hp
      exact ⟨c, (far p (lt p (by simp [hm])) (fun hb => (hpv p hb).2.2 hm) (hP p hm).1).trans h1, h2, h3⟩
    · have hil : i = PL.length := by
        have := (List.getElem?_eq_some_iff.1 hp).1
        rw [List.length_append, List.length_singleton] at this; omega
      subst hil
      rw [List.getElem?_append_right (Nat.le_refl _), Nat.sub_self] at hp
      simp only [List.getElem?_cons_zero, Option.some.injEq] at hp
      subst hp
      have hWA : W.heap.size ≠ A := by have := lt A (by simp); omega
      refine ⟨z, ?_, hz, fun j hj => by omega⟩
      rw [Below.heap_setCell _ _ _ _ hWA, hgrow.block W.heap.size (by rw [hs2]; omega) (fun e => by have := lt W.heap.size (by simp [hpvm _ e.symm]); omega), Below.heap_alloc _ _ _ (by simp), heap_alloc_new]
  · rw [hbo]
    have hnd := h.nd
    have hWn : W.heap.size ∉ PL := fun hm => by have := lt W.heap.size (by simp [hm]); omega
    have hWr : W.heap.size ∉ blockOf rv := fun hm => by have := lt W.heap.size (by simp [hm]); omega
    have hWA : A ≠ W.heap.size := by have := lt A (by simp); omega
    have hWC : C ≠ W.heap.size := by have := lt C (by simp); omega
    have hrn : (blockOf rv).Nodup := by
      rw [List.nodup_cons, List.nodup_cons, List.nodup_append] at hnd
      exact hnd.2.2.2.1
    rw [List.nodup_cons, List.nodup_cons, List.nodup_append, List.nodup_append, List.nodup_append]
    refine ⟨fun hm => ?_, fun hm => ?_, ⟨⟨hPn, by simp, fun x hx y hy e => ?_⟩, by simp, fun x hx y hy e => ?_⟩, hrn, fun x hx y hy e => ?_⟩
    · simp only [List.mem_cons, List.mem_append, List.mem_singleton, List.not_mem_nil, or_false] at hm
      rcases hm with e | ((e | e) | e) | e
      · exact hAC e
      · exact (hP A e).1 rfl
      · exact hWA e
      · exact hgA e.symm
      · exact (hrv A e).1 rfl
    · simp only [List.mem_append, List.mem_singleton] at hm
      rcases hm with ((e | e) | e) | e
      · exact (hP C e).2 rfl
      · exact hWC e
      · exact hgC e.symm
      · exact (hrv C e).2.1 rfl
    · rw [List.mem_singleton] at hy; subst hy; subst e; exact hWn hx
    · rw [List.mem_singleton] at hy
      subst hy; subst e
      rcases List.mem_append.1 hx with hx | hx
      · exact hgP hx
      · rw [List.mem_singleton] at hx; exact hgW hx
    · subst e
      rcases List.mem_append.1 hx with hx | hx
      · rcases List.mem_append.1 hx with hx | hx
        · exact (hrv x hy).2.2.1 hx
        · rw [List.mem_singleton] at hx; subst hx; exact hWr hy
      · rw [List.mem_singleton] at hx; subst hx; exact hgr hy
  · rw [hbo] at hk
    have oldk : k ∈ A :: C :: (PL ++ blockOf pv ++ blockOf rv) → k ∈ F ++ [W.heap.size, W.heap.size + 2] ∧ base ≤ k ∧ k < (W3.setCell ⟨A, 0, none⟩ (.slice (some ⟨g, 0, none⟩) (PL.length + 1) cap)).heap.size := fun hm => by
      obtain ⟨a1, a2, a3⟩ := h.own k hm
      exact ⟨by simp [a1], a2, by simp [World.size_setCell]; omega⟩
    simp only [List.mem_cons, List.mem_append, List.mem_singleton, List.not_mem_nil, or_false] at hk
    rcases hk with e | e | ((e | e) | e) | e
    · exact oldk (by simp [e])
    · exact oldk (by simp [e])
    · exact oldk (by simp [e])
    · subst e; exact ⟨by simp, hbase, by simp [World.size_setCell]; omega⟩
    · subst e
      rcases hat with hg | hg
      · exact oldk (by simp [hpvm _ hg])
      · subst hg; exact ⟨by simp, by omega, by simp [World.size_setCell]; omega⟩
    · exact oldk (by simp [e])
  · refine ⟨hgrow.os, hgrow.tape, hgrow.output, by simp [World.size_setCell]; omega, fun k hk hn => far k hk (fun hm => hn (h.own k (by simp [hm])).1) (fun e => hn (by rw [e]; exact (h.own A (by simp)).1))⟩
end

theorem after_grow {W W3 : World} {A P : Nat} {o o1 o2 : Obj} {pv : Value} (ha : W.heap[A]? = some o) (hA : A < W.heap.size) (hn : A ∉ blockOf pv) (hgrow : ((W.alloc o1).alloc o2).grownBy W3 pv.ownBlock) : W3.heap[A]? = some o := by
  rw [hgrow.block A (by simp; omega) (fun e => hn (by simp [blockOf, ← e])), Below.heap_alloc _ _ _ (by simp; omega), Below.heap_alloc _ _ _ hA]
  exact ha
theorem cell_in {W : World} {A i : Nat} {c : Array Value} {t : TypeId} {fr : Nat × Nat} {v : Value} (h : W.heap[A]? = some (.cells c t fr)) (hv : c[i]? = some v) : W.cell? ⟨A, i, none⟩ = some v := by
  unfold World.cell?; rw [h]; simpa using hv
theorem free_in {W : World} {A i : Nat} {c : Array Value} {t : TypeId} (h : W.heap[A]? = some (.cells c t)) : W.frozen? ⟨A, i, none⟩ = false := by
  unfold World.frozen?; rw [h]; simp

section
variable {W : World} {base : Nat} {F : List Nat} {A : Nat} {cs : List Nat} {rs : List Reg} {ev : List Ev}
set_option maxRecDepth 100000 in
set_option maxHeartbeats 2000000 in
theorem add_new (k t : Nat) (hk : k < 4) (ht : t < 65536) (h : ArenaAt W base F A cs rs ev) (hn : ev.length < 8388608) (hm : ev.length % 4096 = 0) (hbase : base ≤ W.heap.size) :
    Calls Tryd.prog 52 #[.pointer (some ⟨A, 0, none⟩), .int .i64 (k : Int), .int .i64 (t : Int)] W fun e w' => e = .returned (.tuple #[]) ∧ ∃ F', ArenaAt w' base F' A cs rs (ev ++ [(k, t)]) ∧ (∀ j ∈ F', j ∈ F ∨ W.heap.size ≤ j) ∧ Fr F W w' := by
  obtain ⟨i0, hi, hz0, hz1, hz2⟩ := info_parts infoPage
  obtain ⟨pv, rv, C, PL, h⟩ := h
  obtain ⟨c0, c1, c2, c3, c4⟩ := h.cells
  have f0 := h.free 0
  have f1 := h.free 1
  have hlt := h.lt
  have hnp := h.np
  have hPL : PL.length ≤ 2048 := by omega
  have hev : ev.length = 4096 * PL.length := by omega
  have ho2 : ((W.alloc (.cells Tryd.zeroCells86 86)).alloc (.cells #[.pointer (some ⟨W.heap.size, 0, none⟩)] 84)).ownsRow base 84 1 pv PL.length (ptrs PL) :=
    owns_keep h.p (fun k hk => by
      have := (h.own k (by simp [hk])).2.2
      rw [Below.heap_alloc _ _ _ (by simp; omega), Below.heap_alloc _ _ _ this])
  have HO := Lib.hid ho2
  have HI := Lib.hid h
  have hAp : A ∉ blockOf pv := fun hm => (h.parts.2.2.1 A hm).1 rfl
  have HAP := Lib.hid hAp
  have ha := h.a
  have HA := Lib.hid ha
  clear h c2 c3 c4 ho2 hAp ha
  have HNN := Lib.hid hev
  have HM := Lib.hid hm
  obtain ⟨n, hnn⟩ : ∃ n, ev.length = n := ⟨_, rfl⟩
  rw [hnn] at c1 hn hev hm
  have HN := Lib.hid hnn
  have r1 : (n : Int).tmod 4096 = 0 := by rw [Int.tmod_eq_emod_of_nonneg (by omega)]; omega
  have r2 : (n : Int) % 4096 = 0 := by omega
  have q1 : (n : Int).tdiv 4096 = (PL.length : Int) := by rw [Int.tdiv_eq_ediv_of_nonneg (by omega)]; omega
  have q2 : (n : Int) / 4096 = (PL.length : Int) := by omega
  clear hm hnn hnp hev
  go_enter Tryd.func52, Tryd.ntmps52
  go_wp2_with (at_builtin; refine wpList_append_lies _ rfl _ _ _ rfl base 84 i0 _ 1 8 Tryd.underlying65 hi hz0 hz1 hz2 rfl (by decide) pv PL.length (ptrs PL) rfl HO.out ⟨W.heap.size + 1, 0, none⟩ 1 1 [.pointer (some ⟨W.heap.size, 0, none⟩)] rfl rfl (World.news_of_block (cs := #[.pointer (some ⟨W.heap.size, 0, none⟩)]) (t := 84) (fr := (0, 0)) (by have := heap_alloc_new (W.alloc (.cells Tryd.zeroCells86 86)) (.cells #[.pointer (some ⟨W.heap.size, 0, none⟩)] 84); rwa [World.size_alloc] at this)) (by simp [Value.oneCell']) (by decide) (by unfold maxLen; omega) (by omega) (by simp; omega) (W.heap.size + 2) (by simp) ?_; intro g cap w3 hown hgrow hat hlt3; have hA3 := after_grow (P := 0) HA.out hlt HAP.out hgrow; have e0 := cell_in (i := 0) hA3 rfl; have e1 := cell_in (i := 1) hA3 rfl; have e2 := free_in (i := 0) hA3; clear hA3)
  obtain ⟨hI4, hF4⟩ := HI.out.paged HNN.out hbase Tryd.zeroCells86_size hown hgrow hat hlt3
  generalize w3.setCell ⟨A, 0, none⟩ (.slice (some ⟨g, 0, none⟩) (PL.length + 1) cap) = W4 at *
  have HF4 := Lib.hid hF4
  have hqP : PL.length < (PL ++ [W.heap.size]).length := by simp
  have hgq := hI4.row hqP
  obtain ⟨g', cap', hgc, hg'⟩ := hgq
  obtain ⟨pc, hp1, hp2, hp3⟩ := hI4.pg PL.length W.heap.size (by simp)
  clear hp3
  have hadd := hI4.added (q := PL.length) (r := 0) (by have := HNN.out; omega) (by omega) hqP (k, t) ⟨hk, ht⟩ (by have := HN.out; omega) (by simp)
  have hPe : (PL ++ [W.heap.size])[PL.length]'hqP = W.heap.size := by simp
  rw [hPe, HN.out] at hadd
  rw [hPe] at hg'
  injection hgc with a1 a2 a3
  injection a1 with a1
  injection a1 with a1
  subst a1
  obtain ⟨b0, b1, b2, b3, b4⟩ := hI4.cells
  rw [HN.out] at b1
  have u1 := hI4.free 1
  have hPA : W.heap.size ≠ A := by omega
  have HADD := Lib.hid hadd
  have HAF := Lib.hid ((HI.out.own A (by simp)).1)
  have d0 : (W4.cell? ⟨W.heap.size, 0, none⟩).isSome = true := by
    unfold World.cell?; rw [hp1]; simp; omega
  obtain ⟨old, d1⟩ := Option.isSome_iff_exists.1 d0
  have d2 : W4.frozen? ⟨W.heap.size, 0, none⟩ = false := by unfold World.frozen?; rw [hp1]; simp
  clear hp1 hp2 d0 hadd hI4 hF4 hPe a2 a3 b2 b3 b4 hown hgrow hat hlt3 hqP f0 f1 c0 c1 e0 e1 e2 hi hz0 hz1 hz2
  have i1 : (0 : Int) ≤ (PL.length : Int) := by omega
  have i2 : (PL.length : Int) < (PL.length : Int) + 1 := by omega
  have wt : IntKind.u32.wrap (t : Int) = (t : Int) := by rw [IntKind.wrap_u32]; omega
  have wt4 : IntKind.u32.wrap ((t : Int) * 4) = (t : Int) * 4 := by rw [IntKind.wrap_u32]; omega
  have wk : IntKind.u32.wrap (k : Int) = (k : Int) := by rw [IntKind.wrap_u32]; omega
  have wo := or_ev t k ht hk
  have wq : IntKind.i64.wrap (PL.length : Int) = (PL.length : Int) := IntWalk.i64_in _ (by omega)
  have wn : IntKind.i64.wrap ((n : Int) + 1) = (n : Int) + 1 := IntWalk.i64_in _ (by omega)
  go_still_tail 24, (by kernel_rfl)
  go_wp2_with fail
  refine bodyPost_end (v := .tuple #[]) (by simp [results, Tryd.results52, go_sem]) rfl ⟨rfl, F ++ [W.heap.size, W.heap.size + 2], ?_, fun j hj => ?_, ?_⟩
  · exact ArenaAt.keep ⟨_, _, _, _, HADD.out⟩ (fun _ _ => rfl) (Nat.le_refl _)
  · simp only [List.mem_append, List.mem_cons, List.not_mem_nil, or_false] at hj
    rcases hj with hj | hj | hj
    · exact .inl hj
    · right; omega
    · right; omega
  · have hf := HF4.out
    refine ⟨hf.os, hf.tape, hf.output, by have := hf.size; simp [World.drew, World.size_setCell]; omega, fun j hj hn => ?_⟩
    have h1 : j ≠ A := fun e => hn (e ▸ HAF.out)
    have h2 : j ≠ W.heap.size := by omega
    exact ((Below.heap_setCell _ _ _ _ h1).trans (Below.heap_setCell _ _ _ _ h2)).trans (hf.block j hj hn)
end
end Go.Proofs.YtomjefplacgoeaaDoor
