/- A step put at the end of an arena's log: there is room in the last page. -/
import Derived.Test.YtomjefplacgoeaaDoorArRead
import Derived.StillTailTactics
import Derived.Laws.BitsAllLaws
namespace Go.Proofs.YtomjefplacgoeaaDoor
open Go.RowKit

theorem or_ev (t k : Nat) (ht : t < 65536) (hk : k < 4) : bits .or .u32 ((t : Int) * 4) (k : Int) = (evWord (k, t) : Int) := by
  rw [show ((t : Int) * 4) = ((t * 4 : Nat) : Int) by push_cast; rfl, u32_or_nat _ _ (by omega) (by omega)]
  have := Nat.two_pow_add_eq_or_of_lt (b := k) (i := 2) (by omega) t
  unfold evWord
  simp only
  rw [show t * 4 = 2 ^ 2 * t by omega, ← this]

section
variable {W : World} {base : Nat} {F : List Nat} {A : Nat} {cs : List Nat} {rs : List Reg} {ev : List Ev} {pv rv : Value} {C : Nat} {PL : List Nat} {m : Nat}
theorem ArenaIn.row (h : ArenaIn W base F A cs rs ev pv rv C PL m) {q : Nat} (hq : q < PL.length) :
    ∃ g cap, pv = .slice (some ⟨g, 0, none⟩) PL.length cap ∧ W.cell? ⟨g, q, none⟩ = some (.pointer (some ⟨PL[q], 0, none⟩)) := by
  rcases h.p.2 with ⟨_, h0⟩ | ⟨g, cap, cur, rfl, hb, hg, _, _, hs, ht⟩
  · omega
  · refine ⟨g, cap, rfl, ?_⟩
    unfold World.cell?
    rw [hg]
    simp only [Option.isSome_none, Bool.false_eq_true, if_false]
    have e : cur.toList[q]? = (ptrs PL)[q]? := by rw [← ht, List.getElem?_take_of_lt (by omega)]
    rw [← Array.getElem?_toList, e]
    simp [ptrs, List.getElem?_eq_getElem hq]
theorem ArenaIn.parts (h : ArenaIn W base F A cs rs ev pv rv C PL m) :
    A ≠ C ∧ (∀ p ∈ PL, p ≠ A ∧ p ≠ C) ∧ (∀ k ∈ blockOf pv, k ≠ A ∧ k ≠ C ∧ k ∉ PL) ∧ (∀ k ∈ blockOf rv, k ≠ A ∧ k ≠ C ∧ k ∉ PL ∧ k ∉ blockOf pv) ∧ PL.Nodup := by
  have hnd := h.nd
  rw [List.nodup_cons, List.nodup_cons, List.nodup_append, List.nodup_append] at hnd
  obtain ⟨h1, h2, ⟨h3, h4, h5⟩, h6, h7⟩ := hnd
  refine ⟨fun e => h1 (by simp [e]), fun p hp => ⟨fun e => h1 (by rw [← e]; simp [hp]), fun e => h2 (by rw [← e]; simp [hp])⟩,
    fun k hk => ⟨fun e => h1 (by rw [← e]; simp [hk]), fun e => h2 (by rw [← e]; simp [hk]), fun hp => h5 _ hp _ hk rfl⟩,
    fun k hk => ⟨fun e => h1 (by rw [← e]; simp [hk]), fun e => h2 (by rw [← e]; simp [hk]), fun hp => h7 _ (by simp [hp]) _ hk rfl, fun hp => h7 _ (by simp [hp]) _ hk rfl⟩, h3⟩

theorem ArenaIn.added (h : ArenaIn W base F A cs rs ev pv rv C PL m) {q r : Nat} (hqr : ev.length = 4096 * q + r) (hr : r < 4096) (hq : q < PL.length) (e : Ev) (he : e.1 < 4 ∧ e.2 < 65536) (hn : ev.length < 8388608)
    (hnp : PL.length = q + 1) :
    ArenaIn ((W.setCell ⟨PL[q], r, none⟩ (.int .u32 (evWord e : Int))).setCell ⟨A, 1, none⟩ (.int .i64 ((ev.length : Int) + 1))) base F A cs rs (ev ++ [e]) pv rv C PL (((ev ++ [e]).length + 4095) / 4096) := by
  obtain ⟨hAC, hP, hpv, hrv, hPn⟩ := h.parts
  have hpq : PL[q] ∈ PL := List.getElem_mem hq
  have far : ∀ k, k ≠ PL[q] → k ≠ A → ((W.setCell ⟨PL[q], r, none⟩ (.int .u32 (evWord e : Int))).setCell ⟨A, 1, none⟩ (.int .i64 ((ev.length : Int) + 1))).heap[k]? = W.heap[k]? := fun k h1 h2 => by
    rw [Below.heap_setCell _ _ _ _ h2, Below.heap_setCell _ _ _ _ h1]
  refine ⟨?_, (far C (fun e => (hP _ hpq).2 e.symm) (Ne.symm hAC)).trans h.c, owns_keep h.p (fun k hk => far k (fun e => (hpv k hk).2.2 (e ▸ hpq)) (hpv k hk).1), owns_keep h.r (fun k hk => far k (fun e => (hrv k hk).2.2.1 (e ▸ hpq)) (hrv k hk).1),
    by rw [hnp, List.length_append, List.length_singleton, hqr]; omega, fun i p hp => ?_, h.nd, fun k hk => ⟨(h.own k hk).1, (h.own k hk).2.1, by simpa [World.size_setCell] using (h.own k hk).2.2⟩, h.lc,
    ⟨by rw [List.length_append, List.length_singleton]; omega, fun x hx => by
      rcases List.mem_append.1 hx with hx | hx
      · exact h.le.2 x hx
      · rw [List.mem_singleton] at hx; subst hx; exact he⟩, h.lr⟩
  · have hne : A ≠ PL[q] := fun e => (hP _ hpq).1 e.symm
    have e1 : (W.setCell ⟨PL[q], r, none⟩ (.int .u32 (evWord e : Int))).heap[A]? = _ := (Below.heap_setCell _ _ _ _ hne).trans h.a
    rw [heap_setCell_at _ e1, List.length_append, List.length_singleton]
    simp
  · obtain ⟨c, h1, h2, h3⟩ := h.pg i p hp
    by_cases hi : i = q
    · subst hi
      have hpe : PL[i] = p := by rw [List.getElem?_eq_getElem hq] at hp; exact Option.some.inj hp
      have hpA : p ≠ A := (hP p (hpe ▸ hpq)).1
      refine ⟨c.setIfInBounds r (.int .u32 (evWord e : Int)), ?_, by simpa using h2, fun j hj hj4 => ?_⟩
      · rw [Below.heap_setCell _ _ _ _ hpA, hpe, heap_setCell_at _ h1]
      · by_cases hjr : j = r
        · subst hjr
          rw [Array.getElem?_setIfInBounds_self_of_lt (by omega)]
          have : i * 4096 + j = ev.length := by omega
          simp [this]
        · rw [Array.getElem?_setIfInBounds_ne (Ne.symm hjr)]
          rw [List.length_append, List.length_singleton] at hj
          rw [h3 j (by omega) hj4]
          congr 3
          rw [List.getElem_append_left (by omega)]
    · have hne : p ≠ PL[q] := fun e => by
        have hil : i < PL.length := (List.getElem?_eq_some_iff.1 hp).1
        have hpe : PL[i] = p := by rw [List.getElem?_eq_getElem hil] at hp; exact Option.some.inj hp
        exact hi ((List.getElem_inj hPn).1 (hpe.trans e))
      have hpA : p ≠ A := (hP p (List.mem_of_getElem? hp)).1
      refine ⟨c, (far p hne hpA).trans h1, h2, fun j hj hj4 => ?_⟩
      have hil : i < PL.length := (List.getElem?_eq_some_iff.1 hp).1
      rw [h3 j (by omega) hj4]
      congr 3
      rw [List.getElem_append_left (by omega)]
end

section
variable {W : World} {base : Nat} {F : List Nat} {A : Nat} {cs : List Nat} {rs : List Reg} {ev : List Ev}
set_option maxRecDepth 100000 in
set_option maxHeartbeats 2000000 in
theorem add_old (k t : Nat) (hk : k < 4) (ht : t < 65536) (h : ArenaAt W base F A cs rs ev) (hn : ev.length < 8388608) (hm : ev.length % 4096 ≠ 0) :
    Calls Tryd.prog 52 #[.pointer (some ⟨A, 0, none⟩), .int .i64 (k : Int), .int .i64 (t : Int)] W fun e w' => e = .returned (.tuple #[]) ∧ ArenaAt w' base F A cs rs (ev ++ [(k, t)]) ∧ Fr F W w' := by
  obtain ⟨pv, rv, C, PL, h⟩ := h
  obtain ⟨c0, c1, c2, c3, c4⟩ := h.cells
  have f0 := h.free 0
  have f1 := h.free 1
  obtain ⟨q, hq⟩ : ∃ q, ev.length / 4096 = q := ⟨_, rfl⟩
  obtain ⟨r, hr⟩ : ∃ r, ev.length % 4096 = r := ⟨_, rfl⟩
  have hqr : ev.length = 4096 * q + r := by omega
  have hr4 : r < 4096 := by omega
  have hnp : PL.length = q + 1 := by have := h.np; omega
  have hqP : q < PL.length := by omega
  have hr0 : r ≠ 0 := by omega
  obtain ⟨g, cap, rfl, hg⟩ := h.row hqP
  obtain ⟨pc, hp1, hp2, hp3⟩ := h.pg q PL[q] (List.getElem?_eq_getElem hqP)
  clear hp3
  have HI := Lib.hid (h.added hqr hr4 hqP (k, t) ⟨hk, ht⟩ hn hnp)
  have HAF := Lib.hid ((h.own A (by simp)).1)
  have HPF := Lib.hid ((h.own PL[q] (by simp)).1)
  have hPA : PL[q] ≠ A := (h.parts.2.1 _ (List.getElem_mem hqP)).1
  clear h c2 c3 c4 hm
  generalize PL[q] = p at *
  generalize ev.length = n at *
  have d0 : (W.cell? ⟨p, r, none⟩).isSome = true := by
    unfold World.cell?; rw [hp1]; simp; omega
  obtain ⟨old, d1⟩ := Option.isSome_iff_exists.1 d0
  have d2 : W.frozen? ⟨p, r, none⟩ = false := by unfold World.frozen?; rw [hp1]; simp
  clear hp1 hp2 d0
  have t0 : ((r : Int) == 0) = false := beq_eq_false_iff_ne.2 (by omega)
  have r1 : (n : Int).tmod 4096 = (r : Int) := by rw [Int.tmod_eq_emod_of_nonneg (by omega)]; omega
  have r2 : (n : Int) % 4096 = (r : Int) := by omega
  have r3 : (n : Int).tdiv 4096 = (q : Int) := by rw [Int.tdiv_eq_ediv_of_nonneg (by omega)]; omega
  have r4 : (n : Int) / 4096 = (q : Int) := by omega
  have i1 : (0 : Int) ≤ (q : Int) := by omega
  have i2 : (q : Int) < (PL.length : Int) := by omega
  have i3 : (0 : Int) ≤ (r : Int) := by omega
  have i4 : (r : Int) < 4096 := by omega
  have wt : IntKind.u32.wrap (t : Int) = (t : Int) := by rw [IntKind.wrap_u32]; omega
  have wt4 : IntKind.u32.wrap ((t : Int) * 4) = (t : Int) * 4 := by rw [IntKind.wrap_u32]; omega
  have wk : IntKind.u32.wrap (k : Int) = (k : Int) := by rw [IntKind.wrap_u32]; omega
  have wo := or_ev t k ht hk
  have wq : IntKind.i64.wrap (q : Int) = (q : Int) := IntWalk.i64_in _ (by omega)
  have wr : IntKind.i64.wrap (r : Int) = (r : Int) := IntWalk.i64_in _ (by omega)
  have wn : IntKind.i64.wrap ((n : Int) + 1) = (n : Int) + 1 := IntWalk.i64_in _ (by omega)
  clear hq hr hqr hnp
  go_enter Tryd.func52, Tryd.ntmps52
  go_wp2_with fail
  go_still_tail 24, (by kernel_rfl)
  go_wp2_with fail
  refine bodyPost_end (v := .tuple #[]) (by simp [results, Tryd.results52, go_sem]) rfl ⟨rfl, ?_, ?_⟩
  · exact ArenaAt.keep ⟨_, _, _, _, HI.out⟩ (fun _ _ => rfl) (Nat.le_refl _)
  · refine ⟨rfl, rfl, rfl, by simp [World.drew, World.size_setCell], fun j hj hn => ?_⟩
    have h1 : j ≠ A := fun e => hn (e ▸ HAF.out)
    have h2 : j ≠ p := fun e => hn (e ▸ HPF.out)
    exact (Below.heap_setCell _ _ _ _ h1).trans (Below.heap_setCell _ _ _ _ h2)
end
end Go.Proofs.YtomjefplacgoeaaDoor
