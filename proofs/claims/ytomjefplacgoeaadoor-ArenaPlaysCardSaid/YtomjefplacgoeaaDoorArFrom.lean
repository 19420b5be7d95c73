/- Since and Events of an arena. -/
import Derived.Test.YtomjefplacgoeaaDoorArStep
namespace Go.Proofs.YtomjefplacgoeaaDoor
open Go.RowKit

def ecell (e : Ev) : List Value := [.int .i32 (e.1 : Int), .int .i32 (e.2 : Int)]
def ecells (l : List Ev) : List Value := l.flatMap ecell
theorem ecells_snoc (l : List Ev) (e : Ev) : ecells (l ++ [e]) = ecells l ++ ecell e := by simp [ecells]
theorem infoEv : (Tryd.prog.info? 54).map (fun i => (i.zero, i.size, i.bytes)) = some (some (.agg #[.int .i32 0, .int .i32 0]), 2, 8) := by kernel_rfl
theorem and_ev (t k : Nat) (ht : t < 65536) (hk : k < 4) : bits .and .u32 (evWord (k, t) : Int) 3 = (k : Int) := by
  have hw : evWord (k, t) < 4294967296 := by unfold evWord; simp only; omega
  rw [show (3 : Int) = ((3 : Nat) : Int) from rfl, u32_and_nat _ _ hw (by omega), show (3 : Nat) = 2 ^ 2 - 1 from rfl, Nat.and_two_pow_sub_one_eq_mod]
  unfold evWord; simp only; omega

section
variable {W : World} {base : Nat} {F : List Nat} {A : Nat} {cs : List Nat} {rs : List Reg} {ev : List Ev} {pv rv : Value} {C : Nat} {PL : List Nat} {m : Nat}
theorem ArenaIn.below {W' : World} (h : ArenaIn W base F A cs rs ev pv rv C PL m) (hb : Below W.heap.size W W') : ArenaIn W' base F A cs rs ev pv rv C PL m := by
  have hm : ∀ k ∈ A :: C :: (PL ++ blockOf pv ++ blockOf rv), W'.heap[k]? = W.heap[k]? := fun k hk => hb.block k (h.own k hk).2.2
  exact ⟨(hm A (by simp)).trans h.a, (hm C (by simp)).trans h.c, owns_keep h.p (fun k hk => hm k (by simp [hk])), owns_keep h.r (fun k hk => hm k (by simp [hk])), h.np,
    fun i p hp => by
      obtain ⟨c, h1, h2⟩ := h.pg i p hp
      exact ⟨c, (hm p (by have := List.mem_of_getElem? hp; simp [this])).trans h1, h2⟩,
    h.nd, fun k hkm => ⟨(h.own k hkm).1, (h.own k hkm).2.1, Nat.lt_of_lt_of_le (h.own k hkm).2.2 hb.size⟩, h.lc, h.le, h.lr⟩
theorem ArenaIn.step (h : ArenaIn W base F A cs rs ev pv rv C PL m) {i : Nat} (hi : i < ev.length) (hq : i / 4096 < PL.length) :
    W.cell? ⟨PL[i / 4096], i % 4096, none⟩ = some (.int .u32 (evWord ev[i] : Int)) := by
  obtain ⟨c, h1, h2, h3⟩ := h.pg (i / 4096) PL[i / 4096] (List.getElem?_eq_getElem hq)
  refine cell_in h1 ?_
  have := h3 (i % 4096) (by omega) (by omega)
  rw [this]
  congr 3
  simp only [show i / 4096 * 4096 + i % 4096 = i by omega]
theorem ArenaAt.below {W' : World} (h : ArenaAt W base F A cs rs ev) (hb : Below W.heap.size W W') : ArenaAt W' base F A cs rs ev := by
  obtain ⟨pv, rv, C, PL, h⟩ := h
  exact ⟨pv, rv, C, PL, h.below hb⟩
end

section
variable {W : World} {base : Nat} {F : List Nat} {A : Nat} {cs : List Nat} {rs : List Reg} {ev : List Ev}
set_option maxRecDepth 100000 in
set_option maxHeartbeats 4000000 in
theorem from_p (s : Nat) (h : ArenaAt W base F A cs rs ev) (hs : s ≤ ev.length) :
    Calls Tryd.prog 40 #[.pointer (some ⟨A, 0, none⟩), .int .i64 (s : Int)] W fun e w' => ∃ v, e = .returned v ∧ w'.ownsRow W.heap.size 54 2 v (ev.length - s) (ecells (ev.drop s)) ∧ Below W.heap.size W w' := by
  obtain ⟨i0, hi, hz0, hz1, hz2⟩ := info_parts infoEv
  obtain ⟨pv, rv, C, PL, h⟩ := h
  obtain ⟨c0, c1, c2, c3, c4⟩ := h.cells
  have hle := h.le.1
  have HI := Lib.hid h
  clear h c0 c2 c3 c4
  have wl : IntKind.i64.wrap ((ev.length : Int) - (s : Int)) = ((ev.length - s : Nat) : Int) := (IntWalk.i64_in _ (by omega)).trans (by omega)
  go_enter Tryd.func40, Tryd.ntmps40
  go_wp2_with (first | (at_make; refine wpList_make_own _ rfl _ _ 49 rfl W.heap.size 54 i0 _ 2 Tryd.underlying49 hi hz0 hz1 _ _ _ (ev.length - s) rfl rfl (by first | rfl | omega) (by rw [hz2]; omega) (by unfold maxLen; omega) (Nat.le_refl _) ?_; intro w1 hown hgrow))
  have hb1 : Below W.heap.size W w1 := (Below.refl _ _).grown hgrow (Nat.le_refl _) (fun q e => by cases e)
  have HO1 := Lib.hid hown
  have HB1 := Lib.hid hb1
  clear hown hgrow hb1 c1 wl
  go_loopw [5, 6] (fun ov iv wr => ∃ (o : Value) (i : Nat), o = ov ∧ s ≤ i ∧ i ≤ ev.length ∧ iv = .int .i64 (i : Nat) ∧ wr.ownsRow W.heap.size 54 2 o (i - s) (ecells ((ev.drop s).take (i - s))) ∧ Below W.heap.size W wr) (fun _ iv _ => ev.length - (intOf iv).toNat)
  case atStart => exact ⟨_, s, rfl, Nat.le_refl _, hs, rfl, by simpa [ecells] using HO1.out, HB1.out⟩
  case round =>
    obtain ⟨o, i, rfl, hi1, hi2, rfl, hown, hB⟩ := hrel
    have hI := HI.out.below hB
    obtain ⟨c0, c1, c2, c3, c4⟩ := hI.cells
    have HB := Lib.hid hB
    have HO := Lib.hid hown
    have hsz := hB.size
    by_cases hlt : i < ev.length
    · have hnp := hI.np
      have hq : i / 4096 < PL.length := by omega
      obtain ⟨g, cap, rfl, hg⟩ := hI.row hq
      have hst := hI.step hlt hq
      obtain ⟨q, hqe⟩ : ∃ q, i / 4096 = q := ⟨_, rfl⟩
      obtain ⟨r, hre⟩ : ∃ r, i % 4096 = r := ⟨_, rfl⟩
      simp only [hqe, hre] at hg hst hq
      have hee := hI.le.2 ev[i] (List.getElem_mem hlt)
      have HT := Lib.hid (show (ev.drop s).take (i + 1 - s) = (ev.drop s).take (i - s) ++ [ev[i]] by
        rw [show i + 1 - s = i - s + 1 by omega, List.take_succ_eq_append_getElem (by rw [List.length_drop]; omega), List.getElem_drop]
        simp only [show s + (i - s) = i by omega])
      clear hI c2 c3 c4 hown hB
      generalize PL[q] = p at *
      obtain ⟨⟨k, t⟩, hke⟩ : ∃ e, ev[i] = e := ⟨_, rfl⟩
      rw [hke] at hee hst HT
      obtain ⟨hk, ht⟩ := hee
      simp only at hk ht
      have j0 : (i : Int) < (ev.length : Int) := by omega
      have r2 : (i : Int) % 4096 = (r : Int) := by omega
      have r1 : (i : Int).tmod 4096 = (r : Int) := by rw [Int.tmod_eq_emod_of_nonneg (by omega)]; exact r2
      have q2 : (i : Int) / 4096 = (q : Int) := by omega
      have q1 : (i : Int).tdiv 4096 = (q : Int) := by rw [Int.tdiv_eq_ediv_of_nonneg (by omega)]; exact q2
      have wq : IntKind.i64.wrap (q : Int) = (q : Int) := IntWalk.i64_in _ (by omega)
      have i1 : (0 : Int) ≤ (q : Int) := by omega
      have i2 : (q : Int) < (PL.length : Int) := by omega
      have i3 : (0 : Int) ≤ (r : Int) := by omega
      have i4 : (r : Int) < 4096 := by omega
      have wa := and_ev t k ht hk
      have we : ((evWord (k, t) : Nat) : Int) / 4 = (t : Int) := by unfold evWord; simp only; omega
      have wk : IntKind.i32.wrap (k : Int) = (k : Int) := by rw [IntKind.wrap_i32]; omega
      have wt : IntKind.i32.wrap (t : Int) = (t : Int) := by rw [IntKind.wrap_i32]; omega
      have wt0 : IntKind.u32.wrap (t : Int) = (t : Int) := by rw [IntKind.wrap_u32]; omega
      have wi1 : IntKind.i64.wrap ((i : Int) + 1) = (i : Int) + 1 := IntWalk.i64_in _ (by omega)
      generalize evWord (k, t) = x at *
      clear hke hqe hre hnp
      go_wp2_with (at_builtin; refine wpList_append_lies _ rfl _ _ _ rfl W.heap.size 54 i0 _ 2 8 Tryd.underlying49 hi hz0 hz1 hz2 rfl (by decide) o (i - s) _ rfl (HO.out.alloc _) ⟨wr.heap.size, 0, none⟩ 1 1 [.int .i32 (k : Int), .int .i32 (t : Int)] rfl rfl (World.news_of_block (cs := #[.int .i32 (k : Int), .int .i32 (t : Int)]) (t := 54) (fr := (0, 0)) (heap_alloc_new wr _)) (by simp [Value.oneCell']) (by decide) (by unfold maxLen; omega) (by omega) (by simp; omega) (wr.heap.size + 1) (by simp) ?_; intro g9 cap9 w9 hown9 hgrow9 hat9 hlt9)
      have hb9 : Below W.heap.size W w9 := (HB.out.alloc hsz _).grown hgrow9 (by simp; omega) (fun q e => (HO.out.lt q e).1)
      exact ⟨⟨_, i + 1, rfl, by omega, by omega, by go_num, by rw [HT.out, ecells_snoc, show i + 1 - s = i - s + 1 by omega]; exact hown9, hb9⟩, by simp [intOf]; omega⟩
    · obtain rfl : ev.length = i := by omega
      have j0 : ¬ ((ev.length : Int) < (ev.length : Int)) := by omega
      clear hI c0 c2 c3 c4 hown hB
      go_wp2_with fail
      go_ret
      refine ⟨_, rfl, ?_, HB.out⟩
      have := HO.out
      rwa [List.take_of_length_le (by rw [List.length_drop]; omega)] at this
end
end Go.Proofs.YtomjefplacgoeaaDoor
