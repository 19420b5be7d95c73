/- Layer 17: Find. -/
import Derived.Test.YtghdgenlkbocmaaLSpotsR
import Derived.Test.YtghdgenlkbocmaaLSearch
namespace Go.Proofs.Ytghdgenlkbocmaa
open Go.RowKit

theorem Good.mono {W : Int} {l : List Ln} (h : Good W l) (i : Nat) : ∀ (d : Nat) (hj : i + d + 1 < l.length), l[i].2.1 + l[i].2.2 ≤ l[i + d + 1].2.1
  | 0, hj => by have := (h.chain.next i hj).1; simp only [Nat.add_zero]; omega
  | d + 1, hj => by
    have h1 := h.mono i d (by omega)
    have h2 := (h.chain.next (i + d + 1) (by omega)).1
    have h3 := (h.chain.all (i + d + 1) (by omega)).1
    have e : i + (d + 1) + 1 = i + d + 1 + 1 := by omega
    simp only [e]
    omega
theorem Good.lt {W : Int} {l : List Ln} (h : Good W l) {i j : Nat} (hij : i < j) (hj : j < l.length) : l[i].2.1 + l[i].2.2 ≤ l[j].2.1 := by
  have := h.mono i (j - i - 1) (by omega)
  have e : i + (j - i - 1) + 1 = j := by omega
  simp only [e] at this
  exact this
theorem Good.ge {W : Int} {l : List Ln} (h : Good W l) : ∀ (k : Nat) (hk : k < l.length), (k : Int) ≤ l[k].2.1
  | 0, hk => by have := (h.chain.all 0 hk).2.2.2.1; simpa using this
  | k + 1, hk => by
    have h1 := h.ge k (by omega)
    have h2 := (h.chain.next k hk).1
    have h3 := (h.chain.all k (by omega)).1
    push_cast
    omega
theorem Good.short {W : Int} {l : List Ln} (h : Good W l) : l.length ≤ 256 := by
  have h0 := h.pos
  have h1 := h.ge (l.length - 1) (by omega)
  have h2 := h.chain.all (l.length - 1) (by omega)
  omega

def FindAt (l : List Ln) (pos : Int) (i : Nat) : Prop := ∃ h : i < l.length, l[i].2.1 ≤ pos ∧ pos < l[i].2.1 + l[i].2.2
theorem FindAt.uniq {W : Int} {l : List Ln} (hG : Good W l) {pos : Int} {i j : Nat} (h1 : FindAt l pos i) (h2 : FindAt l pos j) : i = j := by
  obtain ⟨a1, a2, a3⟩ := h1
  obtain ⟨b1, b2, b3⟩ := h2
  rcases Nat.lt_trichotomy i j with h | h | h
  · have := hG.lt h b1; omega
  · exact h
  · have := hG.lt h a1; omega
def findI (l : List Ln) (pos : Int) : Nat := l.findIdx fun x => decide (pos < x.2.1 + x.2.2)
theorem findI_at {W : Int} {l : List Ln} (hG : Good W l) {pos : Int} (h0 : 0 ≤ pos) (h1 : pos < (lastL l).2.1 + (lastL l).2.2) : FindAt l pos (findI l pos) := by
  obtain ⟨k, hk⟩ : ∃ k, l.length = k + 1 := ⟨l.length - 1, by have := hG.pos; omega⟩
  rw [lastL_at hk] at h1
  have hlt : findI l pos < l.length := List.findIdx_lt_length_of_exists ⟨l[k], List.getElem_mem (by omega), by simpa using h1⟩
  have hp : pos < l[findI l pos].2.1 + l[findI l pos].2.2 := by
    have := List.findIdx_getElem (xs := l) (p := fun x : Ln => decide (pos < x.2.1 + x.2.2)) (w := hlt)
    exact of_decide_eq_true this
  refine ⟨hlt, ?_, hp⟩
  rcases Nat.eq_zero_or_pos (findI l pos) with h | h
  · have := (hG.chain.first hG.pos).1
    simp only [h]
    omega
  · have hn : ¬ pos < l[findI l pos - 1].2.1 + l[findI l pos - 1].2.2 := by
      have := List.not_of_lt_findIdx (xs := l) (p := fun x : Ln => decide (pos < x.2.1 + x.2.2)) (i := findI l pos - 1) (by show _ < findI l pos; omega)
      first | exact of_decide_eq_false this | exact fun h => this (decide_eq_true h)
    have h2 := (hG.chain.next (findI l pos - 1) (by omega)).1
    have e : findI l pos - 1 + 1 = findI l pos := by omega
    simp only [e] at h2
    omega

def findV (W : Int) (l : List Ln) (pos : Int) : Int × Int × Int :=
  if (checkV W l).2 ≠ 0 then (0, 0, (checkV W l).2) else if pos < 0 ∨ (lastL l).2.1 + (lastL l).2.2 ≤ pos then (0, 0, 4) else ((findI l pos : Nat), pos - (l.getD (findI l pos) (0, 0, 0)).2.1, 0)

structure FM (w : World) (W pos : Int) (v : Value) (wr : World) : Prop where
  one : PAt wr w.heap.size (.int .i64 W) v
  two : wr.heap[w.heap.size + 1]? = some (.cells #[.int .i64 pos] 3 (0, 0))
  bel : Below w.heap.size w wr
theorem FM.start (w : World) (W pos : Int) (v : Value) : FM w W pos v ((w.alloc (.cells #[.int .i64 W, v] 27)).alloc (.cells #[.int .i64 pos] 3)) := by
  have h1 := heap_alloc_new (w.alloc (.cells #[.int .i64 W, v] 27)) (.cells #[.int .i64 pos] 3)
  rw [World.size_alloc] at h1
  exact ⟨(PAt.new w _ _).alloc _, h1, ((Below.refl _ _).alloc (Nat.le_refl _) _).alloc (by simp) _⟩
theorem FM.lt {w wr : World} {W pos : Int} {v : Value} (h : FM w W pos v wr) : w.heap.size + 1 < wr.heap.size := (Array.getElem?_eq_some_iff.1 h.two).1
theorem FM.keep {w wr w' : World} {W pos : Int} {v : Value} (h : FM w W pos v wr) {N : Nat} (hb : Below N wr w') (hN : N = wr.heap.size) : FM w W pos v w' := by
  subst hN
  exact ⟨h.one.below hb h.one.lt, (hb.block _ h.lt).trans h.two, h.bel.trans (hb.mono h.bel.size)⟩
theorem FM.cells {w wr : World} {W pos : Int} {v : Value} (h : FM w W pos v wr) : wr.cell? ⟨w.heap.size, 0, none⟩ = some (.int .i64 W) ∧ wr.cell? ⟨w.heap.size, 1, none⟩ = some v ∧ wr.cell? ⟨w.heap.size + 1, 0, none⟩ = some (.int .i64 pos) :=
  ⟨h.one.cells.1, h.one.cells.2, by simp [World.cell?, h.two]⟩
theorem FM.drewN {w wr : World} {W pos : Int} {v : Value} (h : FM w W pos v wr) (n : Nat) : FM w W pos v (wr.drewN n) := h.keep (below_drewN (Below.refl _ _) n) rfl

set_option maxRecDepth 100000 in
set_option maxHeartbeats 1000000 in
theorem beyond_p (W pos : Int) (v : Value) (l : List Ln) (w : World) (hv : Lanes w v l) (h : Nat) (hh : h < l.length) (wr : World) (hM : FM w W pos v wr) :
    Calls Try.prog 49 #[.int .i64 (h : Nat), .pointer (some ⟨w.heap.size, 0, none⟩), .pointer (some ⟨w.heap.size + 1, 0, none⟩)] wr fun e w' => e = .returned (.bool (decide (pos < (l.getD h (0, 0, 0)).2.1))) ∧ FM w W pos v w' := by
  obtain ⟨a, cap, rfl⟩ := hv.form
  have hm := Row.max hv
  obtain ⟨g, o, rfl, hg, q0, q1, q2⟩ := hv.at hh
  have c1 := (hM.bel.cell (p := ⟨g, o + h * 3 + 1, none⟩) hg).trans q1
  have e : (l.getD h (0, 0, 0)) = l[h] := by rw [List.getD_eq_getElem?_getD, List.getElem?_eq_getElem hh]; rfl
  rw [e]
  generalize l[h].2.1 = f at *
  obtain ⟨c2, c3, c4⟩ := hM.cells
  have HM := Lib.hid hM
  have i0 : (0 : Int) ≤ (h : Int) := by omega
  have i1 : (h : Int) < (l.length : Int) := by omega
  clear q0 q1 q2 hM e hv
  go_enter Try.func49, Try.ntmps49
  go_wp2_with fail
  go_quiet (fail)
  go_wp2_with fail
  go_ret
  exact ⟨rfl, HM.out.drewN _⟩

set_option maxRecDepth 100000 in
set_option maxHeartbeats 2000000 in
theorem find_p (W pos : Int) (v : Value) (l : List Ln) (w : World) (hv : Lanes w v l) : Calls Try.prog 23 #[.agg #[.int .i64 W, v], .int .i64 pos] w fun e w' => e = .returned (.tuple #[.int .i64 (findV W l pos).1, .int .i64 (findV W l pos).2.1, .int .i64 (findV W l pos).2.2]) ∧ Below w.heap.size w w' := by
  have K1 := Lib.hid (fun w h => spots_p W v l w h)
  have HM := Lib.hid (FM.start w W pos v)
  have HV := Lib.hid hv
  have KB := Lib.hid (fun h hh wr hM => beyond_p W pos v l w hv h hh wr hM)
  have hm := Row.max hv
  obtain ⟨V, hV⟩ : ∃ V, V = findV W l pos := ⟨_, rfl⟩
  rw [← hV]
  unfold findV at hV
  obtain ⟨a, cap, rfl⟩ := hv.form
  clear hv
  by_cases h0 : (checkV W l).2 = 0
  · have hG := good_of h0
    rw [if_neg (fun h => h h0)] at hV
    rw [show spotsV W l = (lastL l).2.1 + (lastL l).2.2 by unfold spotsV; rw [if_pos h0], h0] at K1
    obtain ⟨m1, m2, m3, m4, m5⟩ := hG.last
    have HG := Lib.hid hG
    have hs := hG.short
    have HFI := Lib.hid (fun h0 h1 => findI_at (pos := pos) hG h0 h1)
    have hn0 : 1 ≤ (lastL l).2.1 + (lastL l).2.2 := by omega
    generalize hend : (lastL l).2.1 + (lastL l).2.2 = n at *
    have HEND := Lib.hid hend
    clear h0 hG hend
    obtain ⟨c0, c1, c2⟩ := HM.out.cells
    by_cases hp : pos < 0 ∨ n ≤ pos
    · rw [if_pos hp] at hV
      subst hV
      rcases hp with hp | hp
      · go_enter Try.func23, Try.ntmps23
        go_wp2_with fail
        refine (K1.out _ (HV.out.below HM.out.bel)).mono ?_
        rintro e w1 ⟨rfl, hb⟩
        have HM1 := Lib.hid (HM.out.keep hb rfl)
        clear c0 c1 c2 hb
        obtain ⟨c0, c1, c2⟩ := HM1.out.cells
        go_wp2_with fail
        go_ret3
        exact ⟨rfl, HM1.out.bel⟩
      · have hp2 : ¬ pos < 0 := by omega
        go_enter Try.func23, Try.ntmps23
        go_wp2_with fail
        refine (K1.out _ (HV.out.below HM.out.bel)).mono ?_
        rintro e w1 ⟨rfl, hb⟩
        have HM1 := Lib.hid (HM.out.keep hb rfl)
        clear c0 c1 c2 hb
        obtain ⟨c0, c1, c2⟩ := HM1.out.cells
        go_wp2_with fail
        go_ret3
        exact ⟨rfl, HM1.out.bel⟩
    · rw [if_neg hp] at hV
      have hp1 : ¬ pos < 0 := by omega
      have hp2 : ¬ n ≤ pos := by omega
      have HVV := Lib.hid hV
      clear hV hp
      go_enter Try.func23, Try.ntmps23
      go_wp2_with fail
      refine (K1.out _ (HV.out.below HM.out.bel)).mono ?_
      rintro e w1 ⟨rfl, hb⟩
      have HM1 := Lib.hid (HM.out.keep hb rfl)
      clear c0 c1 c2 hb
      obtain ⟨c0, c1, c2⟩ := HM1.out.cells
      go_wp2_with fail
      refine (search_p 49 (fun _ _ => rfl) _ _ l.length (by omega) (fun h => decide (pos < (l.getD h (0, 0, 0)).2.1)) (FM w W pos (.slice a l.length cap)) (fun h hh wr hM => KB.out h hh wr hM) _ HM1.out).mono ?_
      rintro e w2 ⟨r, rfl, hr, hr0, hr1, hM2⟩
      have HM2 := Lib.hid hM2
      obtain ⟨j, hj⟩ : ∃ j, r = j + 1 := ⟨r - 1, by
        have hpos := HG.out.pos
        have hf := (HG.out.chain.first hpos).1
        rcases hr1 with h | h
        · omega
        · by_cases h0 : r = 0
          · subst h0
            have := of_decide_eq_true h
            rw [List.getD_eq_getElem?_getD, List.getElem?_eq_getElem hpos] at this
            simp at this
            omega
          · omega⟩
      subst hj
      have hat : FindAt l pos j := by
        refine ⟨by omega, ?_, ?_⟩
        · rcases hr0 with h | h
          · omega
          · have := of_decide_eq_false h
            rw [Nat.add_sub_cancel, List.getD_eq_getElem?_getD, List.getElem?_eq_getElem (by omega)] at this
            simp at this
            omega
        · rcases hr1 with h | h
          · have e := lastL_at h.symm
            have := HEND.out
            rw [e] at this
            omega
          · have := of_decide_eq_true h
            by_cases hl : j + 1 < l.length
            · rw [List.getD_eq_getElem?_getD, List.getElem?_eq_getElem hl] at this
              simp at this
              have h2 := (HG.out.chain.next j hl).1
              omega
            · have e := lastL_at (show l.length = j + 1 by omega)
              have := HEND.out
              rw [e] at this
              omega
      have hij := FindAt.uniq HG.out hat (HFI.out (by omega) (by omega))
      obtain ⟨hjl, f1, f2⟩ := hat
      have hV2 : V = (((j : Nat) : Int), pos - l[j].2.1, 0) := by
        rw [HVV.out, ← hij, List.getD_eq_getElem?_getD, List.getElem?_eq_getElem hjl]
        rfl
      obtain ⟨g, o, e, hg, q0, q1, q2⟩ := HV.out.at hjl
      have hf0 := (HG.out.chain.all j hjl).2.2.2.1
      subst hV2
      cases e
      have d1 := (hM2.bel.cell (p := ⟨g, o + j * 3 + 1, none⟩) hg).trans q1
      obtain ⟨d2, d3, d4⟩ := hM2.cells
      generalize hff : l[j].2.1 = f at *
      have HFF := Lib.hid hff
      clear hff
      have i0 : (0 : Int) ≤ (j : Int) := by omega
      have i1 : (j : Int) < (l.length : Int) := by omega
      clear c0 c1 c2 q0 q1 q2 hM2 hr0 hr1 hr hij HVV
      go_wp2_with fail
      go_quiet (fail)
      go_wp2_with fail
      go_ret3
      obtain rfl := HFF.out
      exact ⟨rfl, below_drewN HM2.out.bel _⟩
  · rw [if_pos h0] at hV
    rw [show spotsV W l = 0 by unfold spotsV; rw [if_neg h0]] at K1
    have e1 : ((checkV W l).2 != 0) = true := bne_iff_ne.2 h0
    generalize (checkV W l).2 = E at *
    subst hV
    obtain ⟨c0, c1, c2⟩ := HM.out.cells
    clear h0
    go_enter Try.func23, Try.ntmps23
    go_wp2_with fail
    refine (K1.out _ (HV.out.below HM.out.bel)).mono ?_
    rintro e w1 ⟨rfl, hb⟩
    have HM1 := Lib.hid (HM.out.keep hb rfl)
    clear c0 c1 c2 hb
    go_wp2_with fail
    go_ret3
    exact ⟨rfl, HM1.out.bel⟩
end Go.Proofs.Ytghdgenlkbocmaa
