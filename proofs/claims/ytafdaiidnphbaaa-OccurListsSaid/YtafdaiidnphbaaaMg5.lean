/- Texts that the claims share, part 5. -/
import Derived.Test.YtafdaiidnphbaaaMg4
import Derived.Deep.RegionHeld3
import Derived.Lib.SliceRun
import Derived.Lib.SlicesCompact
import Derived.Shelf.Spec.SlicesGrow
import Derived.Shelf.SlicesQ.IndexFunc
import Derived.Test.YtafdaiidnphbaaaProg

/- Writes into rows that the call owns. -/
namespace Go.Proofs.Ytafdaiidnphbaaa
open Go.RowKit Go.Sort

theorem owns_set {w : World} {base : Nat} {e : TypeId} {s g n cap : Nat} {xs : List Value} (h : w.ownsRow base e s (.slice (some ⟨g, 0, none⟩) n cap) n xs) (j : Nat) (u : Value) (_ : j < n * s) :
    (w.setCell ⟨g, j, none⟩ u).ownsRow base e s (.slice (some ⟨g, 0, none⟩) n cap) n (xs.set j u) := by
  rcases h.2 with ⟨e0, _⟩ | ⟨g', cap', cur, e0, hb, hg, hn, hmx, hs, ht⟩
  · cases e0
  · injection e0 with e1 _ e3
    injection e1 with e1
    injection e1 with e1
    subst e1; subst e3
    refine ⟨by rw [List.length_set]; exact h.1, .inr ⟨g, cap, cur.setIfInBounds j u, rfl, hb, heap_setCell_at _ hg, hn, hmx, by simpa using hs, ?_⟩⟩
    rw [Array.toList_setIfInBounds, ← ht, List.take_set]
theorem owns_free {w : World} {base : Nat} {e : TypeId} {s g n cap : Nat} {xs : List Value} (h : w.ownsRow base e s (.slice (some ⟨g, 0, none⟩) n cap) n xs) (j : Nat) : w.frozen? ⟨g, j, none⟩ = false := by
  rcases h.2 with ⟨e0, _⟩ | ⟨g', cap', cur, e0, hb, hg, hn, hmx, hs, ht⟩
  · cases e0
  · injection e0 with e1 _ e3
    injection e1 with e1
    injection e1 with e1
    subst e1
    exact free_in hg
theorem hcells_set0 (l : List Hit) (i : Nat) (h : i < l.length) (x : Int) : (hcells l).set (i * 2) (.int .i64 x) = hcells (l.set i (x, l[i].2)) := by
  induction l generalizing i with
  | nil => simp at h
  | cons c l ih =>
    cases i with
    | zero => rfl
    | succ i =>
      have := ih i (by simpa using h)
      rw [show (i + 1) * 2 = i * 2 + 1 + 1 by omega]
      show Value.int .i64 c.1 :: Value.int .i64 c.2 :: (hcells l).set (i * 2) _ = _
      rw [this]
      rfl
theorem hcells_set1 (l : List Hit) (i : Nat) (h : i < l.length) (x : Int) : (hcells l).set (i * 2 + 1) (.int .i64 x) = hcells (l.set i (l[i].1, x)) := by
  induction l generalizing i with
  | nil => simp at h
  | cons c l ih =>
    cases i with
    | zero => rfl
    | succ i =>
      have := ih i (by simpa using h)
      rw [show (i + 1) * 2 + 1 = (i * 2 + 1) + 1 + 1 by omega]
      show Value.int .i64 c.1 :: Value.int .i64 c.2 :: (hcells l).set (i * 2 + 1) _ = _
      rw [this]
      rfl

/-- a hit that may not be moved -/
def stuckH (by_ : Int) (h : Hit) : Prop := by_ < -1000000000 ∨ 1000000000 < by_ ∨ h.1 + by_ < 1 ∨ 1000000000 < h.1 + by_
instance (by_ : Int) (h : Hit) : Decidable (stuckH by_ h) := by unfold stuckH; exact inferInstance
def moveH (by_ : Int) (h : Hit) : Hit := (h.1 + by_, h.2)
def shiftE (l : List Hit) (k : Int) : Int := if (sortedV l).2 ≠ 0 then (sortedV l).2 else if ∃ h ∈ l, stuckH k h then 7 else 0
def shiftL (l : List Hit) (k : Int) : List Hit := if shiftE l k = 0 then l.map (moveH k) else []
theorem stuck_cases (k : Int) (h : Hit) : (stuckH k h ∧ k < -1000000000) ∨ (stuckH k h ∧ ¬ k < -1000000000 ∧ 1000000000 < k) ∨ (stuckH k h ∧ ¬ k < -1000000000 ∧ ¬ 1000000000 < k ∧ h.1 + k < 1) ∨ (stuckH k h ∧ ¬ k < -1000000000 ∧ ¬ 1000000000 < k ∧ ¬ h.1 + k < 1 ∧ 1000000000 < h.1 + k) ∨ (¬ stuckH k h ∧ ¬ k < -1000000000 ∧ ¬ 1000000000 < k ∧ ¬ h.1 + k < 1 ∧ ¬ 1000000000 < h.1 + k) := by
  unfold stuckH
  omega
theorem shift_bad {l : List Hit} {k : Int} (h0 : (sortedV l).2 = 0) {i : Nat} (hi : i < l.length) (h : stuckH k l[i]) : shiftE l k = 7 ∧ shiftL l k = [] := by
  have e : shiftE l k = 7 := by
    unfold shiftE
    rw [if_neg (by rw [h0]; simp), if_pos ⟨l[i], List.getElem_mem hi, h⟩]
  exact ⟨e, by unfold shiftL; rw [if_neg (by rw [e]; decide)]⟩
theorem shift_good {l : List Hit} {k : Int} (h0 : (sortedV l).2 = 0) (h : ∀ i (hi : i < l.length), ¬ stuckH k l[i]) : shiftE l k = 0 ∧ shiftL l k = l.map (moveH k) := by
  have e : shiftE l k = 0 := by
    unfold shiftE
    rw [if_neg (by rw [h0]; simp), if_neg]
    rintro ⟨x, hx, hs⟩
    obtain ⟨i, hi, rfl⟩ := List.getElem_of_mem hx
    exact h i hi hs
  exact ⟨e, by unfold shiftL; rw [if_pos e]⟩
/-- hits freshly made and an error's number -/
def Hits2 (w : World) (l : List Hit) (x : Int) (e : Ending) (w' : World) : Prop := ∃ v, e = .returned (.tuple #[v, .int .i64 x]) ∧ w'.ownsRow w.heap.size 38 2 v l.length (hcells l) ∧ Below w.heap.size w w'
/-- the hits of which the first are moved -/
def movedTo (k : Int) (l : List Hit) (i : Nat) : List Hit := (l.take i).map (moveH k) ++ l.drop i
theorem movedTo_len (k : Int) (l : List Hit) (i : Nat) : (movedTo k l i).length = l.length := by
  unfold movedTo
  rw [List.length_append, List.length_map, List.length_take, List.length_drop]
  omega
theorem movedTo_at (k : Int) (l : List Hit) (i : Nat) (h : i < l.length) : (movedTo k l i)[i]'(by rw [movedTo_len]; exact h) = l[i] := by
  unfold movedTo
  rw [List.getElem_append_right (by simp; omega)]
  simp [Nat.min_eq_left (Nat.le_of_lt h)]
theorem movedTo_set (k : Int) (l : List Hit) (i : Nat) (h : i < l.length) : (movedTo k l i).set i (moveH k l[i]) = movedTo k l (i + 1) := by
  unfold movedTo
  have e : (List.map (moveH k) (l.take i)).length = i := by simp; omega
  rw [List.set_append_right _ _ (by omega), e, Nat.sub_self, List.take_succ_eq_append_getElem h, List.map_append]
  have hd : l.drop i = l[i] :: l.drop (i + 1) := List.drop_eq_getElem_cons h
  rw [hd, List.append_assoc]
  rfl
theorem movedTo_end (k : Int) (l : List Hit) : movedTo k l l.length = l.map (moveH k) := by
  unfold movedTo
  simp
set_option maxRecDepth 100000 in
set_option maxHeartbeats 8000000 in
theorem shift_p (v : Value) (l : List Hit) (k : Int) (w : World) (h : Hits w v l) :
    Calls Try.prog 25 #[v, .int .i64 k] w (Hits2 w (shiftL l k) (shiftE l k)) := by
  have KS := Lib.hid (sorted_p _ l w h)
  have HP := Lib.hid h
  by_cases h0 : (sortedV l).2 = 0
  · have hle := (okH_of h0).le
    rw [sortedV_ok h0] at KS
    have HBAD := Lib.hid (fun i hi => @shift_bad l k h0 i hi)
    have HGOOD := Lib.hid (@shift_good l k h0)
    have HEL := Lib.hid ((okH_of h0).el)
    clear h0 h
    go_enter Try.func25, Try.ntmps25
    go_wp2_with fail
    refine KS.out.mono ?_
    rintro e w1 ⟨rfl, hb1⟩
    have HB1 := Lib.hid hb1
    have KC := Lib.hid (clone_h _ _ _ (HP.out.below hb1) (by omega))
    clear hb1 KS
    go_wp2_with fail
    refine KC.out.mono ?_
    rintro e w2 ⟨u, rfl, ho, hb2⟩
    have HO := Lib.hid (ho.mono HB1.out.size)
    have HB2 := Lib.hid (HB1.out.trans (hb2.mono HB1.out.size))
    clear ho hb2 HB1 KC
    by_cases hn : l = []
    · subst hn
      obtain ⟨b1, b2⟩ := HGOOD.out (fun j hj => absurd hj (by simp))
      have HE := Lib.hid b1
      have HL := Lib.hid b2
      have hu : ∃ a, u = .slice a 0 0 ∨ ∃ cap, u = .slice a 0 cap := by
        obtain ⟨a, cap, e⟩ := Row.form2 (Row.of_owns HO.out)
        exact ⟨a, .inr ⟨cap, e⟩⟩
      obtain ⟨a, cap, rfl⟩ : ∃ a cap, u = .slice a 0 cap := by
        obtain ⟨a, cap, e⟩ := Row.form2 (Row.of_owns HO.out)
        exact ⟨a, cap, e⟩
      clear b1 b2 hu
      go_wp2_with fail
      go_loopw [22] (fun iv wr => iv = .int .i64 0 ∧ wr = w2) (fun iv _ => 0)
      case atStart => exact ⟨rfl, rfl⟩
      case round =>
        obtain ⟨rfl, rfl⟩ := hrel
        go_wp2_with fail
        go_ret2
        exact show Hits2 _ _ _ _ _ from (by rw [HE.out, HL.out]; exact ⟨_, rfl, HO.out, HB2.out⟩)
    · obtain ⟨g, cap, rfl, hbg, hgl⟩ := (World.ownsRow.form HO.out (List.length_pos_iff.2 hn))
      go_wp2_with fail
      go_loopw [22] (fun iv wr => ∃ i : Nat, i ≤ l.length ∧ iv = .int .i64 (i : Nat) ∧ (∀ j (hj : j < l.length), j < i → ¬ stuckH k l[j]) ∧ wr.ownsRow w.heap.size 38 2 (.slice (some ⟨g, 0, none⟩) l.length cap) l.length (hcells (movedTo k l i)) ∧ Below w.heap.size w wr) (fun iv _ => l.length - (intOf iv).toNat)
      case atStart => exact ⟨0, by omega, rfl, fun j _ h => absurd h (by omega), by unfold movedTo; simpa using HO.out, HB2.out⟩
      case round =>
        obtain ⟨i, hi, rfl, hno, hown, hB⟩ := hrel
        have HNO := Lib.hid hno
        have HO2 := Lib.hid hown
        have HB := Lib.hid hB
        clear hno hB
        by_cases hlt : i < l.length
        · have hr : Hits wr (.slice (some ⟨g, 0, none⟩) (movedTo k l i).length cap) (movedTo k l i) := Row.of_owns (by rw [movedTo_len]; exact hown)
          have d := Hits.ats hr (i := i) (by rw [movedTo_len]; exact hlt)
          rw [movedTo_at k l i hlt, Nat.zero_add] at d
          have d0 := d.1
          have i1 : (0 : Int) ≤ (i : Int) := by omega
          have i2 : (i : Int) < (l.length : Int) := by omega
          have wi1 : IntKind.i64.wrap ((i : Int) + 1) = (i : Int) + 1 := IntWalk.i64_in _ (by omega)
          clear d
          have hel := (HEL.out i hlt)
          have HST := Lib.hid (HBAD.out i hlt)
          have HSET := Lib.hid (owns_set hown (i * 2) (.int .i64 (l[i].1 + k)) (by omega))
          rw [hcells_set0 (movedTo k l i) i (by rw [movedTo_len]; exact hlt), movedTo_at k l i hlt] at HSET
          have fr := owns_free hown (i * 2)
          have HMV := Lib.hid (movedTo_set k l i hlt)
          have HB3 := Lib.hid (HB.out.setCell (p := ⟨g, i * 2, none⟩) hbg (.int .i64 (l[i].1 + k)))
          clear hr hown
          rcases stuck_cases k l[i] with ⟨hs, c0⟩ | ⟨hs, c0, c1⟩ | ⟨hs, c0, c1, c2⟩ | ⟨hs, c0, c1, c2, c3⟩ | ⟨hs, c0, c1, c2, c3⟩
          · obtain ⟨b1, b2⟩ := HST.out hs
            have HB1 := Lib.hid b1
            have HB2 := Lib.hid b2
            clear b1 b2 hs
            have q0 : decide (k < -1000000000) = true := decide_eq_true c0
            clear HST hel c0 HSET HMV HB3 fr
            generalize l[i].1 = x1 at *
            go_wp2_with fail
            go_ret2
            exact show Hits2 _ _ _ _ _ from (by rw [HB1.out, HB2.out]; exact ⟨_, rfl, World.ownsRow_nil _ _ _ _, HB.out⟩)
          · obtain ⟨b1, b2⟩ := HST.out hs
            have HB1 := Lib.hid b1
            have HB2 := Lib.hid b2
            clear b1 b2 hs
            have q0 : decide (k < -1000000000) = false := decide_eq_false c0
            have q1 : decide (1000000000 < k) = true := decide_eq_true c1
            clear HST hel c0 c1 HSET HMV HB3 fr
            generalize l[i].1 = x1 at *
            go_wp2_with fail
            go_ret2
            exact show Hits2 _ _ _ _ _ from (by rw [HB1.out, HB2.out]; exact ⟨_, rfl, World.ownsRow_nil _ _ _ _, HB.out⟩)
          · obtain ⟨b1, b2⟩ := HST.out hs
            have HB1 := Lib.hid b1
            have HB2 := Lib.hid b2
            clear b1 b2 hs
            have wx : IntKind.i64.wrap (l[i].1 + k) = l[i].1 + k := IntWalk.i64_in _ (by omega)
            have q0 : decide (k < -1000000000) = false := decide_eq_false c0
            have q1 : decide (1000000000 < k) = false := decide_eq_false c1
            have q2 : decide (l[i].1 + k < 1) = true := decide_eq_true c2
            clear HST hel c0 c1 c2 HSET HMV HB3 fr
            generalize l[i].1 = x1 at *
            go_wp2_with fail
            go_ret2
            exact show Hits2 _ _ _ _ _ from (by rw [HB1.out, HB2.out]; exact ⟨_, rfl, World.ownsRow_nil _ _ _ _, HB.out⟩)
          · obtain ⟨b1, b2⟩ := HST.out hs
            have HB1 := Lib.hid b1
            have HB2 := Lib.hid b2
            clear b1 b2 hs
            have wx : IntKind.i64.wrap (l[i].1 + k) = l[i].1 + k := IntWalk.i64_in _ (by omega)
            have q0 : decide (k < -1000000000) = false := decide_eq_false c0
            have q1 : decide (1000000000 < k) = false := decide_eq_false c1
            have q2 : decide (l[i].1 + k < 1) = false := decide_eq_false c2
            have q3 : decide (1000000000 < l[i].1 + k) = true := decide_eq_true c3
            clear HST hel c0 c1 c2 c3 HSET HMV HB3 fr
            generalize l[i].1 = x1 at *
            go_wp2_with fail
            go_ret2
            exact show Hits2 _ _ _ _ _ from (by rw [HB1.out, HB2.out]; exact ⟨_, rfl, World.ownsRow_nil _ _ _ _, HB.out⟩)
          · have HNO2 := Lib.hid (show ∀ j (hj : j < l.length), j < i + 1 → ¬ stuckH k l[j] from fun j hj h1 => by
              by_cases e : j = i
              · subst e; exact hs
              · exact HNO.out j hj (by omega))
            clear hs
            have wx : IntKind.i64.wrap (l[i].1 + k) = l[i].1 + k := IntWalk.i64_in _ (by omega)
            have q0 : decide (k < -1000000000) = false := decide_eq_false c0
            have q1 : decide (1000000000 < k) = false := decide_eq_false c1
            have q2 : decide (l[i].1 + k < 1) = false := decide_eq_false c2
            have q3 : decide (1000000000 < l[i].1 + k) = false := decide_eq_false c3
            clear HST hel c0 c1 c2 c3
            unfold moveH at HMV
            generalize l[i].1 = x1 at *
            go_wp2_with fail
            exact ⟨⟨i + 1, by omega, by go_num, HNO2.out, by rw [← HMV.out]; exact HSET.out, HB3.out⟩, by simp [intOf]; omega⟩
        · have e : i = l.length := by omega
          have i2 : ¬ ((i : Int) < (l.length : Int)) := by omega
          obtain ⟨b1, b2⟩ := HGOOD.out (fun j hj => HNO.out j hj (by omega))
          have HE := Lib.hid b1
          have HL := Lib.hid b2
          have HEND := Lib.hid (movedTo_end k l)
          rw [e] at HO2
          clear b1 b2 hown e
          go_wp2_with fail
          go_ret2
          exact show Hits2 _ _ _ _ _ from (by rw [HE.out, HL.out]; refine ⟨_, rfl, ?_, HB.out⟩; rw [← HEND.out, movedTo_len]; exact HO2.out)
  · have HE := Lib.hid (show shiftE l k = (sortedV l).2 by unfold shiftE; rw [if_pos h0])
    have HL := Lib.hid (show shiftL l k = [] by unfold shiftL; rw [if_neg (by rw [HE.out]; exact h0)])
    generalize (sortedV l).2 = x at *
    clear h
    go_enter Try.func25, Try.ntmps25
    go_wp2_with fail
    refine KS.out.mono ?_
    rintro e w1 ⟨rfl, hb1⟩
    have HB1 := Lib.hid hb1
    clear hb1
    go_wp2_with fail
    go_ret2
    exact show Hits2 _ _ _ _ _ from (by rw [HE.out, HL.out]; exact ⟨_, rfl, World.ownsRow_nil _ _ _ _, HB1.out⟩)
end Go.Proofs.Ytafdaiidnphbaaa

/- Shift of the reference. -/
namespace Go.Proofs.Ytafdaiidnphbaaa
open Go.RowKit Go.Sort

theorem hcells_len (l : List Hit) : (hcells l).length = l.length * 2 := by
  induction l with
  | nil => rfl
  | cons c l ih => simp only [hcells, List.flatMap_cons, List.length_append, List.length_cons] at ih ⊢; rw [ih]; simp [hcell]; omega
set_option maxRecDepth 100000 in
set_option maxHeartbeats 8000000 in
theorem shift_r (v : Value) (l : List Hit) (k : Int) (w : World) (h : Hits w v l) :
    Calls Try.prog 26 #[v, .int .i64 k] w (Hits2 w (shiftL l k) (shiftE l k)) := by
  have KS := Lib.hid (sorted_r _ l w h)
  have HP := Lib.hid h
  by_cases h0 : (sortedV l).2 = 0
  · have hle := (okH_of h0).le
    rw [sortedV_ok h0] at KS
    have HBAD := Lib.hid (fun i hi => @shift_bad l k h0 i hi)
    have HGOOD := Lib.hid (@shift_good l k h0)
    have HEL := Lib.hid ((okH_of h0).el)
    obtain ⟨i0, hi, hz0, hz1, hz2⟩ := info_parts infoHit
    obtain ⟨a, cap, rfl⟩ := Row.form2 h
    clear h0 h
    go_enter Try.func26, Try.ntmps26
    go_wp2_with fail
    refine KS.out.mono ?_
    rintro e w1 ⟨rfl, hb1⟩
    have HB1 := Lib.hid hb1
    clear hb1 KS
    go_wp2_with fail
    go_loopw [8, 9] (fun ov iv wr => ∃ (i : Nat) (ow : Value), ow = ov ∧ i ≤ l.length ∧ iv = .int .i64 (i : Nat) ∧ (∀ j (hj : j < l.length), j < i → ¬ stuckH k l[j]) ∧ wr.ownsRow w.heap.size 38 2 ow i (hcells ((l.take i).map (moveH k))) ∧ Below w.heap.size w wr) (fun _ iv _ => l.length - (intOf iv).toNat)
    case atStart => exact ⟨0, _, rfl, by omega, rfl, fun j _ h => absurd h (by omega), World.ownsRow_nil _ _ _ _, HB1.out⟩
    case round =>
      obtain ⟨i, ov, rfl, hil, rfl, hno, hown, hB⟩ := hrel
      have HNO := Lib.hid hno
      have HOWN := Lib.hid hown
      have HB := Lib.hid hB
      clear hno hB hown
      by_cases hlt : i < l.length
      · obtain ⟨g, o, hga, hg, d0, d1⟩ := Hits.at HP.out hlt
        subst hga
        have d := Hits.ats (Row.below HP.out HB.out) hlt
        obtain ⟨d0, d1⟩ := d
        have i1 : (0 : Int) ≤ (i : Int) := by omega
        have i2 : (i : Int) < (l.length : Int) := by omega
        have wi1 : IntKind.i64.wrap ((i : Int) + 1) = (i : Int) + 1 := IntWalk.i64_in _ (by omega)
        have hel := (HEL.out i hlt)
        have HST := Lib.hid (HBAD.out i hlt)
        have HLS := Lib.hid (show (l.take (i + 1)).map (moveH k) = (l.take i).map (moveH k) ++ [(l[i].1 + k, l[i].2)] by rw [List.take_succ_eq_append_getElem hlt, List.map_append]; rfl)
        rcases stuck_cases k l[i] with ⟨hs, c0⟩ | ⟨hs, c0, c1⟩ | ⟨hs, c0, c1, c2⟩ | ⟨hs, c0, c1, c2, c3⟩ | ⟨hs, c0, c1, c2, c3⟩
        · obtain ⟨b1, b2⟩ := HST.out hs
          have HB1 := Lib.hid b1
          have HB2 := Lib.hid b2
          clear b1 b2 hs
          have q0 : decide (k < -1000000000) = true := decide_eq_true c0
          clear HST hel c0
          generalize l[i].1 = x1 at *
          generalize l[i].2 = x2 at *
          go_wp2_with fail
          go_ret2
          exact show Hits2 _ _ _ _ _ from (by rw [HB1.out, HB2.out]; exact ⟨_, rfl, World.ownsRow_nil _ _ _ _, HB.out⟩)
        · obtain ⟨b1, b2⟩ := HST.out hs
          have HB1 := Lib.hid b1
          have HB2 := Lib.hid b2
          clear b1 b2 hs
          have q0 : decide (k < -1000000000) = false := decide_eq_false c0
          have q1 : decide (1000000000 < k) = true := decide_eq_true c1
          clear HST hel c0 c1
          generalize l[i].1 = x1 at *
          generalize l[i].2 = x2 at *
          go_wp2_with fail
          go_ret2
          exact show Hits2 _ _ _ _ _ from (by rw [HB1.out, HB2.out]; exact ⟨_, rfl, World.ownsRow_nil _ _ _ _, HB.out⟩)
        · obtain ⟨b1, b2⟩ := HST.out hs
          have HB1 := Lib.hid b1
          have HB2 := Lib.hid b2
          clear b1 b2 hs
          have wx : IntKind.i64.wrap (l[i].1 + k) = l[i].1 + k := IntWalk.i64_in _ (by omega)
          have q0 : decide (k < -1000000000) = false := decide_eq_false c0
          have q1 : decide (1000000000 < k) = false := decide_eq_false c1
          have q2 : decide (l[i].1 + k < 1) = true := decide_eq_true c2
          clear HST hel c0 c1 c2
          generalize l[i].1 = x1 at *
          generalize l[i].2 = x2 at *
          go_wp2_with fail
          go_ret2
          exact show Hits2 _ _ _ _ _ from (by rw [HB1.out, HB2.out]; exact ⟨_, rfl, World.ownsRow_nil _ _ _ _, HB.out⟩)
        · obtain ⟨b1, b2⟩ := HST.out hs
          have HB1 := Lib.hid b1
          have HB2 := Lib.hid b2
          clear b1 b2 hs
          have wx : IntKind.i64.wrap (l[i].1 + k) = l[i].1 + k := IntWalk.i64_in _ (by omega)
          have q0 : decide (k < -1000000000) = false := decide_eq_false c0
          have q1 : decide (1000000000 < k) = false := decide_eq_false c1
          have q2 : decide (l[i].1 + k < 1) = false := decide_eq_false c2
          have q3 : decide (1000000000 < l[i].1 + k) = true := decide_eq_true c3
          clear HST hel c0 c1 c2 c3
          generalize l[i].1 = x1 at *
          generalize l[i].2 = x2 at *
          go_wp2_with fail
          go_ret2
          exact show Hits2 _ _ _ _ _ from (by rw [HB1.out, HB2.out]; exact ⟨_, rfl, World.ownsRow_nil _ _ _ _, HB.out⟩)
        · have HNO2 := Lib.hid (show ∀ j (hj : j < l.length), j < i + 1 → ¬ stuckH k l[j] from fun j hj h1 => by
            by_cases e : j = i
            · subst e; exact hs
            · exact HNO.out j hj (by omega))
          clear hs
          have wx : IntKind.i64.wrap (l[i].1 + k) = l[i].1 + k := IntWalk.i64_in _ (by omega)
          have q0 : decide (k < -1000000000) = false := decide_eq_false c0
          have q1 : decide (1000000000 < k) = false := decide_eq_false c1
          have q2 : decide (l[i].1 + k < 1) = false := decide_eq_false c2
          have q3 : decide (1000000000 < l[i].1 + k) = false := decide_eq_false c3
          clear HST hel c0 c1 c2 c3
          generalize l[i].1 = x1 at *
          generalize l[i].2 = x2 at *
          go_wp2_with fail
          have HG := Lib.hid (⟨d0, d1⟩ : wr.cell? ⟨g, o + i * 2, none⟩ = some (.int .i64 x1) ∧ wr.cell? ⟨g, o + i * 2 + 1, none⟩ = some (.int .i64 x2))
          have a1 : ov.ownBlock ≠ some g := fun h => by have := (HOWN.out.lt _ h).1; omega
          have l1 : g < wr.heap.size := by have := HB.out.size; omega
          have l0 : w.heap.size ≤ wr.heap.size := HB.out.size
          go_region_held3 (fun w' => w'.cell? ⟨g, o + i * 2, none⟩ = some (.int .i64 x1) ∧ w'.cell? ⟨g, o + i * 2 + 1, none⟩ = some (.int .i64 x2))
            (first
              | go_keep
              | (go_split_ands
                 refine ⟨?_, ?_⟩
                 · (rw [hgrow.cell_far _ (by simp; omega) (Ne.symm a1)]; assumption)
                 · (rw [hgrow.cell_far _ (by simp; omega) (Ne.symm a1)]; assumption)))
            ((refine step_append_lies _ (by rfl) _ _ _ (by rfl) w.heap.size 38 i0 _ 2 16 Try.underlying34 hi hz0 hz1 hz2 rfl (by omega) ov i _ (by rfl) ((HOWN.out.alloc _).drew)
                ⟨wr.heap.size, 0, none⟩ 1 1 (hcell (x1 + k, x2)) (by rfl) (by rfl) (World.news_of_block (cs := #[.int .i64 (x1 + k), .int .i64 x2]) (t := 38) (fr := (0, 0)) (heap_alloc_new wr _)) (hcell_one _)
                (by omega) (by unfold maxLen; omega) (by omega) (by simp; omega) (wr.heap.size + 1) (by simp) ?_; intro gg cap w2 hown1 hgrow hat hlt2))
          have bg : Below w.heap.size wr w2 := (((Below.refl _ wr).alloc l0 _).drew).grown hgrow (by simp; omega) fun q e => (HOWN.out.lt q e).1
          have HB3 := Lib.hid (HB.out.trans bg)
          rw [← hcells_snoc, ← HLS.out] at hown1
          have HO3 := Lib.hid hown1
          clear hown1 hgrow hat bg a1
          go_wp2_with fail
          exact ⟨⟨i + 1, _, rfl, by omega, by go_num, HNO2.out, HO3.out, HB3.out⟩, by simp [intOf]; omega⟩
      · obtain rfl : i = l.length := by omega
        have i2 : ¬ ((l.length : Int) < (l.length : Int)) := by omega
        obtain ⟨b1, b2⟩ := HGOOD.out (fun j hj => HNO.out j hj (by omega))
        have HE := Lib.hid b1
        have HL := Lib.hid b2
        clear b1 b2
        go_wp2_with fail
        go_ret2
        exact show Hits2 _ _ _ _ _ from (by rw [HE.out, HL.out]; refine ⟨_, rfl, ?_, HB.out⟩; have := HOWN.out; rw [List.take_length] at this; rw [List.length_map]; exact this)
  · have HE := Lib.hid (show shiftE l k = (sortedV l).2 by unfold shiftE; rw [if_pos h0])
    have HL := Lib.hid (show shiftL l k = [] by unfold shiftL; rw [if_neg (by rw [HE.out]; exact h0)])
    generalize (sortedV l).2 = x at *
    clear h
    go_enter Try.func26, Try.ntmps26
    go_wp2_with fail
    refine KS.out.mono ?_
    rintro e w1 ⟨rfl, hb1⟩
    have HB1 := Lib.hid hb1
    clear hb1
    go_wp2_with fail
    go_ret2
    exact show Hits2 _ _ _ _ _ from (by rw [HE.out, HL.out]; exact ⟨_, rfl, World.ownsRow_nil _ _ _ _, HB1.out⟩)
end Go.Proofs.Ytafdaiidnphbaaa

/- slices.Compact at hits. -/
namespace Go.Proofs.Ytafdaiidnphbaaa
open Go.RowKit Go.Sort Go.Lib

theorem owns_cut {w : World} {base : Nat} {e : TypeId} {s g n k cap : Nat} {xs : List Value} (h : w.ownsRow base e s (.slice (some ⟨g, 0, none⟩) n cap) n xs) (hk : k ≤ n) :
    w.ownsRow base e s (.slice (some ⟨g, 0, none⟩) k cap) k (xs.take (k * s)) := by
  have hks : k * s ≤ n * s := Nat.mul_le_mul_right _ hk
  rcases h.2 with ⟨e0, _⟩ | ⟨g', cap', cur, e0, hb, hg, hn, hmx, hs, ht⟩
  · cases e0
  · injection e0 with e1 _ e3
    injection e1 with e1
    injection e1 with e1
    subst e1; subst e3
    refine ⟨by rw [List.length_take, h.1]; exact Nat.min_eq_left hks, .inr ⟨g, cap, cur, rfl, hb, hg, by omega, hmx, hs, ?_⟩⟩
    rw [← ht, List.take_take, Nat.min_eq_left hks]
theorem owns_set_tail {w : World} {base : Nat} {e : TypeId} {s g n cap : Nat} {xs : List Value} (h : w.ownsRow base e s (.slice (some ⟨g, 0, none⟩) n cap) n xs) {j : Nat} (u : Value) (hj : n * s ≤ j) :
    (w.setCell ⟨g, j, none⟩ u).ownsRow base e s (.slice (some ⟨g, 0, none⟩) n cap) n xs := by
  rcases h.2 with ⟨e0, _⟩ | ⟨g', cap', cur, e0, hb, hg, hn, hmx, hs, ht⟩
  · cases e0
  · injection e0 with e1 _ e3
    injection e1 with e1
    injection e1 with e1
    subst e1; subst e3
    refine ⟨h.1, .inr ⟨g, cap, cur.setIfInBounds j u, rfl, hb, heap_setCell_at _ hg, hn, hmx, by simpa using hs, ?_⟩⟩
    rw [Array.toList_setIfInBounds, List.take_set_of_le hj]
    exact ht
theorem owns_setCells_tail {base : Nat} {e : TypeId} {s g n cap : Nat} {xs : List Value} : ∀ (us : List Value) (w : World) (j : Nat), w.ownsRow base e s (.slice (some ⟨g, 0, none⟩) n cap) n xs → n * s ≤ j → (w.setCells g j us).ownsRow base e s (.slice (some ⟨g, 0, none⟩) n cap) n xs
  | [], _, _, h, _ => h
  | u :: us, w, j, h, hj => owns_setCells_tail us _ _ (owns_set_tail h u hj) (by omega)
theorem below_setCells {B g : Nat} {w0 : World} (hg : B ≤ g) : ∀ (us : List Value) (w : World) (j : Nat), Below B w0 w → Below B w0 (w.setCells g j us)
  | [], _, _, h => h
  | u :: us, _, j, h => below_setCells hg us _ _ (h.setCell (p := ⟨g, j, none⟩) hg u)
theorem run_clear_rows (w : World) (b o n c : Nat) (hn : 0 < n) (hc : ∀ j, j < n * 2 → (w.cell? ⟨b, o + j, none⟩).isSome = true) (hf : ∀ j, j < n * 2 → w.frozen? ⟨b, o + j, none⟩ = false) :
    ∃ us, ∀ ty, (Builtin.clear_ #[34] ty #[.slice (some ⟨b, o, none⟩) n c]).run Try.prog w = .ok (.tuple #[]) (w.setCells b o us) := by
  have hl : (Builtin.zeroCells #[Value.int .i64 0, Value.int .i64 0] n).toList.length = n * 2 := by simp [Builtin.zeroCells]
  have h1 : ∀ v ∈ (Builtin.zeroCells #[Value.int .i64 0, Value.int .i64 0] n).toList, v.oneCell' = true := by
    intro v hv
    simp only [Builtin.zeroCells, Array.toList_map, List.mem_map] at hv
    obtain ⟨i, _, rfl⟩ := hv
    rcases Nat.mod_two_eq_zero_or_one i with h | h <;> simp [h] <;> rfl
  have hst := run_storeCells_cells (P := Try.prog) b o (Builtin.zeroCells #[Value.int .i64 0, Value.int .i64 0] n).toList 0 w (by rw [hl]; simpa using hc) (by rw [hl]; simpa using hf) h1
  simp only [Nat.add_zero] at hst
  refine ⟨(Builtin.zeroCells #[Value.int .i64 0, Value.int .i64 0] n).toList, fun ty => ?_⟩
  obtain ⟨m, rfl⟩ : ∃ m, n = m + 1 := ⟨n - 1, by omega⟩
  have hv : ∀ w, (zeroValue 38).run Try.prog w = .ok (.agg #[.int .i64 0, .int .i64 0]) w := Try.zeroValue38
  have hz : (Value.agg #[Value.int .i64 0, Value.int .i64 0]).cells = #[Value.int .i64 0, Value.int .i64 0] := by rfl
  simp [Builtin.clear_, run_underlying Try.underlying34, hv, hz, hst]

theorem eq_hit (a b a' b' : Int) (w : World) : (Op.equalIn 10000 38 (.agg #[.int .i64 a, .int .i64 b]) (.agg #[.int .i64 a', .int .i64 b'])).run Try.prog w = .ok (a == a' && b == b') w := by
  have u3 := Try.underlying3
  have a3 := Try.isAgg3
  have z3 := Try.sizeOf3
  have hf : (Try.prog.fieldsOf 38).toList = [{ name := "End", type := 3, offset := 0, embedded := false, tag := "", pkgPath := "", byteOffset := 0 }, { name := "Rule", type := 3, offset := 1, embedded := false, tag := "", pkgPath := "", byteOffset := 8 }] := by kernel_rfl
  have hs : Try.prog.stoodInHeld 38 = false := by kernel_rfl
  have hu : Try.prog.underlying 38 = some (.struct (Try.prog.fieldsOf 38)) := by kernel_rfl
  rw [show (10000 : Nat) = 9999 + 1 from rfl, run_equalIn_agg _ _ _ _ _ hu hs, hf]
  simp [go_sem, Op.eqFields, u3, a3, z3]
  by_cases h1 : a = a' <;> by_cases h2 : b = b' <;> simp [h1, h2]
theorem hit_beq (x y : Hit) : (x.1 == y.1 && x.2 == y.2) = decide (x = y) := by
  obtain ⟨x1, x2⟩ := x
  obtain ⟨y1, y2⟩ := y
  rw [Bool.eq_iff_iff]
  simp
theorem run_eq_hit (w : World) (a b a' b' : Int) : (binOp .eql 38 (.agg #[.int .i64 a, .int .i64 b]) (.agg #[.int .i64 a', .int .i64 b'])).run Try.prog w = .ok (.bool (a == a' && b == b')) w := by
  simp [go_sem, eq_hit]
theorem run_ne_hit (w : World) (a b a' b' : Int) : (binOp .neq 38 (.agg #[.int .i64 a, .int .i64 b]) (.agg #[.int .i64 a', .int .i64 b'])).run Try.prog w = .ok (.bool (!(a == a' && b == b'))) w := by
  simp [go_sem, eq_hit]
end Go.Proofs.Ytafdaiidnphbaaa

/- slices.Compact at hits, walked. -/
namespace Go.Proofs.Ytafdaiidnphbaaa
open Go.RowKit Go.Sort Go.Lib

/-- hits that a call owns, as an array -/
abbrev HAt (w : World) (base g n cap : Nat) (d : Array Hit) : Prop := w.ownsRow base 38 2 (.slice (some ⟨g, 0, none⟩) n cap) n (hcells d.toList)
theorem HAt.cells {w : World} {base g n cap : Nat} {d : Array Hit} (h : HAt w base g n cap d) (hn : d.size = n) {i : Nat} (hi : i < n) :
    w.cell? ⟨g, i * 2, none⟩ = some (.int .i64 d[i]!.1) ∧ w.cell? ⟨g, i * 2 + 1, none⟩ = some (.int .i64 d[i]!.2) := by
  have hr : Hits w (.slice (some ⟨g, 0, none⟩) n cap) d.toList := by
    have := Row.of_owns h
    unfold Hits
    rw [Array.length_toList, hn]
    exact this
  have := Hits.ats hr (i := i) (by rw [Array.length_toList, hn]; exact hi)
  rw [Nat.zero_add, Array.getElem_toList] at this
  rw [getElem!_pos d i (by omega)]
  exact this
theorem HAt.set {w : World} {base g n cap : Nat} {d : Array Hit} (h : HAt w base g n cap d) (hn : d.size = n) {i : Nat} (hi : i < n) (x1 x2 : Int) :
    HAt ((w.setCell ⟨g, i * 2, none⟩ (.int .i64 x1)).setCell ⟨g, i * 2 + 1, none⟩ (.int .i64 x2)) base g n cap (d.setIfInBounds i (x1, x2)) := by
  have h1 := owns_set h (i * 2) (.int .i64 x1) (by omega)
  rw [hcells_set0 _ i (by rw [Array.length_toList, hn]; exact hi)] at h1
  have h2 := owns_set h1 (i * 2 + 1) (.int .i64 x2) (by omega)
  rw [hcells_set1 _ i (by rw [List.length_set, Array.length_toList, hn]; exact hi)] at h2
  unfold HAt
  rw [Array.toList_setIfInBounds]
  simpa using h2
set_option maxRecDepth 100000 in
set_option maxHeartbeats 8000000 in
theorem compact_p (g n cap base : Nat) (d : Array Hit) (w : World) (h : HAt w base g n cap d) (hn : d.size = n) (hm : n ≤ 1000000) :
    Calls Try.prog 51 #[.slice (some ⟨g, 0, none⟩) n cap] w fun e w' => e = .returned (.slice (some ⟨g, 0, none⟩) (compactUpTo d n).length cap) ∧ HAt w' base g (compactUpTo d n).length cap (compactUpTo d n).toArray ∧ Below base w w' := by
  have hnc : n ≤ cap := by
    rcases h.2 with ⟨e0, _⟩ | ⟨g', cap', cur, e0, hb, hg, hn, _⟩
    · cases e0
    · cases e0; exact hn
  have hbg : base ≤ g := (h.lt _ rfl).1
  have hall : (∀ j, j < n → keeps d j = true) → (compactUpTo d n).length = n ∧ (compactUpTo d n).toArray = d := by
    intro ha
    have e : compactUpTo d n = d.toList := by rw [compactUpTo_all d _ ha, ← hn, range_map_get]
    rw [e]
    exact ⟨by simp [hn], by simp⟩
  have HALL := Lib.hid hall
  have HO := Lib.hid h
  clear h hall
  by_cases h2 : n < 2
  · go_enter Try.func51, Try.ntmps51
    go_wp2_with fail
    go_ret
    obtain ⟨e1, e2⟩ := HALL.out (fun j hj => keeps_lt_one d j (by omega))
    exact ⟨by rw [e1]; rfl, by rw [e1, e2]; exact HO.out, Below.refl _ _⟩
  · go_enter Try.func51, Try.ntmps51
    go_wp2_with fail
    go_loopw [3] (fun kv wr => ∃ k : Nat, 1 ≤ k ∧ k ≤ n ∧ kv = .int .i64 (k : Nat) ∧ (∀ j, j < k → keeps d j = true) ∧ HAt wr base g n cap d ∧ Below base w wr) (fun kv _ => n - (intOf kv).toNat)
    case atStart => exact ⟨1, by omega, by omega, rfl, keeps_lt_one d, HO.out, Below.refl _ _⟩
    case round =>
      obtain ⟨k, hk1, hk, rfl, hkeep, hO, hB⟩ := hrel
      have HK := Lib.hid hkeep
      have HO2 := Lib.hid hO
      have HB := Lib.hid hB
      clear hkeep hB
      by_cases hlt : k < n
      · obtain ⟨c1, c2⟩ := hO.cells hn hlt
        obtain ⟨b1, b2⟩ := hO.cells hn (i := k - 1) (by omega)
        have i1 : (0 : Int) ≤ (k : Int) := by omega
        have i2 : (k : Int) < (n : Int) := by omega
        have wi1 : IntKind.i64.wrap ((k : Int) + 1) = (k : Int) + 1 := IntWalk.i64_in _ (by omega)
        have wi2 : IntKind.i64.wrap ((k : Int) - 1) = ((k - 1 : Nat) : Int) := by rw [IntWalk.i64_in _ (by omega)]; omega
        have hkn : k - 1 < n := by omega
        clear hO
        generalize hx : d[k]! = x at c1 c2
        generalize hy : d[k - 1]! = y at b1 b2
        have HD := Lib.hid (⟨hx, hy⟩ : d[k]! = x ∧ d[k - 1]! = y)
        clear hx hy
        obtain ⟨x1, x2⟩ := x
        obtain ⟨y1, y2⟩ := y
        dsimp only at c1 c2 b1 b2
        by_cases hdup : x1 = y1 ∧ x2 = y2
        · obtain ⟨rfl, rfl⟩ := hdup
          go_wp2_with fail
          go_region
          have HB2 := Lib.hid HB.out.drew
          have HO3 := Lib.hid HO2.out.drew
          have HST := Lib.hid (CompInv.start HK.out (keeps_neg (by omega) (by rw [HD.out.1, HD.out.2])))
          have hwd : ∃ wd, wd = wr.drew := ⟨_, rfl⟩
          obtain ⟨wd, hwd⟩ := hwd
          rw [← hwd] at HB2 HO3 ⊢
          clear hwd HB HO2 HD c1 c2 b1 b2 HK
          go_wp2_with fail
          have hsl : n - k + k = n := by omega
          go_loopw [3, 5] (fun kv k2v wx => ∃ (kk k2 : Nat) (dk : Array Hit), kv = .int .i64 (kk : Nat) ∧ k2v = .int .i64 (k2 : Nat) ∧ 1 ≤ k2 ∧ k + k2 ≤ n ∧ HAt wx base g n cap dk ∧ Below base w wx ∧ CompInv d (k + k2) kk dk) (fun _ k2v _ => n - k - (intOf k2v).toNat)
          case atStart => exact ⟨k, 1, d, rfl, rfl, by omega, by omega, HO3.out, HB2.out, HST.out⟩
          case round =>
            obtain ⟨kk, k2, dk, rfl, rfl, hk21, hle, hO, hB, hI⟩ := hrel
            have hkk := hI.lt
            have hds : dk.size = n := hI.size.trans hn
            have HB3 := Lib.hid hB
            have HO4 := Lib.hid hO
            have HI := Lib.hid hI
            by_cases hlt2 : k + k2 < n
            · obtain ⟨c1, c2⟩ := hO.cells hds hlt2
              obtain ⟨b1, b2⟩ := hO.cells hds (i := k + k2 - 1) (by omega)
              rw [hI.high (k + k2) (by omega), show (k + k2) * 2 = k * 2 + k2 * 2 by omega] at c1 c2
              rw [hI.high (k + k2 - 1) (by omega), show (k + k2 - 1) * 2 = k * 2 + (k2 - 1) * 2 by omega] at b1 b2
              have i1 : (0 : Int) ≤ (k2 : Int) := by omega
              have i2 : (k2 : Int) < ((n - k : Nat) : Int) := by omega
              have wi3 : IntKind.i64.wrap ((k2 : Int) + 1) = (k2 : Int) + 1 := IntWalk.i64_in _ (by omega)
              have wi4 : IntKind.i64.wrap ((kk : Int) + 1) = (kk : Int) + 1 := IntWalk.i64_in _ (by omega)
              have wi5 : IntKind.i64.wrap ((k2 : Int) - 1) = ((k2 - 1 : Nat) : Int) := by rw [IntWalk.i64_in _ (by omega)]; omega
              have hkn2 : k2 - 1 < n - k := by omega
              clear hO hB hI
              generalize hx : d[k + k2]! = u at c1 c2
              generalize hy : d[k + k2 - 1]! = v at b1 b2
              have HD := Lib.hid (⟨hx, hy⟩ : d[k + k2]! = u ∧ d[k + k2 - 1]! = v)
              clear hx hy
              obtain ⟨u1, u2⟩ := u
              obtain ⟨v1, v2⟩ := v
              dsimp only at c1 c2 b1 b2
              by_cases hdup : u1 = v1 ∧ u2 = v2
              · obtain ⟨rfl, rfl⟩ := hdup
                go_wp2_with fail
                go_region
                have HB4 := Lib.hid HB3.out.drew
                have HO5 := Lib.hid HO4.out.drew
                have HI2 := Lib.hid (HI.out.skip (keeps_neg (by omega) (by rw [HD.out.1, HD.out.2])))
                clear HB3 HO4 HI HD c1 c2 b1 b2
                go_wp2_with fail
                exact ⟨⟨kk, k2 + 1, dk, rfl, by go_num, by omega, by omega, HO5.out, HB4.out, HI2.out⟩, by simp [intOf]; omega⟩
              · have hO := HO4.out
                obtain ⟨k0, k1⟩ := hO.cells hds (i := kk) (by omega)
                have fr0 := owns_free hO (kk * 2)
                have fr1 := owns_free hO (kk * 2 + 1)
                have j2 : (kk : Int) < (n : Int) := by omega
                have j1 : (0 : Int) ≤ (kk : Int) := by omega
                have hkk2 : kk < n := by omega
                have HI2 := Lib.hid (HI.out.keep (by omega) (keeps_pos (by rw [HD.out.1, HD.out.2]; intro e; injection e with e1 e2; exact hdup ⟨e1, e2⟩)))
                have HO5 := Lib.hid (HAt.set (d := dk) hO.drew hds (i := kk) (by omega) u1 u2)
                have HB4 := Lib.hid ((HB3.out.drew.setCell (p := ⟨g, kk * 2, none⟩) hbg (.int .i64 u1)).setCell (p := ⟨g, kk * 2 + 1, none⟩) hbg (.int .i64 u2))
                rw [HD.out.1] at HI2
                clear hO
                by_cases h1 : u1 = v1
                · subst h1
                  have h2' : ¬ u2 = v2 := fun e => hdup ⟨rfl, e⟩
                  clear hdup
                  go_wp2_with fail
                  go_region
                  clear h2' HB3 HO4 HI HD b1 b2
                  go_wp2_with fail
                  exact ⟨⟨kk + 1, k2 + 1, dk.setIfInBounds kk (u1, u2), by go_num, by go_num, by omega, by omega, HO5.out, HB4.out, HI2.out⟩, by simp [intOf]; omega⟩
                · clear hdup
                  go_wp2_with fail
                  go_region
                  clear h1 HB3 HO4 HI HD b1 b2
                  go_wp2_with fail
                  exact ⟨⟨kk + 1, k2 + 1, dk.setIfInBounds kk (u1, u2), by go_num, by go_num, by omega, by omega, HO5.out, HB4.out, HI2.out⟩, by simp [intOf]; omega⟩
            · have e : k + k2 = n := by omega
              have hcc : ∀ j, j < (n - kk) * 2 → ∃ u, wr.cell? ⟨g, kk * 2 + j, none⟩ = some u := fun j hj => by
                have := hO.cells hds (i := kk + j / 2) (by omega)
                rcases Nat.mod_two_eq_zero_or_one j with h | h
                · exact ⟨_, by rw [show kk * 2 + j = (kk + j / 2) * 2 by omega]; exact this.1⟩
                · exact ⟨_, by rw [show kk * 2 + j = (kk + j / 2) * 2 + 1 by omega]; exact this.2⟩
              obtain ⟨us, hcl⟩ := run_clear_rows wr g (kk * 2) (n - kk) (cap - kk) (by omega) (fun j hj => by obtain ⟨u, hu⟩ := hcc j hj; rw [hu]; rfl) (fun j _ => owns_free hO _)
              have i2 : ¬ ((k2 : Int) < ((n - k : Nat) : Int)) := by omega
              have j2 : (kk : Int) ≤ (n : Int) := by omega
              have j1 : (0 : Int) ≤ (kk : Int) := by omega
              have hkk2 : kk < n := by omega
              clear hcc hO hB hI
              go_wp2_with fail
              go_ret
              have hI := HI.out
              rw [e] at hI
              have htk : dk.toList.take kk = compactUpTo d n := by
                apply List.ext_getElem?
                intro j
                by_cases hj : j < kk
                · rw [List.getElem?_take, if_pos hj, hI.low j hj, Array.getElem?_toList, Array.getElem?_eq_getElem (by omega), getElem!_pos dk j (by omega)]
                · rw [List.getElem?_take, if_neg hj, List.getElem?_eq_none (by rw [hI.len]; omega)]
              have hcut := owns_cut HO4.out (k := kk) (by omega)
              rw [hcells_take, htk] at hcut
              refine ⟨by rw [hI.len]; rfl, ?_, below_setCells hbg us _ _ HB3.out⟩
              rw [hI.len]
              exact owns_setCells_tail us _ _ hcut (Nat.le_refl _)
        · by_cases h1 : x1 = y1
          · subst h1
            have h2' : ¬ x2 = y2 := fun e => hdup ⟨rfl, e⟩
            clear hdup
            go_wp2_with fail
            go_region
            have HB2 := Lib.hid HB.out.drew
            have HO3 := Lib.hid HO2.out.drew
            have HK2 := Lib.hid (show ∀ j, j < k + 1 → keeps d j = true from fun j hj => by
              by_cases e : j = k
              · subst e
                exact keeps_pos (by rw [HD.out.1, HD.out.2]; intro e; injection e with e1 e2; exact h2' e2)
              · exact HK.out j (by omega))
            clear HB HO2 HD h2' c1 c2 b1 b2 HK
            go_wp2_with fail
            exact ⟨⟨k + 1, by omega, by omega, by go_num, HK2.out, HO3.out, HB2.out⟩, by simp [intOf]; omega⟩
          · clear hdup
            go_wp2_with fail
            go_region
            have HB2 := Lib.hid HB.out.drew
            have HO3 := Lib.hid HO2.out.drew
            have HK2 := Lib.hid (show ∀ j, j < k + 1 → keeps d j = true from fun j hj => by
              by_cases e : j = k
              · subst e
                exact keeps_pos (by rw [HD.out.1, HD.out.2]; intro e; injection e with e1 e2; exact h1 e1)
              · exact HK.out j (by omega))
            clear HB HO2 HD h1 c1 c2 b1 b2 HK
            go_wp2_with fail
            exact ⟨⟨k + 1, by omega, by omega, by go_num, HK2.out, HO3.out, HB2.out⟩, by simp [intOf]; omega⟩
      · have e : k = n := by omega
        subst e
        have i2 : ¬ ((k : Int) < (k : Int)) := by omega
        go_wp2_with fail
        go_ret
        obtain ⟨e1, e2⟩ := HALL.out HK.out
        exact ⟨by rw [e1]; rfl, by rw [e1, e2]; exact HO2.out, HB.out⟩
end Go.Proofs.Ytafdaiidnphbaaa

/- Library functions at this seat: the shelf layings in plain words (printed by wip/tools/lay.sh; the numbers are this seat's). -/
namespace Go.Proofs.Ytafdaiidnphbaaa
open Go.Shelf
def growL_ren : Go.Shelf.Ren := ⟨fun | 4 => 70 | n => n, fun | 22 => 34 | 25 => 38 | 3 => 3 | 4 => 4 | 9 => 9 | 20 => 20 | 0 => 0 | 2 => 3 | n => n, fun | n => n⟩
theorem growL : Go.Proofs.Lays8.n4 Try.prog growL_ren := {
  mixed := by kernel_rfl
  f4 := ⟨Try.f70.name, by decide, Try.func70.trans (congrArg some (by kernel_rfl))⟩
  t0 := Try.underlying0
  a0 := Try.isAgg0
  z0 := Try.sizeOf0
  v0 := Try.zeroValue0
  t3 := Try.underlying3
  a3 := Try.isAgg3
  z3 := Try.sizeOf3
  v3 := Try.zeroValue3
  t4 := Try.underlying4
  a4 := Try.isAgg4
  z4 := Try.sizeOf4
  v4 := Try.zeroValue4
  t9 := Try.underlying9
  a9 := Try.isAgg9
  z9 := Try.sizeOf9
  v9 := Try.zeroValue9
  t20 := Try.underlying20
  a20 := Try.isAgg20
  z20 := Try.sizeOf20
  v20 := Try.zeroValue20
  t22 := Try.underlying34
  a22 := Try.isAgg34
  z22 := Try.sizeOf34
  v22 := Try.zeroValue34 }
def indexL_ren : Go.Shelf.Ren := ⟨fun | 6 => 71 | n => n, fun | 22 => 34 | 23 => 38 | 25 => 85 | 3 => 3 | 0 => 0 | 4 => 4 | n => n, fun | n => n⟩
theorem indexL : Go.Proofs.SlLaysH0.n6 Try.prog indexL_ren := {
  mixed := by kernel_rfl
  f6 := ⟨Try.f71.name, by decide, Try.func71.trans (congrArg some (by kernel_rfl))⟩
  t0 := Try.underlying0
  a0 := Try.isAgg0
  z0 := Try.sizeOf0
  v0 := Try.zeroValue0
  t3 := Try.underlying3
  a3 := Try.isAgg3
  z3 := Try.sizeOf3
  v3 := Try.zeroValue3
  t4 := Try.underlying4
  a4 := Try.isAgg4
  z4 := Try.sizeOf4
  v4 := Try.zeroValue4
  t22 := Try.underlying34
  a22 := Try.isAgg34
  z22 := Try.sizeOf34
  v22 := Try.zeroValue34
  t25 := Try.underlying85
  a25 := Try.isAgg85
  z25 := Try.sizeOf85
  v25 := Try.zeroValue85 }
end Go.Proofs.Ytafdaiidnphbaaa

/- slices.Concat of two lists of hits. -/
namespace Go.Proofs.Ytafdaiidnphbaaa
open Go.RowKit Go.Sort Go.Lib

theorem zeroCells_size (n : Nat) : (Builtin.zeroCells #[Value.int .i64 0, Value.int .i64 0] n).size = n * 2 := by simp [Builtin.zeroCells]
theorem grow_p (n : Nat) (w : World) (hn : 0 < n) (hm : n ≤ 1000000) :
    Calls Try.prog 70 #[.slice none 0 0, .int .i64 n] w fun e w' => ∃ cap, e = .returned (.slice (some ⟨w.heap.size, 0, none⟩) 0 cap) ∧ w'.ownsRow w.heap.size 38 2 (.slice (some ⟨w.heap.size, 0, none⟩) 0 cap) 0 [] ∧ Below w.heap.size w w' := by
  obtain ⟨i0, hi, hz0, hz1, hz2⟩ := info_parts infoHit
  have := Any8.slices_Grow_grow growL i0 _ hi hz0 (by omega) none 0 0 n [] w (by omega) (by omega) (by rw [hz2]; omega) (by omega) (by simp) (fun _ => rfl) (fun a h => by cases h)
  refine this.mono ?_
  rintro e w' ⟨rfl, rfl⟩
  refine ⟨_, rfl, ⟨by simp, .inr ⟨w.heap.size, _, _, rfl, Nat.le_refl _, heap_alloc_new w.drew _, by omega, ?_, ?_, by simp⟩⟩, (Below.refl _ _).drew.alloc (Nat.le_refl _) _⟩
  · exact grownCap_le_maxLen w (0 + n) 0 _ (by unfold maxLen; omega)
  · have hg := grownCap_ge w (0 + n) 0 38
    rw [Array.size_append, Array.size_append]
    have e : (Value.agg #[Value.int .i64 0, Value.int .i64 0]).cells = #[Value.int .i64 0, Value.int .i64 0] := rfl
    rw [e, zeroCells_size, zeroCells_size]
    have hg2 : 0 + n ≤ grownCap w (0 + n) 0 (growL_ren.t 25) := hg
    clear hg
    generalize grownCap w (0 + n) 0 (growL_ren.t 25) = C at hg2 ⊢
    simp only [List.size_toArray, List.length_nil]
    omega
set_option maxRecDepth 100000 in
set_option maxHeartbeats 8000000 in
theorem concat_p (G : Nat) (va vb : Value) (la lb : List Hit) (w : World) (ha : Hits w va la) (hb : Hits w vb lb) (hla : la.length ≤ 70000) (hlb : lb.length ≤ 70000)
    (c0 : w.cell? ⟨G, 0, none⟩ = some va) (c1 : w.cell? ⟨G, 1, none⟩ = some vb) (hG : G < w.heap.size) :
    Calls Try.prog 50 #[.slice (some ⟨G, 0, none⟩) 2 2] w fun e w' => ∃ u, e = .returned u ∧ w'.ownsRow w.heap.size 38 2 u (la ++ lb).length (hcells (la ++ lb)) ∧ Below w.heap.size w w' := by
  have HA := Lib.hid ha
  have HB := Lib.hid hb
  obtain ⟨a, ca, rfl⟩ := Row.form2 ha
  obtain ⟨b, cb, rfl⟩ := Row.form2 hb
  clear ha hb
  have w0 : IntKind.i64.wrap ((0 : Int) + (la.length : Int)) = (la.length : Int) := by rw [Int.zero_add]; exact IntWalk.i64_in _ (by omega)
  have w1 : IntKind.i64.wrap ((la.length : Int) + (lb.length : Int)) = ((la.length + lb.length : Nat) : Int) := by rw [IntWalk.i64_in _ (by omega)]; omega
  have n0 : ¬ (la.length : Int) < 0 := by omega
  have n1 : ¬ ((la.length + lb.length : Nat) : Int) < 0 := by omega
  go_enter Try.func50, Try.ntmps50
  go_wp2_with fail
  go_loopw [3, 11] (fun sv iv wr => w = wr ∧ ((sv = .int .i64 0 ∧ iv = .int .i64 0) ∨ (sv = .int .i64 (la.length : Int) ∧ iv = .int .i64 1) ∨ (sv = .int .i64 ((la.length + lb.length : Nat) : Int) ∧ iv = .int .i64 2))) (fun _ iv _ => 2 - (intOf iv).toNat)
  case atStart => exact ⟨rfl, .inl ⟨rfl, rfl⟩⟩
  case round =>
    obtain ⟨rfl, hs⟩ := hrel
    rcases hs with ⟨rfl, rfl⟩ | ⟨rfl, rfl⟩ | ⟨rfl, rfl⟩
    · go_wp2_with fail
      exact ⟨⟨trivial, .inr (.inl ⟨rfl, rfl⟩)⟩, by decide⟩
    · go_wp2_with fail
      exact ⟨⟨trivial, .inr (.inr ⟨by push_cast; rfl, rfl⟩)⟩, by decide⟩
    · go_wp2_with fail
      rw [← Int.natCast_add]
      have hgr : Calls Try.prog 70 #[.slice none 0 0, .int .i64 ((la.length + lb.length : Nat) : Int)] w fun e w' => ∃ u, e = .returned u ∧ w'.ownsRow w.heap.size 38 2 u 0 [] ∧ Below w.heap.size w w' := by
        by_cases h0 : la.length + lb.length = 0
        · rw [h0]
          refine (Any8.slices_Grow_room growL none 0 0 0 w (by omega) (by omega) (by omega) (by omega)).mono ?_
          rintro e w' ⟨rfl, rfl⟩
          exact ⟨_, rfl, World.ownsRow_nil _ _ _ _, Below.refl _ _⟩
        · refine (grow_p _ w (by omega) (by omega)).mono ?_
          rintro e w' ⟨cap, rfl, h1, h2⟩
          exact ⟨_, rfl, h1, h2⟩
      refine hgr.mono ?_
      rintro e w2 ⟨u, rfl, ho, hb⟩
      have HO := Lib.hid ho
      have HB2 := Lib.hid hb
      have e0 := (hb.cell (p := ⟨G, 0, none⟩) hG).trans c0
      have e1 := (hb.cell (p := ⟨G, 1, none⟩) hG).trans c1
      have hG2 : G < w2.heap.size := Nat.lt_of_lt_of_le hG hb.size
      clear ho hb hgr
      go_wp2_with fail
      go_loopw [6, 27] (fun ov iv wx => Below w.heap.size w wx ∧ ((iv = .int .i64 0 ∧ wx.ownsRow w.heap.size 38 2 ov 0 []) ∨ (iv = .int .i64 1 ∧ wx.ownsRow w.heap.size 38 2 ov la.length (hcells la)) ∨ (iv = .int .i64 2 ∧ wx.ownsRow w.heap.size 38 2 ov (la ++ lb).length (hcells (la ++ lb))))) (fun _ iv _ => 2 - (intOf iv).toNat)
      case atStart => exact ⟨HB2.out, .inl ⟨rfl, HO.out⟩⟩
      case round =>
        obtain ⟨hB, hs⟩ := hrel
        have k0 := (hB.cell (p := ⟨G, 0, none⟩) hG).trans c0
        have k1 := (hB.cell (p := ⟨G, 1, none⟩) hG).trans c1
        have hwx : G < wr.heap.size := Nat.lt_of_lt_of_le hG hB.size
        rcases hs with ⟨rfl, ho⟩ | ⟨rfl, ho⟩ | ⟨rfl, ho⟩
        · obtain ⟨aa, cc, wa, hra, hoa, _, hba⟩ := app_h (l := []) ho (HA.out.below hB) (by simp; omega) hB.size
          rw [List.nil_append] at hra hoa
          generalize Value.slice aa _ cc = va at hra hoa
          have HRA := Lib.hid hra
          have HOA := Lib.hid hoa
          have HBA := Lib.hid (hB.trans hba)
          clear hra hoa hba hB ho c0 c1 e0 e1
          go_wp2_with (at_builtin; refine wpList_append_run rfl rfl rfl rfl HRA.out ?_)
          exact ⟨⟨HBA.out, .inr (.inl ⟨rfl, HOA.out⟩)⟩, by decide⟩
        · obtain ⟨aa, cc, wa, hra, hoa, _, hba⟩ := app_h ho (HB.out.below hB) (by omega) hB.size
          generalize Value.slice aa _ cc = va at hra hoa
          have HRA := Lib.hid hra
          have HOA := Lib.hid hoa
          have HBA := Lib.hid (hB.trans hba)
          clear hra hoa hba hB ho c0 c1 e0 e1
          go_wp2_with (at_builtin; refine wpList_append_run rfl rfl rfl rfl HRA.out ?_)
          exact ⟨⟨HBA.out, .inr (.inr ⟨rfl, HOA.out⟩)⟩, by decide⟩
        · have HO2 := Lib.hid ho
          have HB3 := Lib.hid hB
          clear ho hB c0 c1 e0 e1 k0 k1
          go_wp2_with fail
          go_ret
          exact ⟨_, rfl, HO2.out, HB3.out⟩
end Go.Proofs.Ytafdaiidnphbaaa

/- Sorted lists of hits, in plain words: what sorting, keeping one of equal neighbours and merging give. -/
namespace Go.Proofs.Ytafdaiidnphbaaa
open Go.RowKit Go.Sort Go.Lib

/-- a hit comes ahead of another one -/
def HLt (x y : Hit) : Prop := x.1 < y.1 ∨ (x.1 = y.1 ∧ x.2 < y.2)
theorem ltOf_iff (x y : Hit) : ltOf cmpH x y = true ↔ HLt x y := by rw [lt_cmp, decide_eq_true_eq]; rfl
theorem HLt.trans {x y z : Hit} (h1 : HLt x y) (h2 : HLt y z) : HLt x z := by unfold HLt at *; omega
theorem HLt.irrefl (x : Hit) : ¬ HLt x x := by unfold HLt; omega
theorem HLt.ne {x y : Hit} (h : HLt x y) : x ≠ y := fun e => HLt.irrefl x (by rw [e] at h ⊢; exact h)
theorem HLt.tri (x y : Hit) : HLt x y ∨ x = y ∨ HLt y x := by
  by_cases h : x = y
  · exact .inr (.inl h)
  · have : ¬ (x.1 = y.1 ∧ x.2 = y.2) := fun ⟨h1, h2⟩ => h (Prod.ext h1 h2)
    unfold HLt
    omega
abbrev Strict (l : List Hit) : Prop := l.Pairwise HLt
theorem leH_iff (x y : Hit) : leH x y = true ↔ ¬ HLt y x := by
  unfold leH
  rw [Bool.not_eq_true', ← Bool.not_eq_true, ltOf_iff]
theorem sortH_pair (l : List Hit) : (sortH l).Pairwise fun x y => ¬ HLt y x := by
  have := List.pairwise_mergeSort (le := leH) (fun x y z h1 h2 => by rw [leH_iff] at *; unfold HLt at *; omega) (fun x y => by
    rw [Bool.or_eq_true, leH_iff, leH_iff]
    unfold HLt
    omega) l
  exact this.imp fun h => (leH_iff _ _).1 h
theorem sortH_perm (l : List Hit) : (sortH l).Perm l := List.mergeSort_perm l leH
theorem sortH_mem (l : List Hit) (x : Hit) : x ∈ sortH l ↔ x ∈ l := (sortH_perm l).mem_iff
theorem sortH_strict {l : List Hit} (h : l.Nodup) : Strict (sortH l) := by
  have h1 := sortH_pair l
  have h2 : (sortH l).Nodup := (sortH_perm l).nodup_iff.2 h
  exact (h1.and h2).imp fun ⟨a, b⟩ => by
    rcases HLt.tri _ _ with h | h | h
    · exact h
    · exact absurd h b
    · exact absurd h a
/-- strictly sorted lists with the same members are the same -/
theorem strict_ext : ∀ {l m : List Hit}, Strict l → Strict m → (∀ x, x ∈ l ↔ x ∈ m) → l = m
  | [], [], _, _, _ => rfl
  | [], y :: m, _, _, h => by have := (h y).2 (List.mem_cons_self); cases this
  | x :: l, [], _, _, h => by have := (h x).1 (List.mem_cons_self); cases this
  | x :: l, y :: m, hl, hm, h => by
    rw [Strict, List.pairwise_cons] at hl hm
    have e : x = y := by
      rcases List.mem_cons.1 ((h x).1 List.mem_cons_self) with e | h1
      · exact e
      · rcases List.mem_cons.1 ((h y).2 List.mem_cons_self) with e | h2
        · exact e.symm
        · exact absurd ((hm.1 x h1).trans (hl.1 y h2)) (HLt.irrefl y)
    subst e
    rw [strict_ext hl.2 hm.2 fun z => ?_]
    constructor
    · intro hz
      rcases List.mem_cons.1 ((h z).1 (List.mem_cons_of_mem _ hz)) with e | h1
      · subst e; exact absurd (hl.1 z hz) (HLt.irrefl z)
      · exact h1
    · intro hz
      rcases List.mem_cons.1 ((h z).2 (List.mem_cons_of_mem _ hz)) with e | h1
      · subst e; exact absurd (hm.1 z hz) (HLt.irrefl z)
      · exact h1
theorem pair_at {R : Hit → Hit → Prop} {l : List Hit} (h : l.Pairwise R) {i j : Nat} (hij : i < j) (hj : j < l.length) : R l[i] l[j] := List.pairwise_iff_getElem.1 h i j (by omega) hj hij
theorem compact_mem (l : List Hit) (x : Hit) : x ∈ compact l ↔ x ∈ l := by
  unfold compact compactUpTo
  simp only [List.mem_map, List.mem_filter, List.mem_range]
  constructor
  · rintro ⟨j, ⟨hj, _⟩, rfl⟩
    rw [List.getElem!_toArray, getElem!_pos l j hj]
    exact List.getElem_mem hj
  · intro hx
    obtain ⟨j, hj, rfl⟩ := List.getElem_of_mem hx
    clear hx
    induction j with
    | zero => exact ⟨0, ⟨hj, by simp [keeps]⟩, by rw [List.getElem!_toArray, getElem!_pos l 0 hj]⟩
    | succ j ih =>
      by_cases hk : keeps l.toArray (j + 1) = true
      · exact ⟨j + 1, ⟨hj, hk⟩, by rw [List.getElem!_toArray, getElem!_pos l (j + 1) hj]⟩
      · obtain ⟨j', h1, h2⟩ := ih (by omega)
        refine ⟨j', h1, h2.trans ?_⟩
        have : l[j + 1] = l[j] := by
          have := hk
          unfold keeps at this
          simp only [decide_eq_true_eq, not_or, Decidable.not_not, Nat.add_sub_cancel] at this
          have e := this.2
          rw [List.getElem!_toArray, List.getElem!_toArray, getElem!_pos l (j + 1) hj, getElem!_pos l j (by omega)] at e
          exact e
        exact this.symm
theorem compact_strict {l : List Hit} (h : l.Pairwise fun x y => ¬ HLt y x) : Strict (compact l) := by
  unfold compact compactUpTo Strict
  rw [List.pairwise_map]
  have hr : (List.range l.length).Pairwise (· < ·) := List.pairwise_lt_range
  have hf := hr.filter (keeps l.toArray)
  refine hf.imp_of_mem fun {i j} hi hj hij => ?_
  rw [List.mem_filter, List.mem_range] at hi hj
  have hk := hj.2
  unfold keeps at hk
  simp only [decide_eq_true_eq] at hk
  have hne : l[j]'hj.1 ≠ l[j - 1]'(by omega) := by
    rcases hk with h0 | h0
    · omega
    · rw [List.getElem!_toArray, List.getElem!_toArray, getElem!_pos l j hj.1, getElem!_pos l (j - 1) (by omega)] at h0
      exact h0
  rw [List.getElem!_toArray, List.getElem!_toArray, getElem!_pos l i hi.1, getElem!_pos l j hj.1]
  have h1 := pair_at h (i := j - 1) (j := j) (by omega) hj.1
  have h3 : HLt (l[j - 1]'(by omega)) (l[j]'hj.1) := by
    rcases HLt.tri (l[j - 1]'(by omega)) (l[j]'hj.1) with h | h | h
    · exact h
    · exact absurd h.symm hne
    · exact absurd h h1
  by_cases e : i = j - 1
  · subst e; exact h3
  · have h2 := pair_at h (i := i) (j := j - 1) (by omega) (by omega)
    unfold HLt at *
    omega
/-- the hits of two lists -/
def mergeH : List Hit → List Hit → List Hit
  | [], b => b
  | x :: a, [] => x :: a
  | x :: a, y :: b => if ltOf cmpH x y = true then x :: mergeH a (y :: b) else if ltOf cmpH y x = true then y :: mergeH (x :: a) b else x :: mergeH a b
termination_by a b => a.length + b.length
theorem mergeH_mem (a b : List Hit) (z : Hit) : z ∈ mergeH a b ↔ z ∈ a ∨ z ∈ b := by
  fun_induction mergeH a b with
  | case1 b => simp
  | case2 x a => simp
  | case3 x a y b h ih => simp only [List.mem_cons, ih] ; simp only [or_assoc]
  | case4 x a y b h1 h2 ih =>
    simp only [List.mem_cons, ih]
    constructor
    · rintro (h | (h | h) | h) <;> simp [h]
    · rintro ((h | h) | h | h) <;> simp [h]
  | case5 x a y b h1 h2 ih =>
    have e : x = y := by
      rw [ltOf_iff] at h1 h2
      rcases HLt.tri x y with h | h | h
      · exact absurd h h1
      · exact h
      · exact absurd h h2
    subst e
    simp only [List.mem_cons, ih]
    constructor
    · rintro (h | h | h) <;> simp [h]
    · rintro ((h | h) | h | h) <;> simp [h]
theorem mergeH_strict (a b : List Hit) (ha : Strict a) (hb : Strict b) : Strict (mergeH a b) := by
  fun_induction mergeH a b with
  | case1 b => exact hb
  | case2 x a => exact ha
  | case3 x a y b h ih =>
    rw [ltOf_iff] at h
    rw [Strict, List.pairwise_cons] at ha
    refine List.pairwise_cons.2 ⟨fun z hz => ?_, ih ha.2 hb⟩
    rw [mergeH_mem] at hz
    rcases hz with hz | hz
    · exact ha.1 z hz
    · rcases List.mem_cons.1 hz with e | hz
      · rw [e]; exact h
      · exact h.trans ((List.pairwise_cons.1 hb).1 z hz)
  | case4 x a y b h1 h2 ih =>
    rw [ltOf_iff] at h2
    rw [Strict, List.pairwise_cons] at hb
    refine List.pairwise_cons.2 ⟨fun z hz => ?_, ih ha hb.2⟩
    rw [mergeH_mem] at hz
    rcases hz with hz | hz
    · rcases List.mem_cons.1 hz with e | hz
      · rw [e]; exact h2
      · exact h2.trans ((List.pairwise_cons.1 ha).1 z hz)
    · exact hb.1 z hz
  | case5 x a y b h1 h2 ih =>
    rw [ltOf_iff] at h1 h2
    have e : x = y := by
      rcases HLt.tri x y with h | h | h
      · exact absurd h h1
      · exact h
      · exact absurd h h2
    subst e
    rw [Strict, List.pairwise_cons] at ha hb
    refine List.pairwise_cons.2 ⟨fun z hz => ?_, ih ha.2 hb.2⟩
    rw [mergeH_mem] at hz
    rcases hz with hz | hz
    · exact ha.1 z hz
    · exact hb.1 z hz
theorem strict_of {l : List Hit} (h : OkH l) : Strict l := by
  have h1 := h.lt
  clear h
  induction l with
  | nil => exact List.Pairwise.nil
  | cons x l ih =>
    have hl : Strict l := ih fun i hi => h1 (i + 1) (by simpa using hi)
    refine List.pairwise_cons.2 ⟨fun z hz => ?_, hl⟩
    cases l with
    | nil => cases hz
    | cons y l =>
      have hxy : HLt x y := (ltOf_iff _ _).1 (h1 0 (by simp))
      rcases List.mem_cons.1 hz with e | hz
      · rw [e]; exact hxy
      · exact hxy.trans ((List.pairwise_cons.1 hl).1 z hz)
theorem merge_plain {a b : List Hit} (ha : OkH a) (hb : OkH b) : compact (sortH (a ++ b)) = mergeH a b := by
  refine strict_ext (compact_strict (sortH_pair _)) (mergeH_strict a b (strict_of ha) (strict_of hb)) fun x => ?_
  rw [compact_mem, sortH_mem, List.mem_append, mergeH_mem]
end Go.Proofs.Ytafdaiidnphbaaa

/- Merge of the program. -/
namespace Go.Proofs.Ytafdaiidnphbaaa
open Go.RowKit Go.Sort Go.Lib

def mergeE (a b : List Hit) : Int := if (sortedV a).2 ≠ 0 then (sortedV a).2 else (sortedV b).2
def mergeL (a b : List Hit) : List Hit := if mergeE a b = 0 then mergeH a b else []
theorem compact_none (w : World) : Calls Try.prog 51 #[.slice none 0 0] w fun e w' => e = .returned (.slice none 0 0) ∧ w' = w := by
  go_enter Try.func51, Try.ntmps51
  go_wp2_with fail
  go_ret
  exact ⟨rfl, rfl⟩
/-- sorting and keeping one of equal ones, of hits that the call owns -/
theorem sortcomp {w : World} {base n : Nat} {u : Value} {l : List Hit} (h : w.ownsRow base 38 2 u n (hcells l)) (hn : l.length = n) (hm : n ≤ 1000000) (hb : base ≤ w.heap.size) :
    Calls Try.prog 40 #[u, .func (.func 41) #[] #[]] w fun e w' => e = .returned (.tuple #[]) ∧ Below base w w' ∧
      Calls Try.prog 51 #[u] w' fun e w'' => ∃ v, e = .returned v ∧ w''.ownsRow base 38 2 v (compact (sortH l)).length (hcells (compact (sortH l))) ∧ Below base w w'' := by
  rcases h.2 with ⟨rfl, rfl⟩ | ⟨g, cap, cur, rfl, hbg, hg, _⟩
  · have hl : l = [] := List.eq_nil_of_length_eq_zero hn
    subst hl
    refine (sort_none none 0 w).mono ?_
    rintro e w' ⟨rfl, rfl⟩
    refine ⟨rfl, Below.refl _ _, (compact_none w').mono ?_⟩
    rintro e w'' ⟨rfl, rfl⟩
    have e0 : compact (sortH ([] : List Hit)) = [] := by simp [sortH, compact, compactUpTo]
    rw [e0]
    exact ⟨_, rfl, World.ownsRow_nil _ _ _ _, Below.refl _ _⟩
  · refine (sort_p g n cap base l w h hn hm).mono ?_
    rintro e w' ⟨rfl, ho, hg⟩
    have hB : Below base w w' := (Below.refl _ _).grown hg hb (fun k e => by cases e; exact hbg)
    have hs : (sortH l).toArray.size = n := by simp [sortH_len, hn]
    refine ⟨rfl, hB, (compact_p g n cap base (sortH l).toArray w' (by unfold HAt; simpa using ho) hs hm).mono ?_⟩
    rintro e w'' ⟨rfl, ho2, hB2⟩
    have e2 : compactUpTo (sortH l).toArray n = compact (sortH l) := by unfold compact; rw [sortH_len, hn]
    rw [e2] at ho2 ⊢
    exact ⟨_, rfl, by unfold HAt at ho2; simpa using ho2, hB.trans hB2⟩
set_option maxRecDepth 100000 in
set_option maxHeartbeats 8000000 in
theorem merge_p (va vb : Value) (a b : List Hit) (w : World) (ha : Hits w va a) (hb : Hits w vb b) :
    Calls Try.prog 23 #[va, vb] w (Hits2 w (mergeL a b) (mergeE a b)) := by
  have HA := Lib.hid ha
  have HB := Lib.hid hb
  obtain ⟨pa, ca, rfl⟩ := Row.form2 ha
  obtain ⟨pb, cb, rfl⟩ := Row.form2 hb
  have KA := Lib.hid (sorted_p _ a w ha)
  have KB := Lib.hid (fun w1 (h : Below w.heap.size w w1) => sorted_p _ b w1 (Row.below hb h))
  by_cases h0 : (sortedV a).2 = 0
  · by_cases h1 : (sortedV b).2 = 0
    · have hoa := okH_of h0
      have hob := okH_of h1
      have HE := Lib.hid (show mergeE a b = 0 by unfold mergeE; rw [if_neg (by rw [h0]; simp), h1])
      have HL := Lib.hid (show mergeL a b = compact (sortH (a ++ b)) by unfold mergeL; rw [if_pos HE.out, merge_plain hoa hob])
      have hla := hoa.le
      have hlb := hob.le
      rw [sortedV_ok h0] at KA
      rw [sortedV_ok h1] at KB
      clear h0 h1 ha hb hoa hob
      go_enter Try.func23, Try.ntmps23
      go_wp2_with fail
      refine KA.out.mono ?_
      rintro e w1 ⟨rfl, hb1⟩
      have HB1 := Lib.hid hb1
      have K2 := Lib.hid (KB.out w1 hb1)
      clear hb1 KA KB
      go_wp2_with fail
      refine K2.out.mono ?_
      rintro e w2 ⟨rfl, hb2⟩
      have HB2 := Lib.hid (HB1.out.trans (hb2.mono HB1.out.size))
      clear hb2 K2 HB1
      go_wp2_with fail
      have hal : Below w2.heap.size w2 (w2.alloc (.cells #[.slice pa a.length ca, .slice pb b.length cb] 34)) := (Below.refl _ _).alloc (Nat.le_refl _) _
      have hbw := HB2.out.trans (hal.mono HB2.out.size)
      refine (concat_p w2.heap.size _ _ a b _ (Row.below HA.out hbw) (Row.below HB.out hbw) hla hlb (cell_in (heap_alloc_new w2 _) rfl) (cell_in (heap_alloc_new w2 _) rfl) (by simp)).mono ?_
      rintro e w3 ⟨u, rfl, ho, hb3⟩
      have HB3 := Lib.hid (hbw.trans (hb3.mono hbw.size))
      have HO := Lib.hid (ho.mono hbw.size)
      clear hal hbw ho hb3
      have KS := Lib.hid (sortcomp HO.out rfl (by rw [List.length_append]; omega) HB3.out.size)
      go_wp2_with fail
      refine KS.out.mono ?_
      rintro e w4 ⟨rfl, hb4, kc⟩
      have KC := Lib.hid kc
      clear hb4 kc KS HO
      go_wp2_with fail
      refine KC.out.mono ?_
      rintro e w5 ⟨v, rfl, ho, hb5⟩
      have HB5 := Lib.hid (HB3.out.trans hb5)
      have HO := Lib.hid ho
      clear ho hb5 KC
      go_wp2_with fail
      go_ret2
      exact show Hits2 _ _ _ _ _ from (by rw [HE.out, HL.out]; exact ⟨_, rfl, HO.out, HB5.out⟩)
    · have HE := Lib.hid (show mergeE a b = (sortedV b).2 by unfold mergeE; rw [if_neg (by rw [h0]; simp)])
      have HL := Lib.hid (show mergeL a b = [] by unfold mergeL; rw [if_neg (by rw [HE.out]; exact h1)])
      rw [sortedV_ok h0] at KA
      generalize (sortedV b).2 = x at *
      clear h0 ha hb
      go_enter Try.func23, Try.ntmps23
      go_wp2_with fail
      refine KA.out.mono ?_
      rintro e w1 ⟨rfl, hb1⟩
      have HB1 := Lib.hid hb1
      have K2 := Lib.hid (KB.out w1 hb1)
      clear hb1 KA KB
      go_wp2_with fail
      refine K2.out.mono ?_
      rintro e w2 ⟨rfl, hb2⟩
      have HB2 := Lib.hid (HB1.out.trans (hb2.mono HB1.out.size))
      clear hb2 K2 HB1
      go_wp2_with fail
      go_ret2
      exact show Hits2 _ _ _ _ _ from (by rw [HE.out, HL.out]; exact ⟨_, rfl, World.ownsRow_nil _ _ _ _, HB2.out⟩)
  · have HE := Lib.hid (show mergeE a b = (sortedV a).2 by unfold mergeE; rw [if_pos h0])
    have HL := Lib.hid (show mergeL a b = [] by unfold mergeL; rw [if_neg (by rw [HE.out]; exact h0)])
    generalize (sortedV a).2 = x at *
    clear ha hb
    go_enter Try.func23, Try.ntmps23
    go_wp2_with fail
    refine KA.out.mono ?_
    rintro e w1 ⟨rfl, hb1⟩
    have HB1 := Lib.hid hb1
    clear hb1 KA KB
    go_wp2_with fail
    go_ret2
    exact show Hits2 _ _ _ _ _ from (by rw [HE.out, HL.out]; exact ⟨_, rfl, World.ownsRow_nil _ _ _ _, HB1.out⟩)
end Go.Proofs.Ytafdaiidnphbaaa
