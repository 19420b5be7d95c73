/- Layer 31: a list of shapes of calls; shapes of program and reference. -/
import Derived.Test.YtdfofojlnkhjjaaCKeptP
namespace Go.Proofs.Ytdfofojlnkhjjaa
open Go.RowKit Go.Shelf

/-- the slice value v reads as a list of pairs of numbers -/
def Pairs (w : World) (v : Value) (l : List (Int × Int)) : Prop :=
  l.length ≤ maxLen ∧ ∃ a cap, v = .slice a l.length cap ∧ (l = [] ∨ ∃ g o, a = some ⟨g, o, none⟩ ∧ g < w.heap.size ∧ ∀ k (h : k < l.length), w.cell? ⟨g, o + k * 2, none⟩ = some (.int .i64 l[k].1) ∧ w.cell? ⟨g, o + k * 2 + 1, none⟩ = some (.int .i64 l[k].2))
theorem Pairs.below {w w' : World} {v : Value} {l : List (Int × Int)} (h : Pairs w v l) (hb : Below w.heap.size w w') : Pairs w' v l := by
  obtain ⟨h1, a, cap, rfl, h2⟩ := h
  refine ⟨h1, a, cap, rfl, ?_⟩
  rcases h2 with h2 | ⟨g, o, rfl, hg, hc⟩
  · exact .inl h2
  · exact .inr ⟨g, o, rfl, Nat.lt_of_lt_of_le hg hb.size, fun k h => ⟨(hb.cell (p := ⟨g, o + k * 2, none⟩) hg).trans (hc k h).1, (hb.cell (p := ⟨g, o + k * 2 + 1, none⟩) hg).trans (hc k h).2⟩⟩
theorem Pairs.at {w : World} {a : Option Addr} {n cap : Nat} {l : List (Int × Int)} (h : Pairs w (.slice a n cap) l) {k : Nat} (hk : k < l.length) :
    ∃ g o, a = some ⟨g, o, none⟩ ∧ g < w.heap.size ∧ w.cell? ⟨g, o + k * 2, none⟩ = some (.int .i64 l[k].1) ∧ w.cell? ⟨g, o + k * 2 + 1, none⟩ = some (.int .i64 l[k].2) := by
  obtain ⟨_, a', cap', e, h2⟩ := h
  cases e
  rcases h2 with rfl | ⟨g, o, rfl, hg, hc⟩
  · simp at hk
  · exact ⟨g, o, rfl, hg, (hc k hk).1, (hc k hk).2⟩

def shE : List (Int × Int) → Int
  | [] => 0
  | (k, n) :: t => if k < 1 ∨ 4 < k then 2 else if n < 0 then 7 else if 0 < n ∧ k ≠ 1 then 6 else shE t
def shapesE (l : List (Int × Int)) : Int := if 200 < l.length then 3 else shE l
theorem shE_at {l : List (Int × Int)} {k : Nat} (h : k < l.length) : shE (l.drop k) = if l[k].1 < 1 ∨ 4 < l[k].1 then 2 else if l[k].2 < 0 then 7 else if 0 < l[k].2 ∧ l[k].1 ≠ 1 then 6 else shE (l.drop (k + 1)) := by
  rw [List.drop_eq_getElem_cons h]
  rcases l[k] with ⟨x, y⟩
  rfl

set_option maxRecDepth 100000 in
set_option maxHeartbeats 2000000 in
theorem shapes_p (v : Value) (l : List (Int × Int)) (w : World) (hv : Pairs w v l) :
    Calls Try.prog 49 #[v] w fun e w' => e = .returned (.int .i64 (shapesE l)) ∧ Below w.heap.size w w' := by
  obtain ⟨hm, a, cap, rfl, _⟩ := id hv
  have HV := Lib.hid hv
  clear hv
  unfold maxLen at hm
  by_cases hl : 200 < l.length
  · rw [show shapesE l = 3 by unfold shapesE; rw [if_pos hl]]
    have t1 : (200 : Int) < (l.length : Int) := by omega
    go_enter Try.func49, Try.ntmps49
    go_wp2_with fail
    go_ret
    exact ⟨rfl, Below.refl _ _⟩
  · have t1 : ¬ (200 : Int) < (l.length : Int) := by omega
    have hE : shapesE l = shE (l.drop 0) := by unfold shapesE; rw [if_neg hl]; simp
    rw [hE]
    generalize hE0 : shE (l.drop 0) = E
    have HE := Lib.hid hE0
    clear hE hE0 hl
    go_enter Try.func49, Try.ntmps49
    go_wp2_with fail
    clear t1
    go_loopw [10] (fun iv wr => ∃ k : Nat, k ≤ l.length ∧ iv = .int .i64 (k : Nat) ∧ E = shE (l.drop k) ∧ Below w.heap.size w wr) (fun iv _ => l.length - (intOf iv).toNat)
    case atStart => exact ⟨0, by omega, rfl, HE.out.symm, Below.refl _ _⟩
    case round =>
      obtain ⟨k, hk, rfl, hE, hB⟩ := hrel
      have HB := Lib.hid hB
      by_cases hlt : k < l.length
      · obtain ⟨g, o, rfl, hg, q1, q2⟩ := HV.out.at hlt
        have c1 := (hB.cell (p := ⟨g, o + k * 2, none⟩) hg).trans q1
        have c2 := (hB.cell (p := ⟨g, o + k * 2 + 1, none⟩) hg).trans q2
        rw [shE_at hlt] at hE
        clear q1 q2 hB
        generalize l[k].1 = x at *
        generalize l[k].2 = y at *
        have i0 : (0 : Int) ≤ (k : Int) := by omega
        have i1 : (k : Int) < (l.length : Int) := by omega
        by_cases h1 : x < 1
        · rw [if_pos (.inl h1)] at hE
          subst hE
          go_wp2_with fail
          go_ret
          exact ⟨rfl, HB.out.alloc (by have := HB.out.size; omega) _⟩
        · by_cases h2 : 4 < x
          · rw [if_pos (.inr h2)] at hE
            subst hE
            go_wp2_with fail
            go_ret
            exact ⟨rfl, HB.out.alloc (by have := HB.out.size; omega) _⟩
          · rw [if_neg (by omega)] at hE
            by_cases h3 : y < 0
            · rw [if_pos h3] at hE
              subst hE
              go_wp2_with fail
              go_ret
              exact ⟨rfl, HB.out.alloc (by have := HB.out.size; omega) _⟩
            · rw [if_neg h3] at hE
              by_cases h4 : 0 < y
              · by_cases h5 : x = 1
                · rw [if_neg (fun h => h.2 h5)] at hE
                  subst h5
                  have HE2 := Lib.hid hE
                  clear hE
                  go_wp2_with fail
                  exact ⟨⟨k + 1, by omega, by go_num, HE2.out, HB.out.alloc (by have := HB.out.size; omega) _⟩, by simp [intOf]; omega⟩
                · rw [if_pos ⟨h4, h5⟩] at hE
                  subst hE
                  have h6 : (x != 1) = true := bne_iff_ne.2 h5
                  go_wp2_with fail
                  go_ret
                  exact ⟨rfl, HB.out.alloc (by have := HB.out.size; omega) _⟩
              · rw [if_neg (fun h => h4 h.1)] at hE
                have HE2 := Lib.hid hE
                clear hE
                go_wp2_with fail
                exact ⟨⟨k + 1, by omega, by go_num, HE2.out, HB.out.alloc (by have := HB.out.size; omega) _⟩, by simp [intOf]; omega⟩
      · obtain rfl : k = l.length := by omega
        rw [List.drop_length] at hE
        subst hE
        go_wp2_with fail
        go_ret
        exact ⟨rfl, HB.out⟩

set_option maxRecDepth 100000 in
set_option maxHeartbeats 2000000 in
theorem shapes_r (v : Value) (l : List (Int × Int)) (w : World) (hv : Pairs w v l) :
    Calls Try.prog 51 #[v] w fun e w' => e = .returned (.int .i64 (shapesE l)) ∧ Below w.heap.size w w' := by
  obtain ⟨hm, a, cap, rfl, _⟩ := id hv
  have HV := Lib.hid hv
  clear hv
  unfold maxLen at hm
  by_cases hl : 200 < l.length
  · rw [show shapesE l = 3 by unfold shapesE; rw [if_pos hl]]
    have t1 : (200 : Int) < (l.length : Int) := by omega
    go_enter Try.func51, Try.ntmps51
    go_wp2_with fail
    go_ret
    exact ⟨rfl, Below.refl _ _⟩
  · have t1 : ¬ (200 : Int) < (l.length : Int) := by omega
    have hE : shapesE l = shE (l.drop 0) := by unfold shapesE; rw [if_neg hl]; simp
    rw [hE]
    generalize hE0 : shE (l.drop 0) = E
    have HE := Lib.hid hE0
    clear hE hE0 hl
    go_enter Try.func51, Try.ntmps51
    go_wp2_with fail
    clear t1
    go_loopw [3] (fun iv wr => ∃ k : Nat, k ≤ l.length ∧ iv = .int .i64 (k : Nat) ∧ E = shE (l.drop k) ∧ Below w.heap.size w wr) (fun iv _ => l.length - (intOf iv).toNat)
    case atStart => exact ⟨0, by omega, rfl, HE.out.symm, Below.refl _ _⟩
    case round =>
      obtain ⟨k, hk, rfl, hE, hB⟩ := hrel
      have HB := Lib.hid hB
      by_cases hlt : k < l.length
      · obtain ⟨g, o, rfl, hg, q1, q2⟩ := HV.out.at hlt
        have c1 := (hB.cell (p := ⟨g, o + k * 2, none⟩) hg).trans q1
        have c2 := (hB.cell (p := ⟨g, o + k * 2 + 1, none⟩) hg).trans q2
        rw [shE_at hlt] at hE
        clear q1 q2 hB
        generalize l[k].1 = x at *
        generalize l[k].2 = y at *
        have i0 : (0 : Int) ≤ (k : Int) := by omega
        have i1 : (k : Int) < (l.length : Int) := by omega
        by_cases h1 : x < 1
        · rw [if_pos (.inl h1)] at hE
          subst hE
          go_wp2_with fail
          go_ret
          exact ⟨rfl, HB.out⟩
        · by_cases h2 : 4 < x
          · rw [if_pos (.inr h2)] at hE
            subst hE
            go_wp2_with fail
            go_ret
            exact ⟨rfl, HB.out⟩
          · rw [if_neg (by omega)] at hE
            by_cases h3 : y < 0
            · rw [if_pos h3] at hE
              subst hE
              go_wp2_with fail
              go_ret
              exact ⟨rfl, HB.out⟩
            · rw [if_neg h3] at hE
              by_cases h4 : 0 < y
              · by_cases h5 : x = 1
                · rw [if_neg (fun h => h.2 h5)] at hE
                  subst h5
                  have HE2 := Lib.hid hE
                  clear hE
                  go_wp2_with fail
                  exact ⟨⟨k + 1, by omega, by go_num, HE2.out, HB.out⟩, by simp [intOf]; omega⟩
                · rw [if_pos ⟨h4, h5⟩] at hE
                  subst hE
                  have h6 : (x != 1) = true := bne_iff_ne.2 h5
                  go_wp2_with fail
                  go_ret
                  exact ⟨rfl, HB.out⟩
              · rw [if_neg (fun h => h4 h.1)] at hE
                have HE2 := Lib.hid hE
                clear hE
                go_wp2_with fail
                exact ⟨⟨k + 1, by omega, by go_num, HE2.out, HB.out⟩, by simp [intOf]; omega⟩
      · obtain rfl : k = l.length := by omega
        rw [List.drop_length] at hE
        subst hE
        go_wp2_with fail
        go_ret
        exact ⟨rfl, HB.out⟩

end Go.Proofs.Ytdfofojlnkhjjaa
