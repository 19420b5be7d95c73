/- Texts that the claims share, part 7. -/
import Derived.Test.YtafdaiidnphbaaaMg6
import Derived.Test.YtafdaiidnphbaaaMg5
import Derived.Test.YtafdaiidnphbaaaMg3
import Derived.Test.YtafdaiidnphbaaaMg1
import Derived.Deep.RegionHeld3
import Derived.Test.YtafdaiidnphbaaaMg4

/- Within of the reference. -/
namespace Go.Proofs.Ytafdaiidnphbaaa
open Go.RowKit Go.Sort Go.Lib

/-- a part that is none -/
def badPart (n : Nat) (lo hi : Int) : Prop := lo < 0 ∨ hi < lo ∨ (n : Int) < hi
instance (n : Nat) (lo hi : Int) : Decidable (badPart n lo hi) := by unfold badPart; exact inferInstance
def inPart (lo hi : Int) (h : Hit) : Bool := decide (lo < h.1) && decide (h.1 ≤ hi)
def withE (L : List (List El)) (b : List UInt8) (lo hi : Int) : Int := if allE L b ≠ 0 then allE L b else if badPart b.length lo hi then 7 else 0
def withL (L : List (List El)) (b : List UInt8) (lo hi : Int) : List Hit := if withE L b lo hi = 0 then (allV L b).filter (inPart lo hi) else []
theorem part_cases (n : Nat) (lo hi : Int) : (badPart n lo hi ∧ lo < 0) ∨ (badPart n lo hi ∧ ¬ lo < 0 ∧ hi < lo) ∨ (badPart n lo hi ∧ ¬ lo < 0 ∧ ¬ hi < lo ∧ (n : Int) < hi) ∨ (¬ badPart n lo hi ∧ ¬ lo < 0 ∧ ¬ hi < lo ∧ ¬ (n : Int) < hi) := by
  unfold badPart
  omega
theorem filter_yes {l : List Hit} {p : Hit → Bool} {k : Nat} (hk : k < l.length) (h : p l[k] = true) : (l.take (k + 1)).filter p = (l.take k).filter p ++ [l[k]] := by
  rw [List.take_succ_eq_append_getElem hk, List.filter_append]
  simp [h]
theorem filter_no {l : List Hit} {p : Hit → Bool} {k : Nat} (hk : k < l.length) (h : p l[k] = false) : (l.take (k + 1)).filter p = (l.take k).filter p := by
  rw [List.take_succ_eq_append_getElem hk, List.filter_append]
  simp [h]
set_option maxRecDepth 100000 in
set_option maxHeartbeats 16000000 in
theorem within_r (v u : Value) (L : List (List El)) (b : List UInt8) (lo hi : Int) (w : World) (h : Sets w v L) (hb : Bytes w u b) :
    Calls Try.prog 31 #[v, u, .int .i64 lo, .int .i64 hi] w (Hits2 w (withL L b lo hi) (withE L b lo hi)) := by
  have KS := Lib.hid (all_r v u L b w h hb)
  rw [← allV_eq] at KS
  obtain ⟨a, cap, rfl⟩ := h.form
  obtain ⟨ua, ucap, rfl⟩ := Row.form2 hb
  clear h hb
  by_cases h0 : allE L b = 0
  · have hal := all_len h0
    have hWE := Lib.hid (show withE L b lo hi = if badPart b.length lo hi then 7 else 0 by unfold withE; rw [if_neg (by rw [h0]; simp)])
    have hWL := Lib.hid (show withL L b lo hi = if withE L b lo hi = 0 then (allV L b).filter (inPart lo hi) else [] from rfl)
    rw [h0] at KS
    clear h0
    generalize allV L b = l at *
    rcases part_cases b.length lo hi with ⟨hp, c0⟩ | ⟨hp, c0, c1⟩ | ⟨hp, c0, c1, c2⟩ | ⟨hp, c0, c1, c2⟩
    · have HE := Lib.hid (show withE L b lo hi = 7 by rw [hWE.out, if_pos hp])
      have HL := Lib.hid (show withL L b lo hi = [] by rw [hWL.out, if_neg (by rw [HE.out]; decide)])
      have q0 : decide (lo < 0) = true := decide_eq_true c0
      clear hp c0 hWE hWL
      go_enter Try.func31, Try.ntmps31
      go_wp2_with fail
      refine KS.out.mono ?_
      rintro e w1 ⟨lv, rfl, ho, hb1⟩
      have HB1 := Lib.hid hb1
      clear ho hb1 KS
      go_wp2_with fail
      go_ret2
      exact show Hits2 _ _ _ _ _ from (by rw [HE.out, HL.out]; exact ⟨_, rfl, World.ownsRow_nil _ _ _ _, HB1.out⟩)
    · have HE := Lib.hid (show withE L b lo hi = 7 by rw [hWE.out, if_pos hp])
      have HL := Lib.hid (show withL L b lo hi = [] by rw [hWL.out, if_neg (by rw [HE.out]; decide)])
      have q0 : decide (lo < 0) = false := decide_eq_false c0
      have q1 : decide (hi < lo) = true := decide_eq_true c1
      clear hp c0 c1 hWE hWL
      go_enter Try.func31, Try.ntmps31
      go_wp2_with fail
      refine KS.out.mono ?_
      rintro e w1 ⟨lv, rfl, ho, hb1⟩
      have HB1 := Lib.hid hb1
      clear ho hb1 KS
      go_wp2_with fail
      go_ret2
      exact show Hits2 _ _ _ _ _ from (by rw [HE.out, HL.out]; exact ⟨_, rfl, World.ownsRow_nil _ _ _ _, HB1.out⟩)
    · have HE := Lib.hid (show withE L b lo hi = 7 by rw [hWE.out, if_pos hp])
      have HL := Lib.hid (show withL L b lo hi = [] by rw [hWL.out, if_neg (by rw [HE.out]; decide)])
      have q0 : decide (lo < 0) = false := decide_eq_false c0
      have q1 : decide (hi < lo) = false := decide_eq_false c1
      have q2 : decide ((b.length : Int) < hi) = true := decide_eq_true c2
      clear hp c0 c1 c2 hWE hWL
      go_enter Try.func31, Try.ntmps31
      go_wp2_with fail
      refine KS.out.mono ?_
      rintro e w1 ⟨lv, rfl, ho, hb1⟩
      have HB1 := Lib.hid hb1
      clear ho hb1 KS
      go_wp2_with fail
      go_ret2
      exact show Hits2 _ _ _ _ _ from (by rw [HE.out, HL.out]; exact ⟨_, rfl, World.ownsRow_nil _ _ _ _, HB1.out⟩)
    · have HE := Lib.hid (show withE L b lo hi = 0 by rw [hWE.out, if_neg hp])
      have HL := Lib.hid (show withL L b lo hi = l.filter (inPart lo hi) by rw [hWL.out, if_pos HE.out])
      have q0 : decide (lo < 0) = false := decide_eq_false c0
      have q1 : decide (hi < lo) = false := decide_eq_false c1
      have q2 : decide ((b.length : Int) < hi) = false := decide_eq_false c2
      obtain ⟨j0, hj, hy0, hy1, hy2⟩ := info_parts infoHit
      clear hp c0 c1 c2 hWE hWL
      go_enter Try.func31, Try.ntmps31
      go_wp2_with fail
      refine KS.out.mono ?_
      rintro e w1 ⟨lv, rfl, ho, hb1⟩
      have HO := Lib.hid ho
      have HB1 := Lib.hid hb1
      clear ho hb1 KS
      obtain ⟨la, lcap, rfl⟩ := Row.form2 (Row.of_owns HO.out)
      go_wp2_with fail
      go_loopw [12, 13] (fun ov kv wr => ∃ (k : Nat) (ow : Value), ow = ov ∧ k ≤ l.length ∧ kv = .int .i64 (k : Nat) ∧ wr.ownsRow w1.heap.size 38 2 ow ((l.take k).filter (inPart lo hi)).length (hcells ((l.take k).filter (inPart lo hi))) ∧ Below w1.heap.size w1 wr) (fun _ kv _ => l.length - (intOf kv).toNat)
      case atStart => exact ⟨0, _, rfl, by omega, rfl, World.ownsRow_nil _ _ _ _, Below.refl _ _⟩
      case round =>
        obtain ⟨k, ow, rfl, hk, rfl, hown, hB⟩ := hrel
        have HO2 := Lib.hid hown
        have HB2 := Lib.hid hB
        have hhits : Hits wr (.slice la l.length lcap) l := Row.below (Row.of_owns HO.out) hB
        clear hown hB
        by_cases hlt : k < l.length
        · obtain ⟨g, o, ha, hg, d0, d1⟩ := Hits.at hhits hlt
          subst ha
          have i1 : (0 : Int) ≤ (k : Int) := by omega
          have i2 : (k : Int) < (l.length : Int) := by omega
          have wi1 : IntKind.i64.wrap ((k : Int) + 1) = (k : Int) + 1 := IntWalk.i64_in _ (by omega)
          have HYES := Lib.hid (fun h => @filter_yes l (inPart lo hi) k hlt h)
          have HNO := Lib.hid (fun h => @filter_no l (inPart lo hi) k hlt h)
          have HIN := Lib.hid (show inPart lo hi l[k] = (decide (lo < l[k].1) && decide (l[k].1 ≤ hi)) from rfl)
          have hfl : ((l.take k).filter (inPart lo hi)).length ≤ k := Nat.le_trans (List.length_filter_le _ _) (List.length_take_le _ _)
          have HX := Lib.hid (show l[k] = (l[k].1, l[k].2) from rfl)
          clear hhits
          by_cases p0 : lo < l[k].1
          · by_cases p1 : l[k].1 ≤ hi
            · have hyes := HYES.out (by rw [HIN.out, decide_eq_true p0, decide_eq_true p1]; rfl)
              rw [HX.out] at hyes
              have r0 : decide (lo < l[k].1) = true := decide_eq_true p0
              have r1 : decide (l[k].1 ≤ hi) = true := decide_eq_true p1
              have hown1 := HO2.out.alloc (.cells #[.int .i64 l[k].1, .int .i64 l[k].2] 38)
              have hr1 : Hits (wr.alloc (.cells #[.int .i64 l[k].1, .int .i64 l[k].2] 38)) (.slice (some ⟨wr.heap.size, 0, none⟩) 1 1) [(l[k].1, l[k].2)] := Row.of_owns (base := wr.heap.size) (e := 38) (World.ownsRow_lit wr #[.int .i64 l[k].1, .int .i64 l[k].2] 1 (Nat.le_refl _) (by decide) rfl)
              have hal2 : Below w1.heap.size wr (wr.alloc (.cells #[.int .i64 l[k].1, .int .i64 l[k].2] 38)) := (Below.refl _ wr).alloc HB2.out.size _
              obtain ⟨aa, cc, wa, hra, hoa, hga, hba⟩ := app_h hown1 hr1 (by simp only [List.length_cons, List.length_nil]; omega) (Nat.le_trans HB2.out.size (by simp))
              rw [← hyes] at hra hoa
              generalize Value.slice aa _ cc = va at hra hoa
              have HRA := Lib.hid hra
              have HO4 := Lib.hid hoa
              have HB4 := Lib.hid (HB2.out.trans (hal2.trans hba))
              clear hra hoa hga hba hal2 hown1 hr1 HYES HNO HIN p0 p1 hyes HX hfl
              generalize l[k].1 = x1 at *
              generalize l[k].2 = x2 at *
              go_wp2_with (at_builtin; refine wpList_append_run rfl rfl rfl rfl HRA.out ?_)
              exact ⟨⟨k + 1, _, rfl, by omega, by go_num, HO4.out, HB4.out⟩, by simp [intOf]; omega⟩
            · have HN := Lib.hid (HNO.out (by rw [HIN.out, decide_eq_false p1]; simp))
              have r0 : decide (lo < l[k].1) = true := decide_eq_true p0
              have r1 : decide (l[k].1 ≤ hi) = false := decide_eq_false p1
              clear HYES HNO HIN p0 p1 HX
              generalize l[k].1 = x1 at *
              generalize l[k].2 = x2 at *
              go_wp2_with fail
              exact ⟨⟨k + 1, _, rfl, by omega, by go_num, by rw [HN.out]; exact HO2.out, HB2.out⟩, by simp [intOf]; omega⟩
          · have HN := Lib.hid (HNO.out (by rw [HIN.out, decide_eq_false p0]; rfl))
            have r0 : decide (lo < l[k].1) = false := decide_eq_false p0
            clear HYES HNO HIN p0 HX
            generalize l[k].1 = x1 at *
            generalize l[k].2 = x2 at *
            go_wp2_with fail
            exact ⟨⟨k + 1, _, rfl, by omega, by go_num, by rw [HN.out]; exact HO2.out, HB2.out⟩, by simp [intOf]; omega⟩
        · obtain rfl : k = l.length := by omega
          have i2 : ¬ ((l.length : Int) < (l.length : Int)) := by omega
          clear hhits
          go_wp2_with fail
          go_ret2
          exact show Hits2 _ _ _ _ _ from (by rw [HE.out, HL.out]; refine ⟨_, rfl, ?_, HB1.out.trans (HB2.out.mono HB1.out.size)⟩; have := HO2.out.mono HB1.out.size; rw [List.take_length] at this; exact this)
  · have HE := Lib.hid (show withE L b lo hi = allE L b by unfold withE; rw [if_pos h0])
    have HL := Lib.hid (show withL L b lo hi = [] by unfold withL; rw [if_neg (by rw [HE.out]; exact h0)])
    have t1 : (allE L b != 0) = true := bne_iff_ne.2 h0
    have t2 : (allE L b == 0) = false := beq_eq_false_iff_ne.2 h0
    generalize allE L b = E at *
    clear h0
    go_enter Try.func31, Try.ntmps31
    go_wp2_with fail
    refine KS.out.mono ?_
    rintro e w1 ⟨lv, rfl, ho, hb1⟩
    have HB1 := Lib.hid hb1
    clear ho hb1 KS
    go_wp2_with fail
    go_ret2
    exact show Hits2 _ _ _ _ _ from (by rw [HE.out, HL.out]; exact ⟨_, rfl, World.ownsRow_nil _ _ _ _, HB1.out⟩)
end Go.Proofs.Ytafdaiidnphbaaa

/- slices.DeleteFunc at hits, with the closure of Within. -/
namespace Go.Proofs.Ytafdaiidnphbaaa
open Go.RowKit Go.Sort Go.Lib

abbrev HL (w : World) (base g n cap : Nat) (l : List Hit) : Prop := w.ownsRow base 38 2 (.slice (some ⟨g, 0, none⟩) n cap) n (hcells l)
theorem HL.cells {w : World} {base g n cap : Nat} {l : List Hit} (h : HL w base g n cap l) (hn : l.length = n) {i : Nat} (hi : i < l.length) :
    w.cell? ⟨g, i * 2, none⟩ = some (.int .i64 l[i].1) ∧ w.cell? ⟨g, i * 2 + 1, none⟩ = some (.int .i64 l[i].2) := by
  have hr : Hits w (.slice (some ⟨g, 0, none⟩) n cap) l := by
    have := Row.of_owns h
    unfold Hits
    rw [hn]
    exact this
  have := Hits.ats hr hi
  rw [Nat.zero_add] at this
  exact this
theorem HL.set {w : World} {base g n cap : Nat} {l : List Hit} (h : HL w base g n cap l) (hn : l.length = n) {i : Nat} (hi : i < n) (x1 x2 : Int) :
    HL ((w.setCell ⟨g, i * 2, none⟩ (.int .i64 x1)).setCell ⟨g, i * 2 + 1, none⟩ (.int .i64 x2)) base g n cap (l.set i (x1, x2)) := by
  have h1 := owns_set h (i * 2) (.int .i64 x1) (by omega)
  rw [hcells_set0 _ i (by rw [hn]; exact hi)] at h1
  have h2 := owns_set h1 (i * 2 + 1) (.int .i64 x2) (by omega)
  rw [hcells_set1 _ i (by rw [List.length_set, hn]; exact hi)] at h2
  unfold HL
  simpa using h2
set_option maxRecDepth 100000 in
set_option maxHeartbeats 4000000 in
/-- the closure says which hits go -/
theorem gone_p (B1 B2 : Nat) (lo hi : Int) (x : Hit) (W : World) (h1 : W.cell? ⟨B1, 0, none⟩ = some (.int .i64 lo)) (h2 : W.cell? ⟨B2, 0, none⟩ = some (.int .i64 hi)) :
    Calls Try.prog 53 #[hitV x, .pointer (some ⟨B1, 0, none⟩), .pointer (some ⟨B2, 0, none⟩)] W fun e w' => e = .returned (.bool (!inPart lo hi x)) ∧ Below W.heap.size W w' := by
  obtain ⟨x1, x2⟩ := x
  have m1 : (W.alloc (.cells #[.int .i64 x1, .int .i64 x2] 38)).cell? ⟨B1, 0, none⟩ = some (.int .i64 lo) := Lib.cell?_alloc_some _ h1
  have m2 : (W.alloc (.cells #[.int .i64 x1, .int .i64 x2] 38)).cell? ⟨B2, 0, none⟩ = some (.int .i64 hi) := Lib.cell?_alloc_some _ h2
  have HB := Lib.hid ((Below.refl W.heap.size W).alloc (Nat.le_refl _) (.cells #[.int .i64 x1, .int .i64 x2] 38))
  unfold hitV
  by_cases p0 : x1 ≤ lo
  · have HE := Lib.hid (show (!inPart lo hi (x1, x2)) = true by unfold inPart; rw [decide_eq_false (show ¬ lo < x1 by omega)]; rfl)
    have q0 : decide (x1 ≤ lo) = true := decide_eq_true p0
    clear p0
    go_enter Try.func53, Try.ntmps53
    go_wp2_with fail
    go_ret
    exact ⟨by rw [HE.out]; rfl, HB.out⟩
  · have q0 : decide (x1 ≤ lo) = false := decide_eq_false p0
    by_cases p1 : hi < x1
    · have HE := Lib.hid (show (!inPart lo hi (x1, x2)) = true by unfold inPart; rw [decide_eq_false (show ¬ x1 ≤ hi by omega)]; simp)
      have q1 : decide (hi < x1) = true := decide_eq_true p1
      clear p0 p1
      go_enter Try.func53, Try.ntmps53
      go_wp2_with fail
      go_ret
      exact ⟨by rw [HE.out]; rfl, HB.out⟩
    · have HE := Lib.hid (show (!inPart lo hi (x1, x2)) = false by unfold inPart; rw [decide_eq_true (show lo < x1 by omega), decide_eq_true (show x1 ≤ hi by omega)]; rfl)
      have q1 : decide (hi < x1) = false := decide_eq_false p1
      clear p0 p1
      go_enter Try.func53, Try.ntmps53
      go_wp2_with fail
      go_ret
      exact ⟨by rw [HE.out]; rfl, HB.out⟩
theorem first_gone (p : Hit → Bool) : ∀ (l : List Hit), (∀ j (h : j < l.length), p l[j] = true) ∨ ∃ i, ∃ h : i < l.length, p l[i] = false ∧ ∀ j (h' : j < l.length), j < i → p l[j] = true
  | [] => .inl fun j h => absurd h (by simp)
  | x :: l => by
    cases hx : p x
    · exact .inr ⟨0, by simp, hx, fun j _ h => absurd h (by omega)⟩
    · rcases first_gone p l with h | ⟨i, hi, h1, h2⟩
      · refine .inl fun j hj => ?_
        cases j with
        | zero => exact hx
        | succ j => exact h j (by simpa using hj)
      · refine .inr ⟨i + 1, by simpa using hi, h1, fun j hj hji => ?_⟩
        cases j with
        | zero => exact hx
        | succ j => exact h2 j (by simpa using hj) (by omega)
/-- what stands in the row when j places have been looked at and i are kept -/
structure DelInv (p : Hit → Bool) (l : List Hit) (i j : Nat) (d : List Hit) : Prop where
  size : d.length = l.length
  lt : i < j
  le : j ≤ l.length
  low : d.take i = (l.take j).filter p
  high : ∀ m, j ≤ m → d[m]? = l[m]?
theorem DelInv.start {p : Hit → Bool} {l : List Hit} {i : Nat} (hi : i < l.length) (h1 : p l[i] = false) (h2 : ∀ j (h' : j < l.length), j < i → p l[j] = true) : DelInv p l i (i + 1) l where
  size := rfl
  lt := Nat.lt_succ_self _
  le := hi
  low := by
    rw [filter_no hi h1, List.filter_eq_self.2]
    intro x hx
    obtain ⟨j, hj, rfl⟩ := List.getElem_of_mem hx
    rw [List.length_take] at hj
    rw [List.getElem_take]
    exact h2 j (by omega) (by omega)
  high _ _ := rfl
theorem DelInv.skip {p : Hit → Bool} {l d : List Hit} {i j : Nat} (h : DelInv p l i j d) (hj : j < l.length) (hp : p l[j] = false) : DelInv p l i (j + 1) d where
  size := h.size
  lt := by have := h.lt; omega
  le := hj
  low := by rw [filter_no hj hp]; exact h.low
  high m hm := h.high m (by omega)
theorem DelInv.keep {p : Hit → Bool} {l d : List Hit} {i j : Nat} (h : DelInv p l i j d) (hj : j < l.length) (hp : p l[j] = true) : DelInv p l (i + 1) (j + 1) (d.set i l[j]) where
  size := by rw [List.length_set]; exact h.size
  lt := by have := h.lt; omega
  le := hj
  low := by
    have := h.lt
    have hs := h.size
    rw [filter_yes hj hp, ← h.low, List.take_succ_eq_append_getElem (by rw [List.length_set]; omega), List.getElem_set_self, List.take_set_of_le (Nat.le_refl _)]
  high m hm := by
    have := h.lt
    rw [List.getElem?_set_ne (by omega)]
    exact h.high m (by omega)
end Go.Proofs.Ytafdaiidnphbaaa

/- slices.DeleteFunc at hits, walked. -/
namespace Go.Proofs.Ytafdaiidnphbaaa
open Go.RowKit Go.Sort Go.Lib

set_option maxRecDepth 100000 in
set_option maxHeartbeats 8000000 in
theorem delete_p (g n cap base B1 B2 : Nat) (lo hi_ : Int) (l : List Hit) (w : World) (h : HL w base g n cap l) (hn : l.length = n) (hm : n ≤ 1000000) (hB1 : B1 < base) (hB2 : B2 < base) (hbw : base ≤ w.heap.size)
    (h1 : w.cell? ⟨B1, 0, none⟩ = some (.int .i64 lo)) (h2 : w.cell? ⟨B2, 0, none⟩ = some (.int .i64 hi_)) :
    Calls Try.prog 52 #[.slice (some ⟨g, 0, none⟩) n cap, .func (.func 53) #[] #[.pointer (some ⟨B1, 0, none⟩), .pointer (some ⟨B2, 0, none⟩)]] w fun e w' => ∃ m, e = .returned (.slice (some ⟨g, 0, none⟩) m cap) ∧ m = (l.filter (inPart lo hi_)).length ∧ HL w' base g m cap (l.filter (inPart lo hi_)) ∧ Below base w w' := by
  have hnc : n ≤ cap := by
    rcases h.2 with ⟨e0, _⟩ | ⟨g', cap', cur, e0, hb, hg, hn, _⟩
    · cases e0
    · cases e0; exact hn
  obtain ⟨hbg, hgl⟩ := h.lt _ rfl
  have eg : ∀ args w, (callFunc 53 args).run Try.prog w = .ok (.enter 53 args) w := enters_of Try.func53 (by kernel_rfl) rfl
  have KI := Lib.hid (AnyQ.slices_IndexFunc indexL 2 Try.isAgg38 Try.sizeOf38 hcell hcell_len (fun x => !inPart lo hi_ x) 53 #[.pointer (some ⟨B1, 0, none⟩), .pointer (some ⟨B2, 0, none⟩)] eg g 0 n cap l w
    (fun W x hb => (gone_p B1 B2 lo hi_ x W ((hb.cell (p := ⟨B1, 0, none⟩) (show B1 < w.heap.size by omega)).trans h1) ((hb.cell (p := ⟨B2, 0, none⟩) (show B2 < w.heap.size by omega)).trans h2)).mono fun e w' ⟨a, b⟩ => ⟨a, hb.trans (b.mono hb.size)⟩)
    (by omega) (by omega) hgl (fun j hj i v hv => by
      obtain ⟨c0, c1⟩ := h.cells hn hj
      rw [getElem!_pos l j hj] at hv
      match i, hv with
      | 0, hv => simp [hcell] at hv; subst hv; simpa using c0
      | 1, hv => simp [hcell] at hv; subst hv; simpa using c1
      | i + 2, hv => simp [hcell] at hv))
  have HO := Lib.hid h
  have HC := Lib.hid (show ∀ wr, Below base w wr → wr.cell? ⟨B1, 0, none⟩ = some (.int .i64 lo) ∧ wr.cell? ⟨B2, 0, none⟩ = some (.int .i64 hi_) from fun wr hb => ⟨(hb.cell (p := ⟨B1, 0, none⟩) hB1).trans h1, (hb.cell (p := ⟨B2, 0, none⟩) hB2).trans h2⟩)
  clear h h1 h2
  rcases first_gone (inPart lo hi_) l with hall | ⟨i, hi, hi1, hi2⟩
  · rw [Lib.idxBy_miss (fun _ y => !inPart lo hi_ y) l n default (fun j hj => by rw [getElem!_pos l j (by omega), hall j (by omega)]; rfl)] at KI
    have HF := Lib.hid (show l.filter (inPart lo hi_) = l from List.filter_eq_self.2 fun x hx => by
      obtain ⟨j, hj, rfl⟩ := List.getElem_of_mem hx
      exact hall j hj)
    clear hall
    go_enter Try.func52, Try.ntmps52
    go_wp2_with fail
    refine KI.out.mono ?_
    rintro e w1 ⟨rfl, hb1⟩
    have HB1 := Lib.hid (hb1.mono hbw)
    have HO1 := Lib.hid (ownsRow_below HO.out hb1)
    clear hb1 KI
    go_wp2_with fail
    go_ret
    exact ⟨n, rfl, by rw [HF.out, hn], by rw [HF.out]; exact HO1.out, HB1.out⟩
  · rw [Lib.idxBy_hit (fun _ y => !inPart lo hi_ y) l n i default (by omega) (by omega) (by rw [getElem!_pos l i hi, hi1]; rfl) (fun j hj => by rw [getElem!_pos l j (by omega), hi2 j (by omega) hj]; rfl)] at KI
    have HI := Lib.hid (DelInv.start hi hi1 hi2)
    have wi : IntKind.i64.wrap ((i : Int) + 1) = ((i + 1 : Nat) : Int) := by rw [IntWalk.i64_in _ (by omega)]; omega
    have t1 : ((i : Int) == -1) = false := beq_eq_false_iff_ne.2 (by omega)
    clear hi1 hi2
    go_enter Try.func52, Try.ntmps52
    go_wp2_with fail
    refine KI.out.mono ?_
    rintro e w1 ⟨rfl, hb1⟩
    have HB1 := Lib.hid (hb1.mono hbw)
    have HO1 := Lib.hid (ownsRow_below HO.out hb1)
    have hw1 : base ≤ w1.heap.size := Nat.le_trans hbw hb1.size
    clear hb1 KI
    go_wp2_with fail
    go_loopw [5, 6] (fun iv jv wr => ∃ (a j : Nat) (d : List Hit), iv = .int .i64 (a : Nat) ∧ jv = .int .i64 (j : Nat) ∧ HL wr base g n cap d ∧ DelInv (inPart lo hi_) l a j d ∧ Below base w wr) (fun _ jv _ => n - (intOf jv).toNat)
    case atStart => exact ⟨i, i + 1, l, rfl, by go_num, HO1.out, HI.out, HB1.out⟩
    case round =>
      obtain ⟨a, j, d, rfl, rfl, hown, hI, hB⟩ := hrel
      have HO2 := Lib.hid hown
      have HI2 := Lib.hid hI
      have HB2 := Lib.hid hB
      obtain ⟨c1, c2⟩ := HC.out wr hB
      have hdn : d.length = n := hI.size.trans hn
      have haj := hI.lt
      have hjn := hI.le
      have hwr : base ≤ wr.heap.size := Nat.le_trans hbw hB.size
      have hgw : g < wr.heap.size := (hown.lt _ rfl).2
      by_cases hlt : j < n
      · obtain ⟨d0, d1⟩ := hown.cells hdn (i := j) (by omega)
        have hdj : d[j]'(by omega) = l[j]'(by omega) := by
          have := hI.high j (Nat.le_refl _)
          rw [List.getElem?_eq_getElem (by omega), List.getElem?_eq_getElem (by omega)] at this
          exact Option.some.inj this
        rw [hdj] at d0 d1
        have j1 : (0 : Int) ≤ (j : Int) := by omega
        have j2 : (j : Int) < (n : Int) := by omega
        have wj : IntKind.i64.wrap ((j : Int) + 1) = (j : Int) + 1 := IntWalk.i64_in _ (by omega)
        have wa : IntKind.i64.wrap ((a : Int) + 1) = (a : Int) + 1 := IntWalk.i64_in _ (by omega)
        have a1 : (0 : Int) ≤ (a : Int) := by omega
        have a2 : (a : Int) < (n : Int) := by omega
        have m1 : (wr.alloc (.cells #[.int .i64 (l[j]'(by omega)).1, .int .i64 (l[j]'(by omega)).2] 38)).cell? ⟨B1, 0, none⟩ = some (.int .i64 lo) := Lib.cell?_alloc_some _ c1
        have m2 : (wr.alloc (.cells #[.int .i64 (l[j]'(by omega)).1, .int .i64 (l[j]'(by omega)).2] 38)).cell? ⟨B2, 0, none⟩ = some (.int .i64 hi_) := Lib.cell?_alloc_some _ c2
        have hown1 := hown.alloc (.cells #[.int .i64 (l[j]'(by omega)).1, .int .i64 (l[j]'(by omega)).2] 38)
        have hal : Below base wr (wr.alloc (.cells #[.int .i64 (l[j]'(by omega)).1, .int .i64 (l[j]'(by omega)).2] 38)) := (Below.refl _ wr).alloc hwr _
        have HX := Lib.hid (show (l[j]'(by omega)) = ((l[j]'(by omega)).1, (l[j]'(by omega)).2) from rfl)
        have hjl : j < l.length := by omega
        have HKEEP := Lib.hid (fun (hp : inPart lo hi_ (l[j]'(by omega)) = true) => DelInv.keep hI hjl hp)
        have HSKIP := Lib.hid (fun (hp : inPart lo hi_ (l[j]'(by omega)) = false) => DelInv.skip hI hjl hp)
        have HPX := Lib.hid (show inPart lo hi_ (l[j]'(by omega)) = inPart lo hi_ ((l[j]'(by omega)).1, (l[j]'(by omega)).2) from rfl)
        rw [HPX.out, HX.out] at HKEEP
        rw [HPX.out] at HSKIP
        clear HX HPX hI hB hdj
        generalize (l[j]'(by omega)).1 = x1 at *
        generalize (l[j]'(by omega)).2 = x2 at *
        have b0 : (wr.alloc (.cells #[.int .i64 x1, .int .i64 x2] 38)).cell? ⟨wr.heap.size, 0, none⟩ = some (.int .i64 x1) := cell_in (heap_alloc_new wr _) rfl
        have b1 : (wr.alloc (.cells #[.int .i64 x1, .int .i64 x2] 38)).cell? ⟨wr.heap.size, 1, none⟩ = some (.int .i64 x2) := cell_in (heap_alloc_new wr _) rfl
        have K := Lib.hid (gone_p B1 B2 lo hi_ (x1, x2) _ m1 m2)
        unfold hitV at K
        go_wp2_with fail
        refine K.out.mono ?_
        rintro e w5 ⟨rfl, hb5⟩
        have e0 := (hb5.cell (p := ⟨wr.heap.size, 0, none⟩) (show wr.heap.size < _ by simp)).trans b0
        have e1 := (hb5.cell (p := ⟨wr.heap.size, 1, none⟩) (show wr.heap.size < _ by simp)).trans b1
        have hown5 := ownsRow_below hown1 hb5
        have HO5 := Lib.hid hown5
        have HB5 := Lib.hid ((HB2.out.trans hal).trans (hb5.mono (by simp; omega)))
        obtain ⟨k0, k1⟩ := HL.cells hown5 hdn (i := a) (by omega)
        have fr0 := owns_free hown5 (a * 2)
        have fr1 := owns_free hown5 (a * 2 + 1)
        have hset := HL.set hown5 hdn (i := a) (by omega) x1 x2
        have hbs := (HB5.out.setCell (p := ⟨g, a * 2, none⟩) hbg (.int .i64 x1)).setCell (p := ⟨g, a * 2 + 1, none⟩) hbg (.int .i64 x2)
        have HSET := Lib.hid hset
        have HBS := Lib.hid hbs
        clear hset hbs hown5 hb5 hown1 hal hown c1 c2 d0 d1 m1 m2 b0 b1 K
        generalize wr.heap.size = V at *
        cases hh : inPart lo hi_ (x1, x2)
        · have HN := Lib.hid (HSKIP.out hh)
          clear HKEEP HSKIP
          go_wp2_with fail
          exact ⟨⟨a, j + 1, d, rfl, by go_num, HO5.out, HN.out, HB5.out⟩, by simp [intOf]; omega⟩
        · have HN := Lib.hid (HKEEP.out hh)
          clear HKEEP HSKIP
          go_wp2_with fail
          exact ⟨⟨a + 1, j + 1, _, by go_num, by go_num, HSET.out, HN.out, HBS.out⟩, by simp [intOf]; omega⟩
      · have e : j = l.length := by omega
        have hcc : ∀ m, m < (n - a) * 2 → ∃ u, wr.cell? ⟨g, a * 2 + m, none⟩ = some u := fun m hm => by
          have := hown.cells hdn (i := a + m / 2) (by omega)
          rcases Nat.mod_two_eq_zero_or_one m with h | h
          · exact ⟨_, by rw [show a * 2 + m = (a + m / 2) * 2 by omega]; exact this.1⟩
          · exact ⟨_, by rw [show a * 2 + m = (a + m / 2) * 2 + 1 by omega]; exact this.2⟩
        obtain ⟨us, hcl⟩ := run_clear_rows wr g (a * 2) (n - a) (cap - a) (by omega) (fun m hm => by obtain ⟨u, hu⟩ := hcc m hm; rw [hu]; rfl) (fun m _ => owns_free hown _)
        have j1 : ¬ ((j : Int) < (n : Int)) := by omega
        have a1 : (0 : Int) ≤ (a : Int) := by omega
        have a2 : (a : Int) ≤ (n : Int) := by omega
        have a3 : a < n := by omega
        clear hcc hown hI hB
        go_wp2_with fail
        go_ret
        have hI := HI2.out
        rw [e] at hI
        have hlow := hI.low
        rw [List.take_length] at hlow
        have hcut := owns_cut HO2.out (k := a) (by omega)
        rw [hcells_take, hlow] at hcut
        have hla : a = (l.filter (inPart lo hi_)).length := by rw [← hlow, List.length_take]; omega
        exact ⟨a, rfl, hla, owns_setCells_tail us _ _ hcut (Nat.le_refl _), below_setCells hbg us _ _ HB2.out⟩
end Go.Proofs.Ytafdaiidnphbaaa

/- Within of the program. -/
namespace Go.Proofs.Ytafdaiidnphbaaa
open Go.RowKit Go.Sort Go.Lib

theorem index_none (f : Value) (w : World) : Calls Try.prog 71 #[.slice none 0 0, f] w fun e w' => e = .returned (.int .i64 (-1)) ∧ w' = w := by
  go_enter Try.func71, Try.ntmps71
  go_wp2_with fail
  go_loopw [8] (fun iv wr => iv = .int .i64 0 ∧ w = wr) (fun _ _ => 0)
  case atStart => exact ⟨rfl, rfl⟩
  case round =>
    obtain ⟨rfl, rfl⟩ := hrel
    go_wp2_with fail
    go_ret
    exact ⟨rfl, rfl⟩
theorem delete_none (f : Value) (w : World) : Calls Try.prog 52 #[.slice none 0 0, f] w fun e w' => e = .returned (.slice none 0 0) ∧ w' = w := by
  have K := Lib.hid (index_none f w)
  go_enter Try.func52, Try.ntmps52
  go_wp2_with fail
  refine K.out.mono ?_
  rintro e w1 ⟨rfl, rfl⟩
  go_wp2_with fail
  go_ret
  exact ⟨rfl, rfl⟩
set_option maxRecDepth 100000 in
set_option maxHeartbeats 16000000 in
theorem within_p (v u : Value) (L : List (List El)) (b : List UInt8) (lo hi : Int) (w : World) (h : Sets w v L) (hb : Bytes w u b) :
    Calls Try.prog 27 #[v, u, .int .i64 lo, .int .i64 hi] w (Hits2 w (withL L b lo hi) (withE L b lo hi)) := by
  have hal : Below w.heap.size w ((w.alloc (.cells #[.int .i64 lo] 3)).alloc (.cells #[.int .i64 hi] 3)) := ((Below.refl _ w).alloc (Nat.le_refl _) _).alloc (by simp) _
  have KS := Lib.hid (all_p v u L b _ (h.below hal) (Row.below hb hal))
  have m1 : ((w.alloc (.cells #[.int .i64 lo] 3)).alloc (.cells #[.int .i64 hi] 3)).cell? ⟨w.heap.size, 0, none⟩ = some (.int .i64 lo) := Lib.cell?_alloc_some _ (cell_in (heap_alloc_new w _) rfl)
  have m2 : ((w.alloc (.cells #[.int .i64 lo] 3)).alloc (.cells #[.int .i64 hi] 3)).cell? ⟨w.heap.size + 1, 0, none⟩ = some (.int .i64 hi) := cell_in (by
    have := heap_alloc_new (w.alloc (.cells #[.int .i64 lo] 3)) (.cells #[.int .i64 hi] 3)
    rw [World.size_alloc] at this
    exact this) rfl
  have hsz : ((w.alloc (.cells #[.int .i64 lo] 3)).alloc (.cells #[.int .i64 hi] 3)).heap.size = w.heap.size + 2 := by simp
  have HAL := Lib.hid hal
  have HCE := Lib.hid (⟨m1, m2⟩ : _ ∧ _)
  obtain ⟨a, cap, rfl⟩ := h.form
  obtain ⟨ua, ucap, rfl⟩ := Row.form2 hb
  obtain ⟨W0, hW0⟩ : ∃ W0, (w.alloc (.cells #[.int .i64 lo] 3)).alloc (.cells #[.int .i64 hi] 3) = W0 := ⟨_, rfl⟩
  rw [hW0] at KS HAL HCE hsz
  have HSZ := Lib.hid hsz
  clear h hb hal m1 m2 hsz
  by_cases h0 : allE L b = 0
  · have hal := all_len h0
    have hWE := Lib.hid (show withE L b lo hi = if badPart b.length lo hi then 7 else 0 by unfold withE; rw [if_neg (by rw [h0]; simp)])
    have hWL := Lib.hid (show withL L b lo hi = if withE L b lo hi = 0 then (allV L b).filter (inPart lo hi) else [] from rfl)
    rw [h0] at KS
    clear h0
    generalize allV L b = l at *
    rcases part_cases b.length lo hi with ⟨hp, c0⟩ | ⟨hp, c0, c1⟩ | ⟨hp, c0, c1, c2⟩ | ⟨hp, c0, c1, c2⟩
    · have HE := Lib.hid (show withE L b lo hi = 7 by rw [hWE.out, if_pos hp])
      have HL := Lib.hid (show withL L b lo hi = [] by rw [hWL.out, if_neg (by rw [HE.out]; decide)])
      have q0 : decide (lo < 0) = true := decide_eq_true c0
      clear hp c0 hWE hWL
      go_enter Try.func27, Try.ntmps27
      go_wp2_with fail
      refine KS.out.mono ?_
      rintro e w1 ⟨lv, rfl, ho, hb1⟩
      have HB1 := Lib.hid (HAL.out.trans (hb1.mono HAL.out.size))
      have f1 := (hb1.cell (p := ⟨w.heap.size, 0, none⟩) (by rw [HSZ.out]; show w.heap.size < _; omega)).trans HCE.out.1
      have f2 := (hb1.cell (p := ⟨w.heap.size + 1, 0, none⟩) (by rw [HSZ.out]; show w.heap.size + 1 < _; omega)).trans HCE.out.2
      clear ho hb1 KS hW0
      go_wp2_with fail
      go_ret2
      exact show Hits2 _ _ _ _ _ from (by rw [HE.out, HL.out]; exact ⟨_, rfl, World.ownsRow_nil _ _ _ _, HB1.out⟩)
    · have HE := Lib.hid (show withE L b lo hi = 7 by rw [hWE.out, if_pos hp])
      have HL := Lib.hid (show withL L b lo hi = [] by rw [hWL.out, if_neg (by rw [HE.out]; decide)])
      have q0 : decide (lo < 0) = false := decide_eq_false c0
      have q1 : decide (hi < lo) = true := decide_eq_true c1
      clear hp c0 c1 hWE hWL
      go_enter Try.func27, Try.ntmps27
      go_wp2_with fail
      refine KS.out.mono ?_
      rintro e w1 ⟨lv, rfl, ho, hb1⟩
      have HB1 := Lib.hid (HAL.out.trans (hb1.mono HAL.out.size))
      have f1 := (hb1.cell (p := ⟨w.heap.size, 0, none⟩) (by rw [HSZ.out]; show w.heap.size < _; omega)).trans HCE.out.1
      have f2 := (hb1.cell (p := ⟨w.heap.size + 1, 0, none⟩) (by rw [HSZ.out]; show w.heap.size + 1 < _; omega)).trans HCE.out.2
      clear ho hb1 KS hW0
      go_wp2_with fail
      go_ret2
      exact show Hits2 _ _ _ _ _ from (by rw [HE.out, HL.out]; exact ⟨_, rfl, World.ownsRow_nil _ _ _ _, HB1.out⟩)
    · have HE := Lib.hid (show withE L b lo hi = 7 by rw [hWE.out, if_pos hp])
      have HL := Lib.hid (show withL L b lo hi = [] by rw [hWL.out, if_neg (by rw [HE.out]; decide)])
      have q0 : decide (lo < 0) = false := decide_eq_false c0
      have q1 : decide (hi < lo) = false := decide_eq_false c1
      have q2 : decide ((b.length : Int) < hi) = true := decide_eq_true c2
      clear hp c0 c1 c2 hWE hWL
      go_enter Try.func27, Try.ntmps27
      go_wp2_with fail
      refine KS.out.mono ?_
      rintro e w1 ⟨lv, rfl, ho, hb1⟩
      have HB1 := Lib.hid (HAL.out.trans (hb1.mono HAL.out.size))
      have f1 := (hb1.cell (p := ⟨w.heap.size, 0, none⟩) (by rw [HSZ.out]; show w.heap.size < _; omega)).trans HCE.out.1
      have f2 := (hb1.cell (p := ⟨w.heap.size + 1, 0, none⟩) (by rw [HSZ.out]; show w.heap.size + 1 < _; omega)).trans HCE.out.2
      clear ho hb1 KS hW0
      go_wp2_with fail
      go_ret2
      exact show Hits2 _ _ _ _ _ from (by rw [HE.out, HL.out]; exact ⟨_, rfl, World.ownsRow_nil _ _ _ _, HB1.out⟩)
    · have HE := Lib.hid (show withE L b lo hi = 0 by rw [hWE.out, if_neg hp])
      have HL := Lib.hid (show withL L b lo hi = l.filter (inPart lo hi) by rw [hWL.out, if_pos HE.out])
      have q0 : decide (lo < 0) = false := decide_eq_false c0
      have q1 : decide (hi < lo) = false := decide_eq_false c1
      have q2 : decide ((b.length : Int) < hi) = false := decide_eq_false c2
      clear hp c0 c1 c2 hWE hWL
      go_enter Try.func27, Try.ntmps27
      go_wp2_with fail
      refine KS.out.mono ?_
      rintro e w1 ⟨lv, rfl, ho, hb1⟩
      have HO := Lib.hid ho
      have HB1 := Lib.hid hb1
      have f1 := (hb1.cell (p := ⟨w.heap.size, 0, none⟩) (by rw [HSZ.out]; show w.heap.size < _; omega)).trans HCE.out.1
      have f2 := (hb1.cell (p := ⟨w.heap.size + 1, 0, none⟩) (by rw [HSZ.out]; show w.heap.size + 1 < _; omega)).trans HCE.out.2
      have hsz1 := hb1.size
      have hdel : Calls Try.prog 52 #[lv, .func (.func 53) #[] #[.pointer (some ⟨w.heap.size, 0, none⟩), .pointer (some ⟨w.heap.size + 1, 0, none⟩)]] w1 fun e w' => ∃ v, e = .returned v ∧ w'.ownsRow W0.heap.size 38 2 v (l.filter (inPart lo hi)).length (hcells (l.filter (inPart lo hi))) ∧ Below W0.heap.size w1 w' := by
        rcases ho.2 with ⟨rfl, hz⟩ | ⟨g, cp, cur, rfl, _⟩
        · have : l = [] := List.eq_nil_of_length_eq_zero hz
          subst this
          refine (delete_none _ w1).mono ?_
          rintro e w' ⟨rfl, rfl⟩
          exact ⟨_, rfl, World.ownsRow_nil _ _ _ _, Below.refl _ _⟩
        · refine (delete_p g l.length cp W0.heap.size w.heap.size (w.heap.size + 1) lo hi l w1 ho rfl (by omega) (by rw [HSZ.out]; omega) (by rw [HSZ.out]; omega) hsz1 f1 f2).mono ?_
          rintro e w' ⟨m, rfl, rfl, h1, h2⟩
          exact ⟨_, rfl, h1, h2⟩
      have HD := Lib.hid hdel
      clear ho hb1 KS hW0 hdel
      go_wp2_with fail
      refine HD.out.mono ?_
      rintro e w2 ⟨v2, rfl, ho2, hb2⟩
      have HO2 := Lib.hid (ho2.mono (show w.heap.size ≤ W0.heap.size by rw [HSZ.out]; omega))
      have HB2 := Lib.hid (HAL.out.trans ((HB1.out.trans hb2).mono HAL.out.size))
      clear ho2 hb2 HD f1 f2
      go_wp2_with fail
      go_ret2
      exact show Hits2 _ _ _ _ _ from (by rw [HE.out, HL.out]; exact ⟨_, rfl, HO2.out, HB2.out⟩)
  · have HE := Lib.hid (show withE L b lo hi = allE L b by unfold withE; rw [if_pos h0])
    have HL := Lib.hid (show withL L b lo hi = [] by unfold withL; rw [if_neg (by rw [HE.out]; exact h0)])
    have t1 : (allE L b != 0) = true := bne_iff_ne.2 h0
    generalize allE L b = E at *
    clear h0
    go_enter Try.func27, Try.ntmps27
    go_wp2_with fail
    refine KS.out.mono ?_
    rintro e w1 ⟨lv, rfl, ho, hb1⟩
    have HB1 := Lib.hid (HAL.out.trans (hb1.mono HAL.out.size))
    clear ho hb1 KS
    go_wp2_with fail
    go_ret2
    exact show Hits2 _ _ _ _ _ from (by rw [HE.out, HL.out]; exact ⟨_, rfl, World.ownsRow_nil _ _ _ _, HB1.out⟩)
end Go.Proofs.Ytafdaiidnphbaaa

/- Starts of both. -/
namespace Go.Proofs.Ytafdaiidnphbaaa
open Go.RowKit Go.Sort Go.Lib

theorem st_bcut (b : List UInt8) (lo hi : Nat) : ((bcells b).take (hi * 1)).drop (lo * 1) = bcells ((b.take hi).drop lo) := by
  simp only [bcells, Nat.mul_one, List.map_drop, List.map_take]
theorem st_cut {w : World} {a : Option Addr} {cap : Nat} {b : List UInt8} (h : Bytes w (.slice a b.length cap) b) (hc : b.length ≤ cap) {lo hi : Nat} (h1 : lo ≤ hi) (h2 : hi ≤ b.length) :
    ∃ a' cap', (∀ w', (Instr.slice 23 (.slice a b.length cap) (some (.int .i64 (lo : Int))) (some (.int .i64 (hi : Int))) none).run Try.prog w' = .ok (.slice a' (hi - lo) cap') w') ∧ Bytes w (.slice a' (hi - lo) cap') ((b.take hi).drop lo) := by
  refine ⟨if cap = lo then a else a.map (·.add (lo * 1)), cap - lo, fun w' => ?_, ?_⟩
  rotate_left
  · have := hrow_cut h h1 h2 hc
    rw [st_bcut] at this
    have hl : ((b.take hi).drop lo).length = hi - lo := by rw [List.length_drop, List.length_take, Nat.min_eq_left h2]
    unfold Bytes
    rw [hl]
    exact this
  · have hsz : ∀ w', (sizeOf (Try.prog.elem 23)).run Try.prog w' = .ok 1 w' := fun w' => by kernel_rfl
    rw [run_slice_lh (P := Try.prog) w' 23 a b.length cap (by kernel_rfl) .i64 .i64 (lo : Int) (hi : Int) (by omega) (by omega) (by omega), hsz]
    simp only [Result.andThen, sliced, Int.toNat_natCast]
theorem st_cut3 {w : World} {a : Option Addr} {cap : Nat} {b : List UInt8} (h : Bytes w (.slice a b.length cap) b) (hc : b.length ≤ cap) {lo hi : Nat} (h1 : lo ≤ hi) (h2 : hi ≤ b.length) :
    ∃ a' cap', (∀ w', (Instr.slice 23 (.slice a b.length cap) (some (.int .i64 (lo : Int))) (some (.int .i64 (hi : Int))) (some (.int .i64 (hi : Int)))).run Try.prog w' = .ok (.slice a' (hi - lo) cap') w') ∧ Bytes w (.slice a' (hi - lo) cap') ((b.take hi).drop lo) := by
  refine ⟨if hi = lo then a else a.map (·.add (lo * 1)), hi - lo, fun w' => ?_, ?_⟩
  rotate_left
  · have := hrow_cut h h1 h2 hc
    rw [st_bcut] at this
    have hl : ((b.take hi).drop lo).length = hi - lo := by rw [List.length_drop, List.length_take, Nat.min_eq_left h2]
    by_cases e : hi = lo
    · subst e
      have e0 : (b.take hi).drop hi = [] := by simp
      rw [e0, if_pos rfl, Nat.sub_self]
      exact ⟨by simp [bcells], by unfold maxLen; simp, _, _, rfl, fun _ => rfl, .inl rfl⟩
    · rw [if_neg (show ¬ cap = lo by omega)] at this
      rw [if_neg e]
      unfold Bytes
      rw [hl]
      obtain ⟨hl', hm, a', cap', e', hn, hr⟩ := this
      cases e'
      exact ⟨hl', hm, _, _, rfl, fun h0 => by have := hn h0; omega, hr⟩
  · have hsz : ∀ w', (sizeOf (Try.prog.elem 23)).run Try.prog w' = .ok 1 w' := fun w' => by kernel_rfl
    rw [run_slice_lhm (P := Try.prog) w' 23 a b.length cap (by kernel_rfl) .i64 .i64 .i64 (lo : Int) (hi : Int) (hi : Int) (by omega) (by omega) (by omega) (by omega), hsz]
    simp only [Result.andThen, sliced, Int.toNat_natCast]
def startE (p : List El) (b : List UInt8) (e : Int) : Int := if (checkV p).2 ≠ 0 then (checkV p).2 else if 4096 < b.length then 3 else if e < 0 ∨ (b.length : Int) < e then 7 else 0
def startTo (p : List El) (b : List UInt8) (e lo n : Nat) : List Nat := (List.range n).filter fun s => decide (lo ≤ s) && matchV p ((b.take e).drop s)
def startL (p : List El) (b : List UInt8) (e : Int) : List Int := if startE p b e = 0 then (startTo p b e.toNat (max 0 (e - mostV p)).toNat e.toNat).map (fun (s : Nat) => (s : Int)) else []
theorem startTo_none (p : List El) (b : List UInt8) (e lo : Nat) : startTo p b e lo lo = [] := by
  unfold startTo
  rw [List.filter_eq_nil_iff]
  intro s hs
  rw [List.mem_range] at hs
  simp [show ¬ lo ≤ s by omega]
theorem startTo_yes {p : List El} {b : List UInt8} {e lo s : Nat} (h : lo ≤ s) (hm : matchV p ((b.take e).drop s) = true) : startTo p b e lo (s + 1) = startTo p b e lo s ++ [s] := by simp [startTo, List.range_succ, h, hm]
theorem startTo_no {p : List El} {b : List UInt8} {e lo s : Nat} (hm : matchV p ((b.take e).drop s) = false) : startTo p b e lo (s + 1) = startTo p b e lo s := by simp [startTo, List.range_succ, hm]
theorem startTo_len (p : List El) (b : List UInt8) (e lo n : Nat) : (startTo p b e lo n).length ≤ n := by
  unfold startTo
  exact Nat.le_trans (List.length_filter_le _ _) (by simp)
end Go.Proofs.Ytafdaiidnphbaaa

/- Starts of the program. -/
namespace Go.Proofs.Ytafdaiidnphbaaa
open Go.RowKit Go.Sort Go.Lib

theorem most_in {p : List El} (h : OkP p) : 0 ≤ mostV p ∧ mostV p ≤ 16 * 512 := by
  have := sum_in h highOf (fun i hi => (lowOf_in h hi).2.2) p.length (Nat.le_refl _)
  rw [List.take_length] at this
  have hl := h.le
  unfold mostV
  omega
theorem app_n {w : World} {base : Nat} {v : Value} {l : List Int} {x : Int} (hown : w.ownsRow base 3 1 v l.length (l.map (Value.int .i64))) (hl : l.length ≤ 100000) (hbase : base ≤ w.heap.size) :
    ∃ v' w', (Builtin.append_ #[28, 28] 28 #[v, .slice (some ⟨w.heap.size, 0, none⟩) 1 1]).run Try.prog (w.alloc (.cells #[.int .i64 x] 3)) = .ok v' w' ∧ w'.ownsRow base 3 1 v' (l ++ [x]).length ((l ++ [x]).map (Value.int .i64)) ∧ (w.alloc (.cells #[.int .i64 x] 3)).grownBy w' v.ownBlock := by
  obtain ⟨j0, hj, hy0, hy1, hy2⟩ := info_parts infoI
  have hr : Row (w.alloc (.cells #[.int .i64 x] 3)) 1 (.slice (some ⟨w.heap.size, 0, none⟩) 1 1) 1 [.int .i64 x] := Row.of_owns (base := w.heap.size) (e := 3) (World.ownsRow_lit w #[.int .i64 x] 1 (Nat.le_refl _) (by decide) rfl)
  obtain ⟨v', w', h1, h2, h3⟩ := append_row (P := Try.prog) base 28 28 3 Try.underlying28 hj hy0 hy1 hy2 rfl (by decide) (hown.alloc _) hr (fun x hx => by rw [List.mem_singleton.1 hx]; rfl) (by unfold maxLen; omega) (by omega) (by simp; omega)
  refine ⟨v', w', h1, ?_, h3⟩
  rw [List.length_append, List.map_append]
  exact h2
set_option maxRecDepth 100000 in
set_option maxHeartbeats 16000000 in
theorem starts_p (v : Value) (ua : Option Addr) (ucap : Nat) (p : List El) (b : List UInt8) (e : Int) (w : World) (h : Pats w v p) (hb : Bytes w (.slice ua b.length ucap) b) (hcap : b.length ≤ ucap) :
    Calls Try.prog 12 #[v, .slice ua b.length ucap, .int .i64 e] w (NumsP w (startL p b e) (startE p b e)) := by
  have KS := Lib.hid (lengths_p v p w h)
  have HP := Lib.hid h
  have HBy := Lib.hid hb
  obtain ⟨pa, pc, rfl⟩ := Row.form2 h
  clear h hb
  have HST := Lib.hid (show startL p b e = if startE p b e = 0 then (startTo p b e.toNat (max 0 (e - mostV p)).toNat e.toNat).map (fun (s : Nat) => (s : Int)) else [] from rfl)
  have HEE := Lib.hid (show startE p b e = if (checkV p).2 ≠ 0 then (checkV p).2 else if 4096 < b.length then 3 else if e < 0 ∨ (b.length : Int) < e then 7 else 0 from rfl)
  unfold lenV at KS
  by_cases h0 : (checkV p).2 = 0
  · have hok := okP_of h0
    have HOK := Lib.hid hok
    obtain ⟨mo0, mo1⟩ := most_in hok
    rw [if_pos h0] at KS
    rw [if_neg (by rw [h0]; simp)] at HEE
    generalize leastV p = le at *
    generalize mostV p = mo at *
    clear h0 hok
    by_cases h1 : 4096 < b.length
    · have HE := Lib.hid (HEE.out.trans (if_pos h1))
      have HL := Lib.hid (HST.out.trans (if_neg (by rw [HE.out]; decide)))
      have q0 : decide ((4096 : Int) < (b.length : Int)) = true := decide_eq_true (by omega)
      clear h1 HEE HST
      go_enter Try.func12, Try.ntmps12
      go_wp2_with fail
      refine KS.out.mono ?_
      rintro e' w1 ⟨rfl, hb1⟩
      have HB1 := Lib.hid hb1
      clear hb1 KS
      go_wp2_with fail
      go_ret2
      exact show NumsP _ _ _ _ _ from (by rw [HE.out, HL.out]; exact ⟨_, rfl, World.ownsRow_nil _ _ _ _, HB1.out⟩)
    · rw [if_neg h1] at HEE
      have q0 : decide ((4096 : Int) < (b.length : Int)) = false := decide_eq_false (by omega)
      by_cases h2 : e < 0
      · have HE := Lib.hid (HEE.out.trans (if_pos (.inl h2)))
        have HL := Lib.hid (HST.out.trans (if_neg (by rw [HE.out]; decide)))
        have q1 : decide (e < 0) = true := decide_eq_true h2
        clear h2 h1 HEE HST
        go_enter Try.func12, Try.ntmps12
        go_wp2_with fail
        refine KS.out.mono ?_
        rintro e' w1 ⟨rfl, hb1⟩
        have HB1 := Lib.hid hb1
        clear hb1 KS
        go_wp2_with fail
        go_ret2
        exact show NumsP _ _ _ _ _ from (by rw [HE.out, HL.out]; exact ⟨_, rfl, World.ownsRow_nil _ _ _ _, HB1.out⟩)
      · by_cases h3 : (b.length : Int) < e
        · have HE := Lib.hid (HEE.out.trans (if_pos (.inr h3)))
          have HL := Lib.hid (HST.out.trans (if_neg (by rw [HE.out]; decide)))
          have q1 : decide (e < 0) = false := decide_eq_false h2
          have q2 : decide ((b.length : Int) < e) = true := decide_eq_true h3
          clear h2 h1 h3 HEE HST
          go_enter Try.func12, Try.ntmps12
          go_wp2_with fail
          refine KS.out.mono ?_
          rintro e' w1 ⟨rfl, hb1⟩
          have HB1 := Lib.hid hb1
          clear hb1 KS
          go_wp2_with fail
          go_ret2
          exact show NumsP _ _ _ _ _ from (by rw [HE.out, HL.out]; exact ⟨_, rfl, World.ownsRow_nil _ _ _ _, HB1.out⟩)
        · obtain ⟨E, rfl⟩ : ∃ E : Nat, e = E := ⟨e.toNat, by omega⟩
          have HE := Lib.hid (HEE.out.trans (if_neg (by omega)))
          have HL := Lib.hid (HST.out.trans (if_pos HE.out))
          obtain ⟨lo, hlo⟩ : ∃ lo : Nat, max (0 : Int) ((E : Int) - mo) = lo := ⟨(max (0 : Int) ((E : Int) - mo)).toNat, by omega⟩
          rw [hlo, Int.toNat_natCast, Int.toNat_natCast] at HL
          have hlE : lo ≤ E := by omega
          have hEb : E ≤ b.length := by omega
          have q2 : decide ((b.length : Int) < (E : Int)) = false := decide_eq_false (by omega)
          have q1 : decide ((E : Int) < 0) = false := decide_eq_false (by omega)
          have q3 : decide (b.length < E) = false := decide_eq_false (by omega)
          have wm : IntKind.i64.wrap ((E : Int) - mo) = (E : Int) - mo := IntWalk.i64_in _ (by omega)
          have hlb : b.length ≤ 4096 := by omega
          have HNONE := Lib.hid (startTo_none p b E lo)
          clear h1 h2 h3 HEE HST
          go_enter Try.func12, Try.ntmps12
          go_wp2_with fail
          refine KS.out.mono ?_
          rintro e' w1 ⟨rfl, hb1⟩
          have HB1 := Lib.hid hb1
          clear hb1 KS
          go_wp2_with fail
          obtain ⟨i0, hi, hz0, hz1, hz2⟩ := info_parts infoB
          clear q0 q1 q2 q3 wm hlo
          go_loopw [11, 12] (fun ov sv wr => ∃ (s : Nat) (ow : Value), ow = ov ∧ lo ≤ s ∧ s ≤ E ∧ sv = .int .i64 (s : Nat) ∧ wr.ownsRow w.heap.size 3 1 ow ((startTo p b E lo s).map (fun (s : Nat) => (s : Int))).length (((startTo p b E lo s).map (fun (s : Nat) => (s : Int))).map (Value.int .i64)) ∧ Below w.heap.size w wr) (fun _ sv _ => E - (intOf sv).toNat)
          case atStart => exact ⟨lo, _, rfl, by omega, hlE, rfl, by rw [HNONE.out]; exact World.ownsRow_nil _ _ _ _, HB1.out⟩
          case round =>
            obtain ⟨s, ow, rfl, hs0, hs1, rfl, hown, hB⟩ := hrel
            have HO := Lib.hid hown
            have HB := Lib.hid hB
            clear hown hB
            by_cases hlt : s < E
            · obtain ⟨qa, qc, hsl, hpb⟩ := st_cut3 HBy.out hcap (lo := s) (hi := E) hs1 hEb
              have hpl : ((b.take E).drop s).length = E - s := by rw [List.length_drop, List.length_take, Nat.min_eq_left hEb]
              have HY := Lib.hid (@startTo_yes p b E lo s hs0)
              have HN := Lib.hid (@startTo_no p b E lo s)
              have hslen := startTo_len p b E lo s
              obtain ⟨r, hr⟩ : ∃ r, r = E - s := ⟨_, rfl⟩
              rw [← hr] at hsl hpb hpl
              have hrb : r ≤ 4096 := by omega
              have HPB := Lib.hid hpb
              generalize (b.take E).drop s = part at *
              have s1 : (s : Int) < (E : Int) := by omega
              have ws : IntKind.i64.wrap ((s : Int) + 1) = (s : Int) + 1 := IntWalk.i64_in _ (by omega)
              have wr1 : IntKind.i64.wrap ((r : Int) + 1) = (r : Int) + 1 := IntWalk.i64_in _ (by omega)
              have l0 : w.heap.size ≤ wr.heap.size := HB.out.size
              clear hpb hr
              go_wp2_with (at_make; refine wpList_make_full _ rfl _ _ 63 rfl wr.heap.size 4 i0 _ 1 Try.underlying63 hi hz0 hz1 _ _ _ _ (r + 1) rfl rfl (by omega) (by omega) (by rw [hz2]; omega) (by unfold maxLen; omega) (Nat.le_refl _) ?_; intro w3 hown hgrow; have hr3 := bools_made (by omega) hown; have ce := hr3.cell (m := 0) (by omega); have fr := hr3.free 0)
              have hb3 : Below wr.heap.size wr w3 := (Below.refl _ _).grown hgrow (Nat.le_refl _) (fun q e => by cases e)
              have HR4 := Lib.hid ((hr3.set 0).congr (f' := fun m => decide (m = 0)) (fun m _ => by simp))
              have HB4 := Lib.hid (hb3.setCell (p := ⟨wr.heap.size, 0, none⟩) (Nat.le_refl _) (.bool true))
              clear hown hgrow hr3 hb3 ce fr
              have hbw := HB.out.trans (HB4.out.mono l0)
              have K := run_p (.slice pa p.length pc) (.slice qa r qc) p part wr.heap.size (r + 1) (fun m => decide (m = 0)) _ (Row.below HP.out hbw) (Row.below HPB.out hbw) HOK.out (by rw [hpl]; exact hrb) (by rw [hpl]; exact HR4.out)
              rw [hpl] at K
              refine K.mono ?_
              rintro e' w5 ⟨g5, cp5, rfl, hr5, hb5⟩
              have c5 := hr5.cell (m := r) (by omega)
              have hmv : reachP part p (fun m => decide (m = 0)) r = matchV p part := by rw [← hpl]; rfl
              rw [hmv] at c5
              have HB5 := Lib.hid (hbw.trans (hb5.mono hbw.size))
              have HO5 := Lib.hid (ownsRow_below (ownsRow_below HO.out HB4.out) hb5)
              have r1 : (r : Int) < (r : Int) + 1 := by omega
              clear K hr5 hb5 hbw hmv HR4 HB4 HPB hsl
              cases hm : matchV p part
              · rw [hm] at c5
                have HNN := Lib.hid (HN.out hm)
                clear HY HN hm
                go_wp2_with fail
                exact ⟨⟨s + 1, _, rfl, by omega, by omega, by go_num, by rw [HNN.out]; exact HO5.out, HB5.out⟩, by simp [intOf]; omega⟩
              · rw [hm] at c5
                have HYY := Lib.hid (HY.out hm)
                clear HY HN hm
                obtain ⟨va, wa, hra, hoa, hga⟩ := app_n (x := (s : Int)) HO5.out (by rw [List.length_map]; omega) HB5.out.size
                have e1 : (startTo p b E lo s).map (fun (s : Nat) => (s : Int)) ++ [(s : Int)] = (startTo p b E lo (s + 1)).map (fun (s : Nat) => (s : Int)) := by rw [HYY.out, List.map_append]; rfl
                rw [e1] at hoa
                have HRA := Lib.hid hra
                have HOA := Lib.hid hoa
                have HBA := Lib.hid ((HB5.out.alloc HB5.out.size _).grown hga (by have := HB5.out.size; simp; omega) (fun q e => (HO5.out.lt q e).1))
                clear hra hoa hga e1 HYY
                go_wp2_with (at_builtin; refine wpList_append_run rfl rfl rfl rfl HRA.out ?_)
                exact ⟨⟨s + 1, _, rfl, by omega, by omega, by go_num, HOA.out, HBA.out⟩, by simp [intOf]; omega⟩
            · obtain rfl : s = E := by omega
              have s1 : ¬ ((s : Int) < (s : Int)) := by omega
              go_wp2_with fail
              go_ret2
              exact show NumsP _ _ _ _ _ from (by rw [HE.out, HL.out]; exact ⟨_, rfl, HO.out, HB.out⟩)
  · have HE := Lib.hid (HEE.out.trans (if_pos h0))
    have HL := Lib.hid (HST.out.trans (if_neg (by rw [HE.out]; exact h0)))
    rw [if_neg h0] at KS
    generalize (checkV p).2 = x at *
    clear HEE HST
    go_enter Try.func12, Try.ntmps12
    go_wp2_with fail
    refine KS.out.mono ?_
    rintro e' w1 ⟨rfl, hb1⟩
    have HB1 := Lib.hid hb1
    clear hb1 KS
    go_wp2_with fail
    go_ret2
    exact show NumsP _ _ _ _ _ from (by rw [HE.out, HL.out]; exact ⟨_, rfl, World.ownsRow_nil _ _ _ _, HB1.out⟩)
end Go.Proofs.Ytafdaiidnphbaaa

/- Starts of the reference. -/
namespace Go.Proofs.Ytafdaiidnphbaaa
open Go.RowKit Go.Sort Go.Lib

set_option maxRecDepth 100000 in
set_option maxHeartbeats 16000000 in
theorem starts_r (v : Value) (ua : Option Addr) (ucap : Nat) (p : List El) (b : List UInt8) (e : Int) (w : World) (h : Pats w v p) (hb : Bytes w (.slice ua b.length ucap) b) (hcap : b.length ≤ ucap) :
    Calls Try.prog 16 #[v, .slice ua b.length ucap, .int .i64 e] w (NumsP w (startL p b e) (startE p b e)) := by
  have KS := Lib.hid (check_r v p w h)
  have KL := Lib.hid (fun w1 (hb : Below w.heap.size w w1) => lengths_r v p w1 (Row.below h hb))
  have HP := Lib.hid h
  have HBy := Lib.hid hb
  obtain ⟨pa, pc, rfl⟩ := Row.form2 h
  clear h hb
  have HST := Lib.hid (show startL p b e = if startE p b e = 0 then (startTo p b e.toNat (max 0 (e - mostV p)).toNat e.toNat).map (fun (s : Nat) => (s : Int)) else [] from rfl)
  have HEE := Lib.hid (show startE p b e = if (checkV p).2 ≠ 0 then (checkV p).2 else if 4096 < b.length then 3 else if e < 0 ∨ (b.length : Int) < e then 7 else 0 from rfl)
  unfold lenV at KL
  by_cases h0 : (checkV p).2 = 0
  · have hok := okP_of h0
    have HOK := Lib.hid hok
    obtain ⟨mo0, mo1⟩ := most_in hok
    rw [checkV_ok h0] at KS
    rw [if_pos h0] at KL
    rw [if_neg (by rw [h0]; simp)] at HEE
    generalize leastV p = le at *
    generalize mostV p = mo at *
    clear h0 hok
    by_cases h1 : 4096 < b.length
    · have HE := Lib.hid (HEE.out.trans (if_pos h1))
      have HL := Lib.hid (HST.out.trans (if_neg (by rw [HE.out]; decide)))
      have q0 : decide ((4096 : Int) < (b.length : Int)) = true := decide_eq_true (by omega)
      clear h1 HEE HST
      go_enter Try.func16, Try.ntmps16
      go_wp2_with fail
      refine KS.out.mono ?_
      rintro e' w1 ⟨rfl, hb1⟩
      have HB1 := Lib.hid hb1
      clear hb1 KS
      go_wp2_with fail
      go_ret2
      exact show NumsP _ _ _ _ _ from (by rw [HE.out, HL.out]; exact ⟨_, rfl, World.ownsRow_nil _ _ _ _, HB1.out⟩)
    · rw [if_neg h1] at HEE
      have q0 : decide ((4096 : Int) < (b.length : Int)) = false := decide_eq_false (by omega)
      by_cases h2 : e < 0
      · have HE := Lib.hid (HEE.out.trans (if_pos (.inl h2)))
        have HL := Lib.hid (HST.out.trans (if_neg (by rw [HE.out]; decide)))
        have q1 : decide (e < 0) = true := decide_eq_true h2
        clear h2 h1 HEE HST
        go_enter Try.func16, Try.ntmps16
        go_wp2_with fail
        refine KS.out.mono ?_
        rintro e' w1 ⟨rfl, hb1⟩
        have HB1 := Lib.hid hb1
        clear hb1 KS
        go_wp2_with fail
        go_ret2
        exact show NumsP _ _ _ _ _ from (by rw [HE.out, HL.out]; exact ⟨_, rfl, World.ownsRow_nil _ _ _ _, HB1.out⟩)
      · by_cases h3 : (b.length : Int) < e
        · have HE := Lib.hid (HEE.out.trans (if_pos (.inr h3)))
          have HL := Lib.hid (HST.out.trans (if_neg (by rw [HE.out]; decide)))
          have q1 : decide (e < 0) = false := decide_eq_false h2
          have q2 : decide ((b.length : Int) < e) = true := decide_eq_true h3
          clear h2 h1 h3 HEE HST
          go_enter Try.func16, Try.ntmps16
          go_wp2_with fail
          refine KS.out.mono ?_
          rintro e' w1 ⟨rfl, hb1⟩
          have HB1 := Lib.hid hb1
          clear hb1 KS
          go_wp2_with fail
          go_ret2
          exact show NumsP _ _ _ _ _ from (by rw [HE.out, HL.out]; exact ⟨_, rfl, World.ownsRow_nil _ _ _ _, HB1.out⟩)
        · obtain ⟨E, rfl⟩ : ∃ E : Nat, e = E := ⟨e.toNat, by omega⟩
          have HE := Lib.hid (HEE.out.trans (if_neg (by omega)))
          have HL := Lib.hid (HST.out.trans (if_pos HE.out))
          obtain ⟨lo, hlo⟩ : ∃ lo : Nat, max (0 : Int) ((E : Int) - mo) = lo := ⟨(max (0 : Int) ((E : Int) - mo)).toNat, by omega⟩
          rw [hlo, Int.toNat_natCast, Int.toNat_natCast] at HL
          have hlE : lo ≤ E := by omega
          have hEb : E ≤ b.length := by omega
          have q2 : decide ((b.length : Int) < (E : Int)) = false := decide_eq_false (by omega)
          have q1 : decide ((E : Int) < 0) = false := decide_eq_false (by omega)
          have q3 : decide (b.length < E) = false := decide_eq_false (by omega)
          have wm : IntKind.i64.wrap ((E : Int) - mo) = (E : Int) - mo := IntWalk.i64_in _ (by omega)
          have hlb : b.length ≤ 4096 := by omega
          have HNONE := Lib.hid (startTo_none p b E lo)
          clear h1 h2 h3 HEE HST
          go_enter Try.func16, Try.ntmps16
          go_wp2_with fail
          refine KS.out.mono ?_
          rintro e' w1 ⟨rfl, hb1⟩
          have HB0 := Lib.hid hb1
          have K2 := Lib.hid (KL.out w1 hb1)
          clear hb1 KS KL
          go_wp2_with fail
          refine K2.out.mono ?_
          rintro e' w2 ⟨rfl, hb2⟩
          have HB1 := Lib.hid (HB0.out.trans (hb2.mono HB0.out.size))
          clear hb2 K2 HB0
          go_wp2_with fail
          obtain ⟨i0, hi, hz0, hz1, hz2⟩ := info_parts infoB
          clear q0 q1 q2 q3 wm hlo
          go_loopw [10, 14] (fun ov sv wr => ∃ (s : Nat) (ow : Value), ow = ov ∧ lo ≤ s ∧ s ≤ E ∧ sv = .int .i64 (s : Nat) ∧ wr.ownsRow w.heap.size 3 1 ow ((startTo p b E lo s).map (fun (s : Nat) => (s : Int))).length (((startTo p b E lo s).map (fun (s : Nat) => (s : Int))).map (Value.int .i64)) ∧ Below w.heap.size w wr) (fun _ sv _ => E - (intOf sv).toNat)
          case atStart => exact ⟨lo, _, rfl, by omega, hlE, rfl, by rw [HNONE.out]; exact World.ownsRow_nil _ _ _ _, HB1.out⟩
          case round =>
            obtain ⟨s, ow, rfl, hs0, hs1, rfl, hown, hB⟩ := hrel
            have HO := Lib.hid hown
            have HB := Lib.hid hB
            clear hown hB
            by_cases hlt : s < E
            · obtain ⟨qa, qc, hsl, hpb⟩ := st_cut HBy.out hcap (lo := s) (hi := E) hs1 hEb
              have hpl : ((b.take E).drop s).length = E - s := by rw [List.length_drop, List.length_take, Nat.min_eq_left hEb]
              have HY := Lib.hid (@startTo_yes p b E lo s hs0)
              have HN := Lib.hid (@startTo_no p b E lo s)
              have hslen := startTo_len p b E lo s
              obtain ⟨r, hr⟩ : ∃ r, r = E - s := ⟨_, rfl⟩
              rw [← hr] at hsl hpb hpl
              have hrb : r ≤ 4096 := by omega
              have HPB := Lib.hid hpb
              generalize (b.take E).drop s = part at *
              have s1 : (s : Int) < (E : Int) := by omega
              have ws : IntKind.i64.wrap ((s : Int) + 1) = (s : Int) + 1 := IntWalk.i64_in _ (by omega)
              have wr1 : IntKind.i64.wrap ((r : Int) + 1) = (r : Int) + 1 := IntWalk.i64_in _ (by omega)
              have ws2 : IntKind.i64.wrap ((E : Int) - (s : Int)) = (r : Int) := by rw [IntWalk.i64_in _ (by omega)]; omega
              have l0 : w.heap.size ≤ wr.heap.size := HB.out.size
              clear hpb hr
              go_wp2_with (at_make; refine wpList_make_full _ rfl _ _ 62 rfl wr.heap.size 4 i0 _ 1 Try.underlying62 hi hz0 hz1 _ _ _ _ (r + 1) rfl rfl (by omega) (by omega) (by rw [hz2]; omega) (by unfold maxLen; omega) (Nat.le_refl _) ?_; intro w3 hown hgrow; have hr3 := bools_made (by omega) hown; have ce := hr3.cell (m := 0) (by omega); have fr := hr3.free 0)
              have hb3 : Below wr.heap.size wr w3 := (Below.refl _ _).grown hgrow (Nat.le_refl _) (fun q e => by cases e)
              have HR4 := Lib.hid ((hr3.set 0).congr (f' := fun m => decide (m = 0)) (fun m _ => by simp))
              have HB4 := Lib.hid (hb3.setCell (p := ⟨wr.heap.size, 0, none⟩) (Nat.le_refl _) (.bool true))
              clear hown hgrow hr3 hb3 ce fr
              have hbw := HB.out.trans (HB4.out.mono l0)
              have K := reach_r (.slice pa p.length pc) (.slice qa r qc) p part wr.heap.size (r + 1) (fun m => decide (m = 0)) _ (Row.below HP.out hbw) (Row.below HPB.out hbw) HOK.out (by rw [hpl]; exact hrb) (by rw [hpl]; exact HR4.out)
              rw [hpl] at K
              refine K.mono ?_
              rintro e' w5 ⟨g5, cp5, rfl, hr5, hb5⟩
              have c5 := hr5.cell (m := r) (by omega)
              have hmv : reachP part p (fun m => decide (m = 0)) r = matchV p part := by rw [← hpl]; rfl
              rw [hmv] at c5
              have HB5 := Lib.hid (hbw.trans (hb5.mono hbw.size))
              have HO5 := Lib.hid (ownsRow_below (ownsRow_below HO.out HB4.out) hb5)
              have r1 : (r : Int) < (r : Int) + 1 := by omega
              clear K hr5 hb5 hbw hmv HR4 HB4 HPB hsl
              cases hm : matchV p part
              · rw [hm] at c5
                have HNN := Lib.hid (HN.out hm)
                clear HY HN hm
                go_wp2_with fail
                exact ⟨⟨s + 1, _, rfl, by omega, by omega, by go_num, by rw [HNN.out]; exact HO5.out, HB5.out⟩, by simp [intOf]; omega⟩
              · rw [hm] at c5
                have HYY := Lib.hid (HY.out hm)
                clear HY HN hm
                obtain ⟨va, wa, hra, hoa, hga⟩ := app_n (x := (s : Int)) HO5.out (by rw [List.length_map]; omega) HB5.out.size
                have e1 : (startTo p b E lo s).map (fun (s : Nat) => (s : Int)) ++ [(s : Int)] = (startTo p b E lo (s + 1)).map (fun (s : Nat) => (s : Int)) := by rw [HYY.out, List.map_append]; rfl
                rw [e1] at hoa
                have HRA := Lib.hid hra
                have HOA := Lib.hid hoa
                have HBA := Lib.hid ((HB5.out.alloc HB5.out.size _).grown hga (by have := HB5.out.size; simp; omega) (fun q e => (HO5.out.lt q e).1))
                clear hra hoa hga e1 HYY
                go_wp2_with (at_builtin; refine wpList_append_run rfl rfl rfl rfl HRA.out ?_)
                exact ⟨⟨s + 1, _, rfl, by omega, by omega, by go_num, HOA.out, HBA.out⟩, by simp [intOf]; omega⟩
            · obtain rfl : s = E := by omega
              have s1 : ¬ ((s : Int) < (s : Int)) := by omega
              go_wp2_with fail
              go_ret2
              exact show NumsP _ _ _ _ _ from (by rw [HE.out, HL.out]; exact ⟨_, rfl, HO.out, HB.out⟩)
  · have HE := Lib.hid (HEE.out.trans (if_pos h0))
    have HL := Lib.hid (HST.out.trans (if_neg (by rw [HE.out]; exact h0)))
    have t1 : ((checkV p).2 == 0) = false := beq_eq_false_iff_ne.2 h0
    generalize (checkV p).2 = x at *
    generalize (checkV p).1 = x1 at *
    clear HEE HST KL
    go_enter Try.func16, Try.ntmps16
    go_wp2_with fail
    refine KS.out.mono ?_
    rintro e' w1 ⟨rfl, hb1⟩
    have HB1 := Lib.hid hb1
    clear hb1 KS
    go_wp2_with fail
    go_ret2
    exact show NumsP _ _ _ _ _ from (by rw [HE.out, HL.out]; exact ⟨_, rfl, World.ownsRow_nil _ _ _ _, HB1.out⟩)
end Go.Proofs.Ytafdaiidnphbaaa

/- A block that holds a set. -/
namespace Go.Proofs.Ytafdaiidnphbaaa
open Go.RowKit

/-- a block that holds a set -/
def SetAt (w : World) (B : Nat) (s : CSet) : Prop := w.heap[B]? = some (.cells (setC s) 68)
theorem SetAt.lt {w : World} {B : Nat} {s : CSet} (h : SetAt w B s) : B < w.heap.size := (Array.getElem?_eq_some_iff.1 h).1
theorem SetAt.cells {w : World} {B : Nat} {s : CSet} (h : SetAt w B s) :
    w.cell? ⟨B, 0, none⟩ = some (.int .u64 (word s 0 : Int)) ∧ w.cell? ⟨B, 1, none⟩ = some (.int .u64 (word s 1 : Int)) ∧ w.cell? ⟨B, 2, none⟩ = some (.int .u64 (word s 2 : Int)) ∧ w.cell? ⟨B, 3, none⟩ = some (.int .u64 (word s 3 : Int)) := by
  simp [World.cell?, show w.heap[B]? = _ from h, setC]
theorem SetAt.free {w : World} {B : Nat} {s : CSet} (h : SetAt w B s) :
    w.frozen? ⟨B, 0, none⟩ = false ∧ w.frozen? ⟨B, 1, none⟩ = false ∧ w.frozen? ⟨B, 2, none⟩ = false ∧ w.frozen? ⟨B, 3, none⟩ = false := by
  simp [World.frozen?, show w.heap[B]? = _ from h]
theorem SetAt.below {w w' : World} {B N : Nat} {s : CSet} (h : SetAt w B s) (hb : Below N w w') (hN : B < N) : SetAt w' B s := (hb.block B hN).trans h
theorem SetAt.new (w : World) (s : CSet) : SetAt (w.alloc (.cells (setC s) 68)) w.heap.size s := heap_alloc_new w _
theorem SetAt.alloc {w : World} {B : Nat} {s : CSet} (h : SetAt w B s) (o : Obj) : SetAt (w.alloc o) B s := (Below.heap_alloc w o B h.lt).trans h

/-- a set stored over another one -/
def putSet (w : World) (B : Nat) (s : CSet) : World :=
  (((w.setCell ⟨B, 0, none⟩ (.int .u64 (word s 0 : Int))).setCell ⟨B, 1, none⟩ (.int .u64 (word s 1 : Int))).setCell ⟨B, 2, none⟩ (.int .u64 (word s 2 : Int))).setCell ⟨B, 3, none⟩ (.int .u64 (word s 3 : Int))
theorem SetAt.put {w : World} {B : Nat} {s : CSet} (h : SetAt w B s) (s' : CSet) : SetAt (putSet w B s') B s' := by
  unfold SetAt putSet
  rw [heap_setCell_at _ (heap_setCell_at _ (heap_setCell_at _ (heap_setCell_at _ h)))]
  rfl
theorem SetAt.other {w : World} {B B' : Nat} {s : CSet} (h : SetAt w B s) (hB : B ≠ B') (s' : CSet) : SetAt (putSet w B' s') B s := by
  unfold SetAt putSet
  rw [Below.heap_setCell _ _ _ _ hB, Below.heap_setCell _ _ _ _ hB, Below.heap_setCell _ _ _ _ hB, Below.heap_setCell _ _ _ _ hB]
  exact h
theorem below_put {N B : Nat} {a w : World} (h : Below N a w) (hN : N ≤ B) (s : CSet) : Below N a (putSet w B s) :=
  (((h.setCell (p := ⟨B, 0, none⟩) hN _).setCell (p := ⟨B, 1, none⟩) hN _).setCell (p := ⟨B, 2, none⟩) hN _).setCell (p := ⟨B, 3, none⟩) hN _

theorem setC_zero : setC 0#256 = #[.int .u64 0, .int .u64 0, .int .u64 0, .int .u64 0] := rfl
theorem SetAt.zero (w : World) : SetAt (w.alloc (.cells #[.int .u64 0, .int .u64 0, .int .u64 0, .int .u64 0] 68)) w.heap.size 0#256 := SetAt.new w 0#256

theorem SetAt.after {W w w' : World} {B N : Nat} {s : CSet} (h : SetAt W B s) (hb : Below N w w') (hN : B < N) (e : W.heap = w.heap := by rfl) : SetAt w' B s :=
  SetAt.below (w := w) (by unfold SetAt; rw [← e]; exact h) hb hN

end Go.Proofs.Ytafdaiidnphbaaa

/- Layer 3's reference: Of. -/
namespace Go.Proofs.Ytafdaiidnphbaaa
open Go.RowKit

theorem Row.byteAt {w : World} {v : Value} {l : List UInt8} (h : Row w 1 v l.length (bcells l)) {k : Nat} (hk : k < l.length) :
    ∃ g o cap, v = .slice (some ⟨g, o, none⟩) l.length cap ∧ g < w.heap.size ∧ w.cell? ⟨g, o + k, none⟩ = some (.int .u8 (l[k].toNat : Int)) := by
  obtain ⟨_, _, a, cap, rfl, _, h2⟩ := h
  rcases h2 with h0 | ⟨g, o, rfl, hc⟩
  · omega
  · have e := hc k (by omega)
    have e2 : (bcells l)[k]? = some (.int .u8 (l[k].toNat : Int)) := by
      unfold bcells; rw [List.getElem?_map, List.getElem?_eq_getElem hk]; rfl
    exact ⟨g, o, cap, rfl, World.block_lt_of_cell? w _ (e.trans e2), e.trans e2⟩
theorem ofL_take {l : List UInt8} {k : Nat} (hk : k < l.length) : ofL (l.take (k + 1)) = ofL (l.take k) ||| bit l[k].toNat := by
  rw [List.take_succ_eq_append_getElem hk, ofL_snoc]

set_option maxRecDepth 100000 in
set_option maxHeartbeats 1000000 in
theorem of_r (v : Value) (l : List UInt8) (w : World) (h : Row w 1 v l.length (bcells l)) :
    Calls Try.prog 72 #[v] w fun e w' => e = .returned (setV (ofL l)) ∧ Below w.heap.size w w' := by
  obtain ⟨a, cap, hv⟩ : ∃ a cap, v = .slice a l.length cap := by obtain ⟨_, _, a, cap, e, _⟩ := h; exact ⟨a, cap, e⟩
  have hmax : l.length ≤ maxLen := h.2.1
  unfold maxLen at hmax
  have HR := Lib.hid h
  have HV := Lib.hid hv
  have a0 := (SetAt.zero w).alloc (.cells #[.int .u64 0, .int .u64 0, .int .u64 0, .int .u64 0] 68)
  have a1 := SetAt.zero (w.alloc (.cells #[.int .u64 0, .int .u64 0, .int .u64 0, .int .u64 0] 68))
  rw [World.size_alloc] at a1
  have hB0 : Below w.heap.size w ((w.alloc (.cells #[.int .u64 0, .int .u64 0, .int .u64 0, .int .u64 0] 68)).alloc (.cells #[.int .u64 0, .int .u64 0, .int .u64 0, .int .u64 0] 68)) := ((Below.refl _ _).alloc (Nat.le_refl _) _).alloc (by simp) _
  have A0 := Lib.hid a0
  have A1 := Lib.hid a1
  have HB0 := Lib.hid hB0
  subst hv
  clear a0 a1 hB0 h
  go_enter Try.func72, Try.ntmps72
  go_wp2_with fail
  go_loopw [4] (fun iv wr => ∃ k : Nat, k ≤ l.length ∧ iv = .int .i64 (k : Nat) ∧ SetAt wr w.heap.size 0#256 ∧ SetAt wr (w.heap.size + 1) (ofL (l.take k)) ∧ Below w.heap.size w wr) (fun iv _ => l.length - (intOf iv).toNat)
  case atStart => exact ⟨0, by omega, rfl, A0.out, A1.out, HB0.out⟩
  case round =>
    obtain ⟨k, hk, rfl, h0, h1, hB⟩ := hrel
    by_cases hlt : k < l.length
    · obtain ⟨g, o, cap', hv', hg, hcell⟩ := Row.byteAt HR.out hlt
      cases hv'
      have hcell' := (hB.cell (p := ⟨g, o + k, none⟩) hg).trans hcell
      have i1 : (0 : Int) ≤ (k : Int) := by omega
      have i2 : (k : Int) < (l.length : Int) := by omega
      have hlb : l[k].toNat < 256 := l[k].toNat_lt
      have l1 := h1.lt
      have l0 := h0.lt
      obtain ⟨c0, c1, c2, c3⟩ := h1.cells
      have hz := hB.size
      have HOF := Lib.hid (ofL_take hlt)
      generalize l[k] = x at *
      clear hcell
      go_wp2_with fail
      go_region_with (first
        | (go_at_call 88; refine (add_r (ofL (l.take k)) x.toNat hlb _).mono ?_; rintro e w2 ⟨rfl, hb2⟩; rw [← HOF.out]; unfold setV setC; have k1 := h1.after hb2 l1; have k0 := h0.after hb2 l0; obtain ⟨f0, f1, f2, f3⟩ := k1.free; obtain ⟨d0, d1, d2, d3⟩ := k1.cells; have HB2 := Lib.hid (next hB.drew hb2); clear hb2))
      all_goals
        clear f0 f1 f2 f3 d0 d1 d2 d3 c0 c1 c2 c3
        go_wp2_with fail
        refine ⟨⟨k + 1, by omega, by go_num, k0.other (by omega) _, k1.put _, below_put HB2.out (by omega) _⟩, by simp [intOf]; omega⟩
    · obtain rfl : l.length = k := by omega
      rw [List.take_length] at h1
      obtain ⟨c0, c1, c2, c3⟩ := h1.cells
      obtain ⟨d0, d1, d2, d3⟩ := h0.cells
      obtain ⟨f0, f1, f2, f3⟩ := h0.free
      go_wp2_with fail
      obtain ⟨q0, q1, q2, q3⟩ := (h0.put (ofL l)).cells
      show bodyPost _ _ _ _ _ (putSet wr w.heap.size (ofL l))
      exact bodyPost_ret (v := .agg #[.int .u64 _, .int .u64 _, .int .u64 _, .int .u64 _]) (by simp [results, Try.results72, go_sem, q0, q1, q2, q3]) rfl ⟨rfl, below_put hB (Nat.le_refl _) _⟩

end Go.Proofs.Ytafdaiidnphbaaa

/- The examples: bytes, a set, hits. -/
namespace Go.Proofs.Ytafdaiidnphbaaa
open Go.RowKit Go.Sort

theorem hits_p (w : World) : Calls Try.prog 35 #[] w fun e w' => e = .returned (.slice (some ⟨w.heap.size, 0, none⟩) 3 3) ∧ w' = w.alloc (.cells #[.int .i64 3, .int .i64 0, .int .i64 3, .int .i64 1, .int .i64 5, .int .i64 1] 38) := by
  go_enter Try.func35, Try.ntmps35
  go_wp2_with fail
  go_ret
  exact ⟨rfl, rfl⟩
theorem ElAt.free {w : World} {B : Nat} {x : El} (h : ElAt w B x) (i : Nat) : w.frozen? ⟨B, i, none⟩ = false := free_in h
theorem ElAt.below {w w' : World} {B N : Nat} {x : El} (h : ElAt w B x) (hb : Below N w w') (hN : B < N) : ElAt w' B x := (hb.block B hN).trans h
theorem ElAt.alloc {w : World} {B : Nat} {x : El} (h : ElAt w B x) (o : Obj) : ElAt (w.alloc o) B x := (Below.heap_alloc w o B h.lt).trans h
def zeroEl : El := ⟨false, 0#256, 0, 0⟩
abbrev zcell : Array Value := #[.bool false, .int .u64 0, .int .u64 0, .int .u64 0, .int .u64 0, .int .i64 0, .int .i64 0]
theorem zcell_eq : (pcell zeroEl).toArray = zcell := by
  have h0 : word 0#256 0 = 0 := by decide
  have h1 : word 0#256 1 = 0 := by decide
  have h2 : word 0#256 2 = 0 := by decide
  have h3 : word 0#256 3 = 0 := by decide
  simp [pcell, zeroEl, h0, h1, h2, h3]
theorem ElAt.zero (w : World) : ElAt (w.alloc (.cells zcell 70)) w.heap.size zeroEl := by
  unfold ElAt; rw [zcell_eq]; exact heap_alloc_new w _
def putEl (w : World) (B : Nat) (x : El) : World :=
  ((((((w.setCell ⟨B, 0, none⟩ (.bool x.gap)).setCell ⟨B, 1, none⟩ (.int .u64 (word x.cls 0 : Int))).setCell ⟨B, 2, none⟩ (.int .u64 (word x.cls 1 : Int))).setCell ⟨B, 3, none⟩ (.int .u64 (word x.cls 2 : Int))).setCell ⟨B, 4, none⟩ (.int .u64 (word x.cls 3 : Int))).setCell ⟨B, 5, none⟩ (.int .i64 x.low)).setCell ⟨B, 6, none⟩ (.int .i64 x.high)
theorem ElAt.put {w : World} {B : Nat} {x : El} (h : ElAt w B x) (y : El) : ElAt (putEl w B y) B y := by
  unfold ElAt putEl
  rw [heap_setCell_at _ (heap_setCell_at _ (heap_setCell_at _ (heap_setCell_at _ (heap_setCell_at _ (heap_setCell_at _ (heap_setCell_at _ h))))))]
  rfl
theorem below_putEl {N B : Nat} {a w : World} (h : Below N a w) (hN : N ≤ B) (x : El) : Below N a (putEl w B x) :=
  ((((((h.setCell (p := ⟨B, 0, none⟩) hN _).setCell (p := ⟨B, 1, none⟩) hN _).setCell (p := ⟨B, 2, none⟩) hN _).setCell (p := ⟨B, 3, none⟩) hN _).setCell (p := ⟨B, 4, none⟩) hN _).setCell (p := ⟨B, 5, none⟩) hN _).setCell (p := ⟨B, 6, none⟩) hN _
def byteV (b : UInt8) : El := ⟨false, ofL [b], 0, 0⟩
set_option maxRecDepth 100000 in
set_option maxHeartbeats 4000000 in
theorem byteOf_p (b : UInt8) (w : World) : Calls Try.prog 57 #[.int .u8 (b.toNat : Int)] w fun e w' => e = .returned (elV (byteV b)) ∧ Below w.heap.size w w' := by
  have hr : Row ((w.alloc (.cells zcell 70)).alloc (.cells #[.int .u8 (b.toNat : Int)] 5)) 1 (.slice (some ⟨w.heap.size + 1, 0, none⟩) 1 1) 1 (bcells [b]) := by
    have := Row.lit (w.alloc (.cells zcell 70)) 5 1 1 (bcells [b]) (by simp [bcells]) (by unfold maxLen; omega)
    rw [World.size_alloc] at this
    exact this
  have K := Lib.hid (of_r _ [b] _ hr)
  have hz := (ElAt.zero w).alloc (.cells #[.int .u8 (b.toNat : Int)] 5)
  have HZ := Lib.hid hz
  have hb0 : Below w.heap.size w ((w.alloc (.cells zcell 70)).alloc (.cells #[.int .u8 (b.toNat : Int)] 5)) := ((Below.refl _ _).alloc (Nat.le_refl _) _).alloc (by simp) _
  have HB0 := Lib.hid hb0
  clear hr hz hb0
  go_enter Try.func57, Try.ntmps57
  go_wp2_with fail
  refine K.out.mono ?_
  rintro e w1 ⟨rfl, hb1⟩
  have h1 := HZ.out.below hb1 (by simp; omega)
  obtain ⟨c0, c1, c2, c3, c4, c5, c6⟩ := h1.cells
  have f0 := h1.free 0
  have f1 := h1.free 1
  have f2 := h1.free 2
  have f3 := h1.free 3
  have f4 := h1.free 4
  have f5 := h1.free 5
  have f6 := h1.free 6
  have HB1 := Lib.hid (next HB0.out hb1)
  have H1 := Lib.hid h1
  clear hb1 h1
  unfold setV setC
  go_wp2_with fail
  obtain ⟨q0, q1, q2, q3, q4, q5, q6⟩ := (H1.out.put (byteV b)).cells
  show bodyPost _ _ _ _ _ (putEl w1 w.heap.size (byteV b))
  exact bodyPost_ret (v := elV (byteV b)) (by unfold elV; simp [results, Try.results57, go_sem, q0, q1, q2, q3, q4, q5, q6]) rfl ⟨rfl, below_putEl HB1.out (Nat.le_refl _) _⟩
/-- the set of the examples -/
def gapE : El := ⟨true, 0#256, 0, 2⟩
def exSet : List (List El) := [[byteV 97, byteV 98], [byteV 97, gapE, byteV 98]]
abbrev gcellE : List Value := [.bool true, .int .u64 0, .int .u64 0, .int .u64 0, .int .u64 0, .int .i64 0, .int .i64 2]
theorem gcellE_eq : pcell gapE = gcellE := by
  have h0 : word 0#256 0 = 0 := by decide
  have h1 : word 0#256 1 = 0 := by decide
  have h2 : word 0#256 2 = 0 := by decide
  have h3 : word 0#256 3 = 0 := by decide
  simp [pcell, gapE, h0, h1, h2, h3]
set_option maxRecDepth 100000 in
set_option maxHeartbeats 4000000 in
theorem example_p (w : World) : Calls Try.prog 34 #[] w fun e w' => ∃ g, e = .returned (.slice (some ⟨g, 0, none⟩) 2 2) ∧ Sets w' (.slice (some ⟨g, 0, none⟩) 2 2) exSet ∧ Below w.heap.size w w' := by
  go_enter Try.func34, Try.ntmps34
  go_wp2_with fail
  refine (byteOf_p 97 _).mono ?_
  rintro e w1 ⟨rfl, hb1⟩
  have HB1 := Lib.hid hb1
  clear hb1
  unfold elV
  go_wp2_with fail
  refine (byteOf_p 98 _).mono ?_
  rintro e w2 ⟨rfl, hb2⟩
  have HB2 := Lib.hid (next HB1.out hb2)
  clear hb2
  unfold elV
  have hP1 : Pats (w2.alloc (.cells (pcells [byteV 97, byteV 98]).toArray 70)) (.slice (some ⟨w2.heap.size, 0, none⟩) 2 2) [byteV 97, byteV 98] := Row.lit w2 70 7 2 (pcells [byteV 97, byteV 98]) rfl (by unfold maxLen; omega)
  have HP1 := Lib.hid hP1
  have HB3 := Lib.hid (next HB2.out ((Below.refl _ _).alloc (Nat.le_refl _) (.cells (pcells [byteV 97, byteV 98]).toArray 70)))
  clear hP1
  go_wp2_with fail
  refine (byteOf_p 97 _).mono ?_
  rintro e w4 ⟨rfl, hb4⟩
  have HB4 := Lib.hid (next HB3.out (show Below (w2.alloc (.cells (pcells [byteV 97, byteV 98]).toArray 70)).heap.size (w2.alloc (.cells (pcells [byteV 97, byteV 98]).toArray 70)) w4 from hb4))
  have HP4 := Lib.hid (Row.below HP1.out (show Below (w2.alloc (.cells (pcells [byteV 97, byteV 98]).toArray 70)).heap.size (w2.alloc (.cells (pcells [byteV 97, byteV 98]).toArray 70)) w4 from hb4))
  clear hb4
  unfold elV
  go_wp2_with fail
  refine (byteOf_p 98 _).mono ?_
  rintro e w5 ⟨rfl, hb5⟩
  have HB5 := Lib.hid (next HB4.out hb5)
  have HP5 := Lib.hid (Row.below HP4.out hb5)
  clear hb5
  unfold elV
  have hal : Below w5.heap.size w5 (w5.alloc (.cells (pcells [byteV 97, gapE, byteV 98]).toArray 70)) := (Below.refl _ _).alloc (Nat.le_refl _) _
  have hP6 : Pats (w5.alloc (.cells (pcells [byteV 97, gapE, byteV 98]).toArray 70)) (.slice (some ⟨w5.heap.size, 0, none⟩) 3 3) [byteV 97, gapE, byteV 98] := Row.lit w5 70 7 3 (pcells [byteV 97, gapE, byteV 98]) rfl (by unfold maxLen; omega)
  have e6 : (pcells [byteV 97, gapE, byteV 98]).toArray = (pcell (byteV 97) ++ (gcellE ++ pcell (byteV 98))).toArray := by
    rw [← gcellE_eq]
    simp [pcells]
  have HB6 := Lib.hid (next HB5.out hal)
  have HP6a := Lib.hid (Row.below HP5.out hal)
  have HP6b := Lib.hid hP6
  rw [e6] at HB6 HP6a HP6b
  clear hP6 hal
  go_wp2_with fail
  go_ret
  have hal7 : ∀ W : World, Below W.heap.size W (W.alloc (.cells #[.slice (some ⟨w2.heap.size, 0, none⟩) 2 2, .slice (some ⟨w5.heap.size, 0, none⟩) 3 3] 22)) := fun W => (Below.refl _ _).alloc (Nat.le_refl _) _
  have h7 : ∀ W : World, Row (W.alloc (.cells #[.slice (some ⟨w2.heap.size, 0, none⟩) 2 2, .slice (some ⟨w5.heap.size, 0, none⟩) 3 3] 22)) 1 (.slice (some ⟨W.heap.size, 0, none⟩) 2 2) 2 [.slice (some ⟨w2.heap.size, 0, none⟩) 2 2, .slice (some ⟨w5.heap.size, 0, none⟩) 3 3] := fun W => Row.lit W 22 1 2 [.slice (some ⟨w2.heap.size, 0, none⟩) 2 2, .slice (some ⟨w5.heap.size, 0, none⟩) 3 3] rfl (by unfold maxLen; omega)
  have h8 := h7 (w5.alloc (.cells (pcell (byteV 97) ++ (gcellE ++ pcell (byteV 98))).toArray 70))
  rw [World.size_alloc] at h8
  refine ⟨_, rfl, ⟨_, rfl, h8, fun i hi hi' => ?_⟩, next HB6.out (hal7 _)⟩
  match i, hi, hi' with
  | 0, _, _ => exact Row.below HP6a.out (hal7 _)
  | 1, _, _ => exact Row.below HP6b.out (hal7 _)
  | i + 2, hi, _ => exact absurd hi (by simp [exSet])
end Go.Proofs.Ytafdaiidnphbaaa

/- The values of the examples. -/
namespace Go.Proofs.Ytafdaiidnphbaaa
open Go.RowKit Go.Sort Go.Lib

abbrev awB : List UInt8 := [97, 97, 98, 120, 98]
abbrev awH : List Hit := [(3, 0), (3, 1), (5, 1)]
theorem aw_allE : allE exSet awB = 0 := by decide +kernel
theorem aw_ref : refTo exSet awB 5 = awH := by decide +kernel
theorem aw_all : allV exSet awB = awH := by
  rw [allV_eq]
  unfold allR
  rw [if_pos aw_allE]
  exact aw_ref
theorem aw_withE : withE exSet awB 3 5 = 0 := by
  unfold withE
  rw [aw_allE]
  decide +kernel
theorem aw_with : withL exSet awB 3 5 = [(5, 1)] := by
  unfold withL
  rw [if_pos aw_withE, aw_all]
  decide +kernel
theorem aw_startE : startE [byteV 97, gapE, byteV 98] awB 3 = 0 := by decide +kernel
theorem aw_start : startL [byteV 97, gapE, byteV 98] awB 3 = [0, 1] := by decide +kernel
theorem aw_first : hfirstE awH 2 = 0 ∧ hfirstL awH 2 = [(3, 0), (3, 1)] ∧ hfirstD awH 2 = 1 := by decide +kernel
theorem aw_mergeE : mergeE [(3, 0), (5, 1)] [(3, 1), (5, 1)] = 0 := by decide +kernel
theorem aw_merge : mergeL [(3, 0), (5, 1)] [(3, 1), (5, 1)] = awH := by
  have e1 : mergeH [((3 : Int), (0 : Int)), (5, 1)] [(3, 1), (5, 1)] = (3, 0) :: mergeH [(5, 1)] [(3, 1), (5, 1)] := mergeH_x (.inr ⟨rfl, by decide⟩)
  have e2 : mergeH [((5 : Int), (1 : Int))] [(3, 1), (5, 1)] = (3, 1) :: mergeH [(5, 1)] [(5, 1)] := mergeH_y (.inl (by decide))
  have e3 : mergeH [((5 : Int), (1 : Int))] [(5, 1)] = (5, 1) :: mergeH [] [] := mergeH_z (HLt.irrefl _) (HLt.irrefl _)
  have e4 : mergeH [] [] = [] := by simp [mergeH]
  unfold mergeL
  rw [if_pos aw_mergeE, e1, e2, e3, e4]
theorem aw_shift : shiftE awH (-3) = 7 := by decide +kernel
end Go.Proofs.Ytafdaiidnphbaaa
