/- classes.Print. -/
import Derived.Test.YtooiegejchcbhaaDoorKWrite
import Derived.Test.YtooiegejchcbhaaDoorKRunsP
namespace Go.Proofs.YtooiegejchcbhaaDoor
open Go.RowKit

def itemT (x : Pr) : List UInt8 := textB x.1 ++ (if 1 < x.2 - x.1 then [45] else []) ++ (if x.2 ≠ x.1 then textB x.2 else [])
def itemsT (l : List Pr) : List UInt8 := l.flatMap itemT
theorem itemsT_snoc (l : List Pr) (x : Pr) : itemsT (l ++ [x]) = itemsT l ++ itemT x := by unfold itemsT; simp
theorem itemT_len (x : Pr) : (itemT x).length ≤ 9 := by
  unfold itemT
  have h1 := textB_len x.1
  have h2 := textB_len x.2
  rw [List.length_append, List.length_append]
  split <;> split <;> simp <;> omega
theorem itemsT_len : ∀ l : List Pr, (itemsT l).length ≤ 9 * l.length
  | [] => by simp [itemsT]
  | x :: t => by
    have := itemsT_len t
    have h := itemT_len x
    have e : itemsT (x :: t) = itemT x ++ itemsT t := rfl
    rw [e, List.length_append, List.length_cons]
    omega
def printV (s : CSet) : List UInt8 := if 128 < cntB s 256 then [91, 94] ++ itemsT (runsS (~~~s)) ++ [93] else [91] ++ itemsT (runsS s) ++ [93]
theorem runs_ok (s : CSet) : ∀ x ∈ runsS s, x.1 ≤ x.2 ∧ x.2 < 256 := by
  have key : ∀ (l : List Nat) (acc : List Pr), (∀ b ∈ l, b < 256) → (∀ x ∈ acc, x.1 ≤ x.2 ∧ x.2 < 256) → ∀ x ∈ l.foldl stepR acc, x.1 ≤ x.2 ∧ x.2 < 256 := by
    intro l
    induction l with
    | nil => intro acc _ h; exact h
    | cons b t ih =>
      intro acc hl h
      rw [List.foldl_cons]
      have hb := hl b (List.mem_cons_self ..)
      refine ih _ (fun c hc => hl c (List.mem_cons_of_mem _ hc)) ?_
      rcases List.eq_nil_or_concat acc with rfl | ⟨A, ⟨x, y⟩, rfl⟩
      · intro z hz
        rw [step_nil] at hz
        simp at hz
        subst hz
        exact ⟨Nat.le_refl _, hb⟩
      · rw [List.concat_eq_append] at h ⊢
        have hxy := h (x, y) (by simp)
        simp only at hxy
        by_cases e : y + 1 = b
        · rw [step_join A x y b e]
          intro z hz
          rcases List.mem_append.1 hz with hz | hz
          · exact h z (List.mem_append_left _ hz)
          · simp at hz; subst hz; exact ⟨by simp only; omega, hb⟩
        · rw [step_new A x y b e]
          intro z hz
          rcases List.mem_append.1 hz with hz | hz
          · exact h z hz
          · simp at hz; subst hz; exact ⟨Nat.le_refl _, hb⟩
  refine key _ [] (fun b hb => ?_) (fun x hx => by simp at hx)
  exact List.mem_range.1 (List.mem_filter.1 hb).1

theorem Bld.block {b : Nat} {bs : List Value} {w : World} (h : Bld b bs w) : ∃ cs, w.heap[b]? = some (.cells cs 51 (0, 0)) := by
  rcases h with ⟨_, v, hb, _⟩ | ⟨_, v, hb, _⟩ <;> exact ⟨_, hb⟩
theorem Bld.below {b : Nat} {bs : List Value} {w w' : World} (h : Bld b bs w) (hb : Below w.heap.size w w') : Bld b bs w' := by
  have key : ∀ p, Lib.BuilderAtF 51 5 b b p bs w → Lib.BuilderAtF 51 5 b b p bs w' := by
    rintro p ⟨h1, v, h2, h3, h4⟩
    refine ⟨h1, v, (hb.block b (Array.getElem?_eq_some_iff.1 h2).1).trans h2, ⟨h3.1, ?_⟩, h4⟩
    rcases h3.2 with h0 | ⟨g, cap, cur, fz, e, hg, hh, r⟩
    · exact .inl h0
    · exact .inr ⟨g, cap, cur, fz, e, hg, (hb.block g (Array.getElem?_eq_some_iff.1 hh).1).trans hh, r⟩
  rcases h with h | h
  · exact .inl (key _ h)
  · exact .inr (key _ h)
theorem row_others {w w' : World} {b base n : Nat} {bs : List Value} {v : Value} {xs : List Value} (h : w.ownsRow base 32 2 v n xs) (hb : Bld b bs w) (ho : Lib.OthersKept 5 (some b) w w') : w'.ownsRow base 32 2 v n xs := by
  obtain ⟨cs, hc⟩ := hb.block
  refine ⟨h.1, ?_⟩
  rcases h.2 with h0 | ⟨g, cap, cur, rfl, hg, hh, r⟩
  · exact .inl h0
  · refine .inr ⟨g, cap, cur, rfl, hg, ho g _ hh (fun e => ?_) (fun c fz e => ?_), r⟩
    · cases e
      rw [hh] at hc
      simp only [Option.some.injEq, Obj.cells.injEq] at hc
      exact absurd hc.2.1 (by decide)
    · simp only [Obj.cells.injEq] at e
      exact absurd e.2.1 (by decide)
def PairAt (w : World) (k x y : Nat) : Prop := w.heap[k]? = some (.cells #[.int .u8 (x : Int), .int .u8 (y : Int)] 32 (0, 0))
theorem PairAt.cells {w : World} {k x y : Nat} (h : PairAt w k x y) : w.cell? ⟨k, 0, none⟩ = some (.int .u8 (x : Int)) ∧ w.cell? ⟨k, 1, none⟩ = some (.int .u8 (y : Int)) := by
  simp [World.cell?, show w.heap[k]? = _ from h]
theorem PairAt.others {w w' : World} {b k x y : Nat} {bs : List Value} (h : PairAt w k x y) (hb : Bld b bs w) (ho : Lib.OthersKept 5 (some b) w w') : PairAt w' k x y := by
  obtain ⟨cs, hc⟩ := hb.block
  refine ho k _ h (fun e => ?_) (fun c fz e => ?_)
  · cases e
    rw [show w.heap[b]? = _ from h] at hc
    simp only [Option.some.injEq, Obj.cells.injEq] at hc
    exact absurd hc.2.1 (by decide)
  · simp only [Obj.cells.injEq] at e
    exact absurd e.2.1 (by decide)
theorem Bld.keptUp {b : Nat} {bs : List Value} {w w' : World} (h : Bld b bs w) (hk : ∀ k, b ≤ k → w'.heap[k]? = w.heap[k]?) : Bld b bs w' := by
  have key : ∀ p, Lib.BuilderAtF 51 5 b b p bs w → Lib.BuilderAtF 51 5 b b p bs w' := by
    rintro p ⟨h1, v, h2, h3, h4⟩
    refine ⟨h1, v, (hk b (Nat.le_refl _)).trans h2, ⟨h3.1, ?_⟩, h4⟩
    rcases h3.2 with h0 | ⟨g, cap, cur, fz, e, hg, hh, r⟩
    · exact .inl h0
    · exact .inr ⟨g, cap, cur, fz, e, hg, (hk g hg).trans hh, r⟩
  rcases h with h | h
  · exact .inl (key _ h)
  · exact .inr (key _ h)
theorem al (w : World) (o : Obj) : Below w.heap.size w (w.alloc o) := (Below.refl _ _).alloc (Nat.le_refl _) o

set_option maxRecDepth 100000 in
set_option maxHeartbeats 8000000 in
theorem print_p (s : CSet) (w : World) (hT : Tab w) : Calls Tryd.prog 10 #[setV s] w fun e w' => e = .returned (.string (str (printV s))) ∧ Below w.heap.size w w' := by
  have M1 := Lib.hid (fun w => count_p s w)
  have M2 := Lib.hid (fun w => not_p s w)
  have M3 := Lib.hid (fun s w h => runs_p s w h)
  have hb0 := Lib.IsBuilderF.of (Lib.fresh_isBuilder 51 5 (w.alloc (.cells (setC s) 24)))
  rw [World.size_alloc] at hb0
  have HB0 := Lib.hid (show Bld (w.heap.size + 1) (Lib.byteCells []) _ from hb0)
  have hs0 := (SetAt.new w s).alloc (.cells #[.pointer none, .slice none 0 0] 51)
  have HS0 := Lib.hid hs0
  have hbl : Below w.heap.size w ((w.alloc (.cells (setC s) 24)).alloc (.cells #[.pointer none, .slice none 0 0] 51)) := ((Below.refl _ _).alloc (Nat.le_refl _) _).alloc (by simp) _
  have HW0 := Lib.hid hbl
  have HT := Lib.hid hT
  have HPV : Hid (printV s = if 128 < cntB s 256 then [91, 94] ++ itemsT (runsS (~~~s)) ++ [93] else [91] ++ itemsT (runsS s) ++ [93]) := Lib.hid rfl
  have hcl := cntB_le s 256
  clear hb0 hs0 hbl hT
  unfold setV setC at *
  go_enter Tryd.func10, Tryd.ntmps10
  go_wp2_with fail
  refine (writeByte_p _ _ _ _ HB0.out (by simp [Lib.byteCells])).mono ?_
  rintro e w1 ⟨rfl, h1⟩
  have h11 := h1.1
  rw [show (Value.int .u8 91) = .int .u8 ((91 : Nat) : Int) from rfl, cellsB 91 (by decide)] at h11
  have HD := Lib.hid (show Bld (w.heap.size + 1) (Lib.byteCells [91]) w1 from h11)
  have HS := Lib.hid (show SetAt w1 w.heap.size s from (h1.2.1.block w.heap.size (by omega)).trans HS0.out)
  have HW := Lib.hid (HW0.out.trans (h1.2.1.mono (Nat.le_succ _)))
  obtain ⟨c0, c1, c2, c3⟩ := HS.out.cells
  clear h1 h11 HB0 HS0 HW0
  go_wp2_with fail
  refine (M1.out _).mono ?_
  rintro e w2 ⟨rfl, h2⟩
  replace HD := Lib.hid (HD.out.below h2)
  replace HS := Lib.hid (HS.out.below h2 HS.out.lt)
  replace HW := Lib.hid (next HW.out h2)
  clear h2 c0 c1 c2 c3
  obtain ⟨c0, c1, c2, c3⟩ := HS.out.cells
  by_cases hc : 128 < cntB s 256
  · have hcI : (128 : Int) < (cntB s 256 : Int) := by omega
    rw [if_pos hc] at HPV
    generalize cntB s 256 = cn at *
    clear hc hcl
    go_wp2_with fail
    refine (writeByte_p _ _ _ _ HD.out (by simp [Lib.byteCells])).mono ?_
    rintro e w3 ⟨rfl, h1⟩
    have h11 := h1.1
    rw [show (Value.int .u8 94) = .int .u8 ((94 : Nat) : Int) from rfl, cellsB 94 (by decide)] at h11
    replace HD := Lib.hid (show Bld (w.heap.size + 1) (Lib.byteCells [91, 94]) w3 from h11)
    replace HS := Lib.hid (show SetAt w3 w.heap.size s from (h1.2.1.block w.heap.size (by omega)).trans HS.out)
    replace HW := Lib.hid (HW.out.trans (h1.2.1.mono (Nat.le_succ _)))
    clear h1 h11 c0 c1 c2 c3
    obtain ⟨c0, c1, c2, c3⟩ := HS.out.cells
    go_wp2_with fail
    refine (M2.out _).mono ?_
    rintro e w4 ⟨rfl, h2⟩
    replace HD := Lib.hid (HD.out.below h2)
    replace HS := Lib.hid (HS.out.below h2 HS.out.lt)
    replace HW := Lib.hid (next HW.out h2)
    clear h2 c0 c1 c2 c3
    obtain ⟨d0, d1, d2, d3⟩ := HS.out.cells
    obtain ⟨f0, f1, f2, f3⟩ := HS.out.free
    go_wp2_with fail
    have hput := HS.out.put (~~~s)
    obtain ⟨q0, q1, q2, q3⟩ := hput.cells
    unfold putSet at hput q0 q1 q2 q3
    have HD5 := Lib.hid (Bld.keptUp (w' := putSet w4 w.heap.size (~~~s)) HD.out (fun k hk => by
      unfold putSet
      rw [heap_other _ (by omega), heap_other _ (by omega), heap_other _ (by omega), heap_other _ (by omega)]))
    have HW5 := Lib.hid (below_put HW.out (Nat.le_refl _) (~~~s))
    unfold putSet at HD5 HW5
    clear d0 d1 d2 d3 f0 f1 f2 f3 hput
    have HT5 := Lib.hid (HT.out.below HW5.out)
    generalize (((w4.setCell ⟨w.heap.size, 0, none⟩ (.int .u64 (word (~~~s) 0 : Int))).setCell ⟨w.heap.size, 1, none⟩ (.int .u64 (word (~~~s) 1 : Int))).setCell ⟨w.heap.size, 2, none⟩ (.int .u64 (word (~~~s) 2 : Int))).setCell ⟨w.heap.size, 3, none⟩ (.int .u64 (word (~~~s) 3 : Int)) = w5 at *
    clear HD HW HS
    refine (M3.out (~~~s) _ HT5.out).mono ?_
    rintro e w6 ⟨rv, rfl, hR, h2⟩
    have HD := Lib.hid (HD5.out.below h2)
    have HW := Lib.hid (next HW5.out h2)
    replace hR := ownsRow_base hR (Nat.zero_le _)
    clear h2 q0 q1 q2 q3 HD5 HW5 HT5
    obtain ⟨a14, c14, rfl⟩ := Row.form2 (Row.of_owns hR)
    have HR := Lib.hid hR
    have hrl := runs_len (itemsTo (~~~s) 256)
    have hml := items_le (~~~s) 256
    have hn256 : (runsS (~~~s)).length ≤ 256 := by unfold runsS; omega
    have HOK := Lib.hid (runs_ok (~~~s))
    clear hR hrl hml
    generalize runsS (~~~s) = L at *
    go_wp2_with fail
    go_loopw [16] (fun iv wr => ∃ i : Nat, i ≤ L.length ∧ iv = .int .i64 (i : Nat) ∧ Bld (w.heap.size + 1) (Lib.byteCells (([91, 94] : List UInt8) ++ itemsT (L.take i))) wr ∧ wr.ownsRow 0 32 2 (.slice a14 L.length c14) L.length (pcells L) ∧ Below w.heap.size w wr) (fun iv _ => L.length - (intOf iv).toNat)
    case atStart => exact ⟨0, by omega, rfl, by simpa [itemsT] using HD.out, HR.out, HW.out⟩
    case round =>
      clear HD HR HW
      obtain ⟨i, hi, rfl, hD, hR, hB⟩ := hrel
      have HD := Lib.hid hD
      have HR := Lib.hid hR
      have HW := Lib.hid hB
      have i0 : (0 : Int) ≤ (i : Int) := by omega
      have hlen := itemsT_len (L.take i)
      have hlt0 : (L.take i).length ≤ 256 := by rw [List.length_take]; omega
      have hlen2 : (([91, 94] : List UInt8) ++ itemsT (L.take i)).length ≤ 5000 := by rw [List.length_append]; simp; omega
      clear hD hB hlen
      by_cases hlt : i < L.length
      · have i1 : (i : Int) < (L.length : Int) := by omega
        obtain ⟨g, o, rfl, hg, c0, c1⟩ := Prs.at (l := L) (Row.of_owns hR) hlt
        obtain ⟨ok1, ok2⟩ := HOK.out L[i] (List.getElem_mem hlt)
        have HE := Lib.hid (show itemsT (L.take (i + 1)) = itemsT (L.take i) ++ itemT L[i] by rw [List.take_succ_eq_append_getElem hlt, itemsT_snoc])
        generalize L[i] = pr at *
        obtain ⟨x, y⟩ := pr
        simp only at ok1 ok2 c0 c1 HE
        have HX := Lib.hid (show itemT (x, y) = textB x ++ (if 1 < y - x then [45] else []) ++ (if y ≠ x then textB y else []) from rfl)
        generalize hpre : ([91, 94] : List UInt8) ++ itemsT (L.take i) = pre at *
        have HPRE := Lib.hid hpre
        clear hR hpre
        have y0 : (0 : Int) ≤ (y : Int) - (x : Int) := by omega
        have y1 : (y : Int) - (x : Int) ≤ 255 := by omega
        have hx256 : x < 256 := by omega
        have hal := al wr (.cells #[.int .u8 (x : Int), .int .u8 (y : Int)] 32)
        have HP0 := Lib.hid (show PairAt (wr.alloc (.cells #[.int .u8 (x : Int), .int .u8 (y : Int)] 32)) wr.heap.size x y from heap_alloc_new wr _)
        have HD0 := Lib.hid (HD.out.below hal)
        have HR0 := Lib.hid (ownsRow_below HR.out hal)
        have HW0 := Lib.hid (next HW.out hal)
        have hwz := HW.out.size
        have hbz : w.heap.size + 1 < wr.heap.size := HD.out.lt
        clear hal HD HR HW
        rcases (show y = x ∨ y = x + 1 ∨ x + 1 < y by omega) with hq | hq | hq
        · have t1 : ¬ (1 : Int) < (y : Int) - (x : Int) := by omega
          have t2 : ((y : Int) != (x : Int)) = false := by rw [hq]; simp
          have HT := Lib.hid (show itemT (x, y) = textB x by rw [HX.out, if_neg (by omega), if_neg (by omega)]; simp)
          clear hq HX
          go_wp2_with fail
          refine (write_p _ x hx256 pre _ HD0.out (by omega)).mono ?_
          rintro e w1 ⟨rfl, h1⟩
          have HD1 := Lib.hid h1.1
          have HR1 := Lib.hid (row_others HR0.out HD0.out h1.2.2)
          have HP1 := Lib.hid (HP0.out.others HD0.out h1.2.2)
          have HW1 := Lib.hid (HW0.out.trans (h1.2.1.mono (Nat.le_succ _)))
          obtain ⟨e10, e11⟩ := HP1.out.cells
          clear h1
          go_wp2_with fail
          exact ⟨⟨i + 1, by omega, by go_num, by rw [HE.out, HT.out, ← List.append_assoc, HPRE.out]; exact HD1.out, HR1.out, HW1.out⟩, by simp [intOf]; omega⟩
        · have t1 : ¬ (1 : Int) < (y : Int) - (x : Int) := by omega
          have t2 : ((y : Int) != (x : Int)) = true := bne_iff_ne.2 (by omega)
          have HT := Lib.hid (show itemT (x, y) = textB x ++ textB y by rw [HX.out, if_neg (by omega), if_pos (by omega)]; simp)
          clear hq HX
          go_wp2_with fail
          refine (write_p _ x hx256 pre _ HD0.out (by omega)).mono ?_
          rintro e w1 ⟨rfl, h1⟩
          have HD1 := Lib.hid h1.1
          have HR1 := Lib.hid (row_others HR0.out HD0.out h1.2.2)
          have HP1 := Lib.hid (HP0.out.others HD0.out h1.2.2)
          have HW1 := Lib.hid (HW0.out.trans (h1.2.1.mono (Nat.le_succ _)))
          obtain ⟨e10, e11⟩ := HP1.out.cells
          clear h1
          go_wp2_with fail
          refine (write_p _ y ok2 (pre ++ textB x) _ HD1.out (by have := textB_len x; rw [List.length_append]; omega)).mono ?_
          clear e10 e11
          rintro e w2 ⟨rfl, h2⟩
          have HD2 := Lib.hid h2.1
          have HR2 := Lib.hid (row_others HR1.out HD1.out h2.2.2)
          have HP2 := Lib.hid (HP1.out.others HD1.out h2.2.2)
          have HW2 := Lib.hid (HW1.out.trans (h2.2.1.mono (Nat.le_succ _)))
          obtain ⟨e20, e21⟩ := HP2.out.cells
          clear h2
          go_wp2_with fail
          exact ⟨⟨i + 1, by omega, by go_num, by rw [HE.out, HT.out, ← List.append_assoc, HPRE.out, ← List.append_assoc]; exact HD2.out, HR2.out, HW2.out⟩, by simp [intOf]; omega⟩
        · have t1 : (1 : Int) < (y : Int) - (x : Int) := by omega
          have t2 : ((y : Int) != (x : Int)) = true := bne_iff_ne.2 (by omega)
          have HT := Lib.hid (show itemT (x, y) = textB x ++ [45] ++ textB y by rw [HX.out, if_pos (by omega), if_pos (by omega)])
          clear hq HX
          go_wp2_with fail
          refine (write_p _ x hx256 pre _ HD0.out (by omega)).mono ?_
          rintro e w1 ⟨rfl, h1⟩
          have HD1 := Lib.hid h1.1
          have HR1 := Lib.hid (row_others HR0.out HD0.out h1.2.2)
          have HP1 := Lib.hid (HP0.out.others HD0.out h1.2.2)
          have HW1 := Lib.hid (HW0.out.trans (h1.2.1.mono (Nat.le_succ _)))
          obtain ⟨e10, e11⟩ := HP1.out.cells
          clear h1
          go_wp2_with fail
          refine (writeByte_p _ _ _ _ HD1.out (by rw [Lib.byteCells_length]; have := textB_len x; rw [List.length_append]; omega)).mono ?_
          clear e10 e11
          rintro e w3 ⟨rfl, h3⟩
          have h31 := h3.1
          rw [show (Value.int .u8 45) = .int .u8 ((45 : Nat) : Int) from rfl, cellsB 45 (by decide)] at h31
          have HD3 := Lib.hid (show Bld (w.heap.size + 1) (Lib.byteCells (pre ++ textB x ++ [45])) w3 from h31)
          have HR3 := Lib.hid (row_others HR1.out HD1.out h3.2.2)
          have HP3 := Lib.hid (HP1.out.others HD1.out h3.2.2)
          have HW3 := Lib.hid (HW1.out.trans (h3.2.1.mono (Nat.le_succ _)))
          obtain ⟨e30, e31⟩ := HP3.out.cells
          clear h3 h31
          go_wp2_with fail
          refine (write_p _ y ok2 (pre ++ textB x ++ [45]) _ HD3.out (by have := textB_len x; simp; omega)).mono ?_
          clear e30 e31
          rintro e w2 ⟨rfl, h2⟩
          have HD2 := Lib.hid h2.1
          have HR2 := Lib.hid (row_others HR3.out HD3.out h2.2.2)
          have HP2 := Lib.hid (HP3.out.others HD3.out h2.2.2)
          have HW2 := Lib.hid (HW3.out.trans (h2.2.1.mono (Nat.le_succ _)))
          obtain ⟨e20, e21⟩ := HP2.out.cells
          clear h2
          go_wp2_with fail
          exact ⟨⟨i + 1, by omega, by go_num, by rw [HE.out, HT.out, ← List.append_assoc, HPRE.out, ← List.append_assoc, ← List.append_assoc]; exact HD2.out, HR2.out, HW2.out⟩, by simp [intOf]; omega⟩
      · obtain rfl : i = L.length := by omega
        have i1 : ¬ (L.length : Int) < (L.length : Int) := by omega
        rw [List.take_length] at HD hlen2
        clear hR
        go_wp2_with fail
        refine (writeByte_p _ _ _ _ HD.out (by rw [Lib.byteCells_length]; omega)).mono ?_
        rintro e w8 ⟨rfl, h8⟩
        have h81 := h8.1
        rw [show (Value.int .u8 93) = .int .u8 ((93 : Nat) : Int) from rfl, cellsB 93 (by decide)] at h81
        have H8 := Lib.hid h81
        have HW8 := Lib.hid (HW.out.trans (h8.2.1.mono (Nat.le_succ _)))
        clear h8 h81
        go_wp2_with fail
        refine (string_p _ _ _ H8.out (by simp)).mono ?_
        rintro e w9 ⟨rfl, h9⟩
        have HW9 := Lib.hid (HW8.out.trans (h9.mono (Nat.le_succ _)))
        clear h9
        go_wp2_with fail
        go_ret
        exact ⟨by rw [HPV.out]; rfl, HW9.out⟩
  · have hcI : ¬ (128 : Int) < (cntB s 256 : Int) := by omega
    rw [if_neg hc] at HPV
    generalize cntB s 256 = cn at *
    clear hc hcl
    go_wp2_with fail
    refine (M3.out s _ (HT.out.below HW.out)).mono ?_
    rintro e w3 ⟨rv, rfl, hR, h2⟩
    replace HD := Lib.hid (HD.out.below h2)
    replace HW := Lib.hid (next HW.out h2)
    replace hR := ownsRow_base hR (Nat.zero_le _)
    clear h2 c0 c1 c2 c3
    obtain ⟨a14, c14, rfl⟩ := Row.form2 (Row.of_owns hR)
    have HR := Lib.hid hR
    have hrl := runs_len (itemsTo s 256)
    have hml := items_le s 256
    have hn256 : (runsS s).length ≤ 256 := by unfold runsS; omega
    have HOK := Lib.hid (runs_ok s)
    clear hR hrl hml
    generalize runsS s = L at *
    go_wp2_with fail
    go_loopw [16] (fun iv wr => ∃ i : Nat, i ≤ L.length ∧ iv = .int .i64 (i : Nat) ∧ Bld (w.heap.size + 1) (Lib.byteCells (([91] : List UInt8) ++ itemsT (L.take i))) wr ∧ wr.ownsRow 0 32 2 (.slice a14 L.length c14) L.length (pcells L) ∧ Below w.heap.size w wr) (fun iv _ => L.length - (intOf iv).toNat)
    case atStart => exact ⟨0, by omega, rfl, by simpa [itemsT] using HD.out, HR.out, HW.out⟩
    case round =>
      clear HD HR HW
      obtain ⟨i, hi, rfl, hD, hR, hB⟩ := hrel
      have HD := Lib.hid hD
      have HR := Lib.hid hR
      have HW := Lib.hid hB
      have i0 : (0 : Int) ≤ (i : Int) := by omega
      have hlen := itemsT_len (L.take i)
      have hlt0 : (L.take i).length ≤ 256 := by rw [List.length_take]; omega
      have hlen2 : (([91] : List UInt8) ++ itemsT (L.take i)).length ≤ 5000 := by rw [List.length_append]; simp; omega
      clear hD hB hlen
      by_cases hlt : i < L.length
      · have i1 : (i : Int) < (L.length : Int) := by omega
        obtain ⟨g, o, rfl, hg, c0, c1⟩ := Prs.at (l := L) (Row.of_owns hR) hlt
        obtain ⟨ok1, ok2⟩ := HOK.out L[i] (List.getElem_mem hlt)
        have HE := Lib.hid (show itemsT (L.take (i + 1)) = itemsT (L.take i) ++ itemT L[i] by rw [List.take_succ_eq_append_getElem hlt, itemsT_snoc])
        generalize L[i] = pr at *
        obtain ⟨x, y⟩ := pr
        simp only at ok1 ok2 c0 c1 HE
        have HX := Lib.hid (show itemT (x, y) = textB x ++ (if 1 < y - x then [45] else []) ++ (if y ≠ x then textB y else []) from rfl)
        generalize hpre : ([91] : List UInt8) ++ itemsT (L.take i) = pre at *
        have HPRE := Lib.hid hpre
        clear hR hpre
        have y0 : (0 : Int) ≤ (y : Int) - (x : Int) := by omega
        have y1 : (y : Int) - (x : Int) ≤ 255 := by omega
        have hx256 : x < 256 := by omega
        have hal := al wr (.cells #[.int .u8 (x : Int), .int .u8 (y : Int)] 32)
        have HP0 := Lib.hid (show PairAt (wr.alloc (.cells #[.int .u8 (x : Int), .int .u8 (y : Int)] 32)) wr.heap.size x y from heap_alloc_new wr _)
        have HD0 := Lib.hid (HD.out.below hal)
        have HR0 := Lib.hid (ownsRow_below HR.out hal)
        have HW0 := Lib.hid (next HW.out hal)
        have hwz := HW.out.size
        have hbz : w.heap.size + 1 < wr.heap.size := HD.out.lt
        clear hal HD HR HW
        rcases (show y = x ∨ y = x + 1 ∨ x + 1 < y by omega) with hq | hq | hq
        · have t1 : ¬ (1 : Int) < (y : Int) - (x : Int) := by omega
          have t2 : ((y : Int) != (x : Int)) = false := by rw [hq]; simp
          have HT := Lib.hid (show itemT (x, y) = textB x by rw [HX.out, if_neg (by omega), if_neg (by omega)]; simp)
          clear hq HX
          go_wp2_with fail
          refine (write_p _ x hx256 pre _ HD0.out (by omega)).mono ?_
          rintro e w1 ⟨rfl, h1⟩
          have HD1 := Lib.hid h1.1
          have HR1 := Lib.hid (row_others HR0.out HD0.out h1.2.2)
          have HP1 := Lib.hid (HP0.out.others HD0.out h1.2.2)
          have HW1 := Lib.hid (HW0.out.trans (h1.2.1.mono (Nat.le_succ _)))
          obtain ⟨e10, e11⟩ := HP1.out.cells
          clear h1
          go_wp2_with fail
          exact ⟨⟨i + 1, by omega, by go_num, by rw [HE.out, HT.out, ← List.append_assoc, HPRE.out]; exact HD1.out, HR1.out, HW1.out⟩, by simp [intOf]; omega⟩
        · have t1 : ¬ (1 : Int) < (y : Int) - (x : Int) := by omega
          have t2 : ((y : Int) != (x : Int)) = true := bne_iff_ne.2 (by omega)
          have HT := Lib.hid (show itemT (x, y) = textB x ++ textB y by rw [HX.out, if_neg (by omega), if_pos (by omega)]; simp)
          clear hq HX
          go_wp2_with fail
          refine (write_p _ x hx256 pre _ HD0.out (by omega)).mono ?_
          rintro e w1 ⟨rfl, h1⟩
          have HD1 := Lib.hid h1.1
          have HR1 := Lib.hid (row_others HR0.out HD0.out h1.2.2)
          have HP1 := Lib.hid (HP0.out.others HD0.out h1.2.2)
          have HW1 := Lib.hid (HW0.out.trans (h1.2.1.mono (Nat.le_succ _)))
          obtain ⟨e10, e11⟩ := HP1.out.cells
          clear h1
          go_wp2_with fail
          refine (write_p _ y ok2 (pre ++ textB x) _ HD1.out (by have := textB_len x; rw [List.length_append]; omega)).mono ?_
          clear e10 e11
          rintro e w2 ⟨rfl, h2⟩
          have HD2 := Lib.hid h2.1
          have HR2 := Lib.hid (row_others HR1.out HD1.out h2.2.2)
          have HP2 := Lib.hid (HP1.out.others HD1.out h2.2.2)
          have HW2 := Lib.hid (HW1.out.trans (h2.2.1.mono (Nat.le_succ _)))
          obtain ⟨e20, e21⟩ := HP2.out.cells
          clear h2
          go_wp2_with fail
          exact ⟨⟨i + 1, by omega, by go_num, by rw [HE.out, HT.out, ← List.append_assoc, HPRE.out, ← List.append_assoc]; exact HD2.out, HR2.out, HW2.out⟩, by simp [intOf]; omega⟩
        · have t1 : (1 : Int) < (y : Int) - (x : Int) := by omega
          have t2 : ((y : Int) != (x : Int)) = true := bne_iff_ne.2 (by omega)
          have HT := Lib.hid (show itemT (x, y) = textB x ++ [45] ++ textB y by rw [HX.out, if_pos (by omega), if_pos (by omega)])
          clear hq HX
          go_wp2_with fail
          refine (write_p _ x hx256 pre _ HD0.out (by omega)).mono ?_
          rintro e w1 ⟨rfl, h1⟩
          have HD1 := Lib.hid h1.1
          have HR1 := Lib.hid (row_others HR0.out HD0.out h1.2.2)
          have HP1 := Lib.hid (HP0.out.others HD0.out h1.2.2)
          have HW1 := Lib.hid (HW0.out.trans (h1.2.1.mono (Nat.le_succ _)))
          obtain ⟨e10, e11⟩ := HP1.out.cells
          clear h1
          go_wp2_with fail
          refine (writeByte_p _ _ _ _ HD1.out (by rw [Lib.byteCells_length]; have := textB_len x; rw [List.length_append]; omega)).mono ?_
          clear e10 e11
          rintro e w3 ⟨rfl, h3⟩
          have h31 := h3.1
          rw [show (Value.int .u8 45) = .int .u8 ((45 : Nat) : Int) from rfl, cellsB 45 (by decide)] at h31
          have HD3 := Lib.hid (show Bld (w.heap.size + 1) (Lib.byteCells (pre ++ textB x ++ [45])) w3 from h31)
          have HR3 := Lib.hid (row_others HR1.out HD1.out h3.2.2)
          have HP3 := Lib.hid (HP1.out.others HD1.out h3.2.2)
          have HW3 := Lib.hid (HW1.out.trans (h3.2.1.mono (Nat.le_succ _)))
          obtain ⟨e30, e31⟩ := HP3.out.cells
          clear h3 h31
          go_wp2_with fail
          refine (write_p _ y ok2 (pre ++ textB x ++ [45]) _ HD3.out (by have := textB_len x; simp; omega)).mono ?_
          clear e30 e31
          rintro e w2 ⟨rfl, h2⟩
          have HD2 := Lib.hid h2.1
          have HR2 := Lib.hid (row_others HR3.out HD3.out h2.2.2)
          have HP2 := Lib.hid (HP3.out.others HD3.out h2.2.2)
          have HW2 := Lib.hid (HW3.out.trans (h2.2.1.mono (Nat.le_succ _)))
          obtain ⟨e20, e21⟩ := HP2.out.cells
          clear h2
          go_wp2_with fail
          exact ⟨⟨i + 1, by omega, by go_num, by rw [HE.out, HT.out, ← List.append_assoc, HPRE.out, ← List.append_assoc, ← List.append_assoc]; exact HD2.out, HR2.out, HW2.out⟩, by simp [intOf]; omega⟩
      · obtain rfl : i = L.length := by omega
        have i1 : ¬ (L.length : Int) < (L.length : Int) := by omega
        rw [List.take_length] at HD hlen2
        clear hR
        go_wp2_with fail
        refine (writeByte_p _ _ _ _ HD.out (by rw [Lib.byteCells_length]; omega)).mono ?_
        rintro e w8 ⟨rfl, h8⟩
        have h81 := h8.1
        rw [show (Value.int .u8 93) = .int .u8 ((93 : Nat) : Int) from rfl, cellsB 93 (by decide)] at h81
        have H8 := Lib.hid h81
        have HW8 := Lib.hid (HW.out.trans (h8.2.1.mono (Nat.le_succ _)))
        clear h8 h81
        go_wp2_with fail
        refine (string_p _ _ _ H8.out (by simp)).mono ?_
        rintro e w9 ⟨rfl, h9⟩
        have HW9 := Lib.hid (HW8.out.trans (h9.mono (Nat.le_succ _)))
        clear h9
        go_wp2_with fail
        go_ret
        exact ⟨by rw [HPV.out]; rfl, HW9.out⟩
end Go.Proofs.YtooiegejchcbhaaDoor
