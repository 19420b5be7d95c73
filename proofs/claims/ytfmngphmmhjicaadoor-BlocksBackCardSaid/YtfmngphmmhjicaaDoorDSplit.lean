/- Layer 27: Split of package blocks: the parts that it returns. -/
import Derived.Test.YtfmngphmmhjicaaDoorDNum
import Derived.Test.YtfmngphmmhjicaaDoorBlkCut
import Derived.Maps.AppendAt
namespace Go.Proofs.YtfmngphmmhjicaaDoor
open Go.RowKit Go.Shelf
attribute [local go_sem] Oper.semAt_some

/-- a part: its bytes, how many are real, how many bytes were before -/
abbrev Part := List UInt8 × Int × Int
def pcell (p : Part) : List Value := [.string (str p.1), .int .i64 p.2.1, .int .i64 p.2.2]
def pcells (l : List Part) : List Value := l.flatMap pcell
theorem pcells_snoc (l : List Part) (p : Part) : pcells (l ++ [p]) = pcells l ++ pcell p := by simp [pcells]
theorem length_pcells (l : List Part) : (pcells l).length = l.length * 3 := by
  induction l with
  | nil => rfl
  | cons p l ih => simp only [pcells, List.flatMap_cons, List.length_append] at ih ⊢; rw [ih]; simp [pcell]; omega

def mkParts (before : Int) : List (List UInt8 × Nat) → List Part
  | [] => []
  | x :: r => (x.1, (x.2 : Int), before) :: mkParts (before + x.2) r
def reals (l : List (List UInt8 × Nat)) : Nat := (l.map (·.2)).sum
theorem reals_snoc (l : List (List UInt8 × Nat)) (x : List UInt8 × Nat) : reals (l ++ [x]) = reals l + x.2 := by simp [reals]
theorem mkParts_snoc (before : Int) (l : List (List UInt8 × Nat)) (x : List UInt8 × Nat) : mkParts before (l ++ [x]) = mkParts before l ++ [(x.1, (x.2 : Int), before + reals l)] := by
  induction l generalizing before with
  | nil => simp [mkParts, reals]
  | cons y l ih => simp only [List.cons_append, mkParts, ih, reals, List.map_cons, List.sum_cons]; simp [Int.add_assoc]
theorem length_mkParts (before : Int) (l : List (List UInt8 × Nat)) : (mkParts before l).length = l.length := by
  induction l generalizing before with
  | nil => rfl
  | cons y l ih => simp [mkParts, ih]

/-- the error of Split -/
def splitE (len : Nat) (b before : Int) : Int := if lenE len b = 0 then (if before < 0 ∨ 1000000 < before then 7 else 0) else lenE len b
def parts (cs : List UInt8) (b before : Int) : List Part := if splitE cs.length b before = 0 then mkParts before (items cs b.toNat) else []

theorem infoPart : (Tryd.prog.info? 33).map (fun i => (i.zero, i.size, i.bytes)) = some (some (.agg #[.string .empty, .int .i64 0, .int .i64 0]), 3, 32) := by kernel_rfl

theorem splitE_zero {len : Nat} {b before : Int} (h : splitE len b before = 0) : lenE len b = 0 ∧ 0 ≤ before ∧ before ≤ 1000000 := by
  unfold splitE at h
  split at h
  · split at h
    · omega
    · exact ⟨by assumption, by omega, by omega⟩
  · exact absurd h (by assumption)

theorem split_p_bad (cs : List UInt8) (b before : Int) (w : World) (hlen : cs.length ≤ maxLen) (h : splitE cs.length b before ≠ 0) :
    Calls Tryd.prog 7 #[.string (str cs), .int .i64 b, .int .i64 before] w fun e w' =>
      e = .returned (.tuple #[.slice none 0 0, .int .i64 (splitE cs.length b before)]) ∧ Below w.heap.size w w' := by
  unfold maxLen at hlen
  have hc := length_p cs.length b
  have hsz : (str cs).size = cs.length := size_str cs
  by_cases h1 : lenE cs.length b = 0
  · have hb : before < 0 ∨ 1000000 < before := by
      unfold splitE at h; rw [if_pos h1] at h
      by_cases g : before < 0 ∨ 1000000 < before
      · exact g
      · rw [if_neg g] at h; exact absurd rfl h
    have e1 : splitE cs.length b before = 7 := by unfold splitE; rw [if_pos h1, if_pos hb]
    rw [e1]
    rw [h1] at hc
    clear h h1 e1
    rcases hb with hb | hb
    · go_enter Tryd.func7, Tryd.ntmps7
      go_wp2_with (go_at_call 15; refine (hc _).mono ?_; rintro e w' ⟨rfl, rfl⟩)
      go_ret2
      exact ⟨rfl, (Below.refl _ _).alloc (Nat.le_refl _) _⟩
    · have hb' : ¬ before < 0 := by omega
      go_enter Tryd.func7, Tryd.ntmps7
      go_wp2_with (go_at_call 15; refine (hc _).mono ?_; rintro e w' ⟨rfl, rfl⟩)
      go_ret2
      exact ⟨rfl, (Below.refl _ _).alloc (Nat.le_refl _) _⟩
  · have e1 : splitE cs.length b before = lenE cs.length b := by unfold splitE; rw [if_neg h1]
    rw [e1]
    clear h e1
    generalize lenE cs.length b = x at *
    have he : (x != 0) = true := bne_iff_ne.2 h1
    clear h1
    go_enter Tryd.func7, Tryd.ntmps7
    go_wp2_with (go_at_call 15; refine (hc _).mono ?_; rintro e w' ⟨rfl, rfl⟩)
    go_ret2
    exact ⟨rfl, (Below.refl _ _).alloc (Nat.le_refl _) _⟩

theorem items_le {cs : List UInt8} {b : Nat} (hb1 : 1 ≤ b) (hlen : cs.length ≤ 1000) : (items cs b).length ≤ 1000 := by
  simp only [items, List.length_map, List.length_range]
  have : (cs.length + b - 1) / b < 1000 + 1 := by
    rw [Nat.div_lt_iff_lt_mul (by omega)]
    have : 1 * b ≤ b * b := Nat.mul_le_mul_right b hb1
    omega
  omega
theorem items_real {cs : List UInt8} {b : Nat} : ∀ x ∈ items cs b, x.2 ≤ b := by
  intro x hx
  obtain ⟨k, _, rfl⟩ := List.mem_map.1 hx
  exact Nat.min_le_left _ _
theorem reals_le {b : Nat} (l : List (List UInt8 × Nat)) (h : ∀ x ∈ l, x.2 ≤ b) : reals l ≤ l.length * b := by
  induction l with
  | nil => simp [reals]
  | cons y l ih =>
    have h1 := h y (by simp)
    have h2 := ih fun x hx => h x (by simp [hx])
    simp only [reals, List.map_cons, List.sum_cons, List.length_cons, Nat.add_mul] at h2 ⊢
    omega

/-- between two rounds of Split's loop -/
def SpI (w : World) (before : Int) (pre : List (List UInt8 × Nat)) (W : World) : Prop :=
  Boxed W w.heap.size 2 (.int .i64 (before + reals pre)) ∧
  (∃ v, Boxed W (w.heap.size + 1) 22 v ∧ W.ownsRow (w.heap.size + 4) 33 3 v pre.length (pcells (mkParts before pre))) ∧ Below w.heap.size w W ∧ w.heap.size + 4 ≤ W.heap.size

theorem SpI.keep {w : World} {before : Int} {pre : List (List UInt8 × Nat)} {A A' : World} {r : Nat} (h : SpI w before pre A) (hg : A.grownBy A' (some r))
    (hr : r = w.heap.size + 2 ∨ (∃ o, A.heap[r]? = some o ∧ o.isCells = false) ∧ w.heap.size + 4 ≤ r) : SpI w before pre A' := by
  obtain ⟨h1, ⟨v, h2, h3⟩, h4, h5⟩ := h
  refine ⟨h1.kept hg (by simp; omega), ⟨v, h2.kept hg (by simp; omega), h3.kept hg ?_⟩, h4.grown hg h4.size (fun k e => by cases e; omega), Nat.le_trans h5 hg.size⟩
  rcases h3.2 with ⟨rfl, _⟩ | ⟨g, cap, cur, rfl, hb, hgb, _⟩
  · exact .inl rfl
  · refine .inr fun e => ?_
    obtain rfl : g = r := by simpa [Value.ownBlock] using e
    rcases hr with hr | ⟨⟨o, ho, hc⟩, _⟩
    · omega
    · rw [hgb] at ho; cases ho; cases hc

theorem SpI.step {w W w1 : World} {before : Int} {pre : List (List UInt8 × Nat)} {x : List UInt8 × Nat} {v v' : Value} {tmp : Obj}
    (hb : Boxed W w.heap.size 2 (.int .i64 (before + reals pre))) (hv : Boxed W (w.heap.size + 1) 22 v)
    (hrow : W.ownsRow (w.heap.size + 4) 33 3 v pre.length (pcells (mkParts before pre))) (hB : Below w.heap.size w W) (hs : w.heap.size + 4 ≤ W.heap.size)
    (hown : w1.ownsRow (w.heap.size + 4) 33 3 v' (pre.length + 1) (pcells (mkParts before pre) ++ [.string (str x.1), .int .i64 (x.2 : Int), .int .i64 (before + reals pre)]))
    (hgrow : (W.alloc tmp).grownBy w1 v.ownBlock) (N : Nat) :
    KeepsFrom N W ((w1.setCell ⟨w.heap.size + 1, 0, none⟩ v').setCell ⟨w.heap.size, 0, none⟩ (.int .i64 (before + reals pre + x.2))) ∧
    KeepCut (w.heap.size + 2) (w.heap.size + 3) W ((w1.setCell ⟨w.heap.size + 1, 0, none⟩ v').setCell ⟨w.heap.size, 0, none⟩ (.int .i64 (before + reals pre + x.2))) ∧
    SpI w before (pre ++ [x]) ((w1.setCell ⟨w.heap.size + 1, 0, none⟩ v').setCell ⟨w.heap.size, 0, none⟩ (.int .i64 (before + reals pre + x.2))) := by
  obtain ⟨h1, h2, h3, h4, h5⟩ := hv.appended (n₀ := w.heap.size) (by decide) (ownsRow_base hrow (by omega)) hB.size (by omega) (ownsRow_base hown (by omega)) hgrow
  have hb1 : Boxed w1 w.heap.size 2 (.int .i64 (before + reals pre)) := (hb.alloc tmp).kept hgrow (hb.not_row (by decide) hrow)
  have hb2 : Boxed (w1.setCell ⟨w.heap.size + 1, 0, none⟩ v') w.heap.size 2 (.int .i64 (before + reals pre)) := hb1.kept (grownBy_setCell' _ _ _) (by simp)
  have hlt := hrow.lt
  have blk : ∀ k, k < w.heap.size + 4 → k ≠ w.heap.size → k ≠ w.heap.size + 1 → ((w1.setCell ⟨w.heap.size + 1, 0, none⟩ v').setCell ⟨w.heap.size, 0, none⟩ (.int .i64 (before + reals pre + x.2))).heap[k]? = W.heap[k]? := by
    intro k hk g1 g2
    rw [Below.heap_setCell _ _ _ _ g1, Below.heap_setCell _ _ _ _ g2, hgrow.block k (by simp; omega) (fun e => by have := hlt k e.symm; omega), Below.heap_alloc _ _ _ (by omega)]
  have hsz := (h4.trans (KeepsOthers.setCell (w1.setCell ⟨w.heap.size + 1, 0, none⟩ v') ⟨w.heap.size, 0, none⟩ (.int .i64 (before + reals pre + x.2)))).size
  have hv1 : Boxed w1 (w.heap.size + 1) 22 v := h1
  have hown2 := hown.kept (grownBy_setCell' w1 (w.heap.size + 1) v') (.inr (hv1.not_row (by decide) hown).symm)
  refine ⟨(h4.trans (KeepsOthers.setCell _ _ _)).from N, ⟨hsz, blk _ (by omega) (by omega) (by omega), blk _ (by omega) (by omega) (by omega)⟩, ?_, ⟨v', h2.kept (grownBy_setCell' _ _ _) (by simp), ?_⟩, ?_, Nat.le_trans hs hsz⟩
  · have := hb2.set (.int .i64 (before + reals pre + x.2))
    rw [reals_snoc, Int.natCast_add, ← Int.add_assoc]; exact this
  · rw [List.length_append, mkParts_snoc, pcells_snoc]
    exact hown2.kept (grownBy_setCell' _ _ _) (.inr (hb2.not_row (by decide) hown2).symm)
  · exact (hB.trans h5).setCell (p := ⟨w.heap.size, 0, none⟩) (Nat.le_refl _) _

set_option maxRecDepth 100000 in
set_option maxHeartbeats 2000000 in
theorem split_p_ok (cs : List UInt8) (b : Nat) (before : Int) (w : World) (h1 : lenE cs.length b = 0) (h2 : 0 ≤ before) (h3 : before ≤ 1000000) :
    CallsIn Fence.wide 8 Tryd.prog 7 #[.string (str cs), .int .i64 b, .int .i64 before] w fun e w' =>
      ∃ v, e = .returned (.tuple #[v, .int .i64 0]) ∧ w'.ownsRow w.heap.size 33 3 v (items cs b).length (pcells (mkParts before (items cs b))) ∧ Below w.heap.size w w' := by
  obtain ⟨hok, hn0, hlen⟩ := lenE_zero h1
  have hbb : 1 ≤ b ∧ b ≤ 16 := by rcases okB_cases hok with h | h | h | h | h <;> omega
  obtain ⟨hb1, hb2⟩ := hbb
  obtain ⟨i0, hi, hz0, hz1, hz2⟩ := info_parts infoPart
  have hc := length_p cs.length b
  rw [h1] at hc
  have hsz : (str cs).size = cs.length := size_str cs
  clear h1 hok
  refine callsIn_of_wp_marks Tryd.func7 rfl trivial ?_ rfl
  simp only [Tryd.ntmps7, List.size_toArray, List.length_cons, List.length_nil, Nat.reduceAdd, Nat.reduceSub, Array.replicate_succ, Array.replicate_zero, List.push_toArray, List.append_toArray, List.nil_append, List.cons_append]
  gi_wp2_with (first | (refine ⟨trivial, ?_⟩; gi_at_call 15; refine (callsIn_wide.2 (hc _)).mono ?_; rintro e w' ⟨rfl, rfl⟩) | (refine ⟨trivial, ?_⟩; gi_at_call 16; refine (callsIn_wide.2 (cut_p _ _ _)).mono ?_; rintro e w' ⟨rfl, rfl⟩))
  have bB := Boxed.new w 2 (.int .i64 before)
  have bO := Boxed.new (w.alloc (.cells #[.int .i64 before] 2)) 22 (.slice none 0 0)
  have bC := Boxed.new ((w.alloc (.cells #[.int .i64 before] 2)).alloc (.cells #[.slice none 0 0] 22)) 9 (.string (str cs))
  have bN := Boxed.new (((w.alloc (.cells #[.int .i64 before] 2)).alloc (.cells #[.slice none 0 0] 22)).alloc (.cells #[.string (str cs)] 9)) 3 (.int .i64 (b : Int))
  simp only [World.size_alloc] at bO bC bN
  obtain ⟨W4, hW4⟩ : ∃ W4, ((((w.alloc (.cells #[.int .i64 before] 2)).alloc (.cells #[.slice none 0 0] 22)).alloc (.cells #[.string (str cs)] 9)).alloc (.cells #[.int .i64 (b : Int)] 3)) = W4 := ⟨_, rfl⟩
  have hB4 : Below w.heap.size w W4 := by
    rw [← hW4]; exact ((((Below.refl _ w).alloc (Nat.le_refl _) _).alloc (by simp) _).alloc (by simp; omega) _).alloc (by simp; omega) _
  have hs4 : W4.heap.size = w.heap.size + 4 := by rw [← hW4]; simp
  have bB4 : Boxed W4 w.heap.size 2 (.int .i64 before) := hW4 ▸ ((bB.alloc _).alloc _).alloc _
  have bO4 : Boxed W4 (w.heap.size + 1) 22 (.slice none 0 0) := hW4 ▸ (bO.alloc _).alloc _
  have bC4 : Boxed W4 (w.heap.size + 2) 9 (.string (str cs)) := hW4 ▸ bC.alloc _
  have bN4 : Boxed W4 (w.heap.size + 3) 3 (.int .i64 (b : Int)) := hW4 ▸ bN
  have h0 : SpI w before [] W4 := ⟨by simpa [reals] using bB4, ⟨_, bO4, by simpa [mkParts, pcells] using World.ownsRow_nil W4 _ _ _⟩, hB4, by omega⟩
  rw [hW4]
  clear bB bO bC bN hW4
  refine range_wide (gf := 23) rfl (enters_of Tryd.func23 (by kernel_rfl) rfl)
    (cut_iter cs b hb1 hb2 (by omega) (w.heap.size + 2) (w.heap.size + 3) (by omega) W4 bC4 bN4) (Below.refl _ _) (fun _ => rfl)
    KeepCut.trans (fun W l o o' hl _ _ => KeepCut.put (by omega) (by omega))
    (fun A B k o st hk ho hc => (st.block k (Array.getElem?_eq_some_iff.1 ho).1 (by simp; omega)).trans ho)
    (SpI w before) (fun _ _ _ => False)
    (fun s A l o o' hs hl ho hc => hs.keep (grownBy_putObj' A l o') (.inr ⟨⟨o, ho, hc⟩, by omega⟩))
    (fun _ _ _ _ _ _ hs _ _ _ => hs)
    (fun s A B hs st => hs.keep st (.inl rfl)) (fun _ _ _ _ hs _ => hs)
    (fun o1 o2 _ _ => ⟨((bB4.alloc _).alloc _ |> fun h => by simpa [reals] using h), ⟨_, (bO4.alloc _).alloc _, by simpa [mkParts, pcells] using World.ownsRow_nil _ _ _ _⟩, (hB4.alloc (by omega) _).alloc (by simp; omega) _, by simp; omega⟩)
    ?a1 ?assign ?body ?done ?stop
  case assign =>
    intro l x W K hK
    simp only [encCut]
    gi_wp2
    exact hK
  case body =>
    rintro l pre x W ⟨hb, ⟨v, hv, hrow⟩, hB, hs⟩ hpre
    have hc1 := hb.cell
    have hc2 := hv.cell
    have hf2 := hv.frozen
    have hpl : pre.length + 1 ≤ 1000 := by
      have h1 := hpre.length_le
      have h2 := items_le (cs := cs) hb1 (by omega)
      simp at h1; omega
    have hr1 := reals_le (b := 16) (pre ++ [x]) (fun y hy => Nat.le_trans (items_real y (hpre.subset hy)) hb2)
    rw [reals_snoc, List.length_append, List.length_singleton] at hr1
    have ha0 : (0 : Int) ≤ before + (reals pre : Int) := by omega
    have ha1 : before + (reals pre : Int) ≤ 1016000 := by omega
    have ha2 : ((x.2 : Nat) : Int) ≤ 16000 := by omega
    clear hr1
    gi_wp2_with (gi_at_builtin; refine wpListIn_append_own _ rfl _ _ 22 rfl (w.heap.size + 4) 33 i0 _ 3 32 Tryd.underlying22 hi hz0 hz1 hz2 rfl (by decide) _ _ _ rfl (hrow.alloc _) ⟨W.heap.size, 0, none⟩ 1 1 [.string (str x.1), .int .i64 (x.2 : Int), .int .i64 (before + reals pre)] rfl rfl (cells_new _ _ _) (by simp [Value.oneCell']) (by unfold maxLen; omega) (by omega) (by simp; omega) ?_; intro v' w1 hown' hgrow _; obtain ⟨g', cap', rfl⟩ := ownsRow_succ hown'; have hst := fun N => SpI.step (x := x) hb hv hrow hB hs hown' hgrow N; have hv1 : Boxed w1 (w.heap.size + 1) 22 v := (hv.alloc _).kept hgrow (hv.not_row (by decide) hrow); have hb1 : Boxed w1 w.heap.size 2 (.int .i64 (before + reals pre)) := (hb.alloc _).kept hgrow (hb.not_row (by decide) hrow); have hc3 := hv1.cell; have hf3 := hv1.frozen; have hc4 := hb1.cell; have hf4 := hb1.frozen; have HST := Lib.hid hst; clear hst)
    exact HST.out _
  case done =>
    rintro D W hD ⟨_, ⟨v, hv, hrow⟩, hB, _⟩ hK
    have hc2 := hv.cell
    gi_wp2
    refine ⟨by simp, .inl ⟨_, _, rfl, run_takeDeferred hK, ?_⟩⟩
    exact ⟨_, results_tmp2 rfl _ _ _, v, rfl, ownsRow_putObj (ownsRow_base hrow (by omega)) _ hK rfl, hB.trans (belowK_b (w := w) (Nat.le_refl _) W D _ _ (by omega) hK rfl rfl)⟩
  case stop =>
    rintro D c pre W _ _ h _
    exact h.elim

theorem split_p (cs : List UInt8) (b before : Int) (w : World) (hlen : cs.length ≤ maxLen) :
    Calls Tryd.prog 7 #[.string (str cs), .int .i64 b, .int .i64 before] w fun e w' =>
      ∃ v, e = .returned (.tuple #[v, .int .i64 (splitE cs.length b before)]) ∧ w'.ownsRow w.heap.size 33 3 v (parts cs b before).length (pcells (parts cs b before)) ∧ Below w.heap.size w w' := by
  by_cases h : splitE cs.length b before = 0
  · obtain ⟨h1, h2, h3⟩ := splitE_zero h
    obtain ⟨hok, _, _⟩ := lenE_zero h1
    obtain ⟨n, rfl⟩ : ∃ n : Nat, b = n := ⟨b.toNat, by rcases okB_cases hok with h | h | h | h | h <;> omega⟩
    have e : parts cs n before = mkParts before (items cs n) := by simp [parts, h]
    rw [h, e, length_mkParts]
    exact callsIn_wide.1 (split_p_ok cs n before w h1 h2 h3)
  · refine (split_p_bad cs b before w hlen h).mono fun e w' ⟨he, hw⟩ => ?_
    have e1 : parts cs b before = [] := by simp [parts, h]
    exact ⟨_, he, by rw [e1]; exact World.ownsRow_nil _ _ _ _, hw⟩

end Go.Proofs.YtfmngphmmhjicaaDoor
