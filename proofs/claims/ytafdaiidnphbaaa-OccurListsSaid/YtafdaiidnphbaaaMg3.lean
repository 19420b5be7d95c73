/- Texts that the claims share, part 3. -/
import Derived.Test.YtafdaiidnphbaaaMg2
import Derived.Test.YtafdaiidnphbaaaMg1
import Derived.OwnWalk
import Derived.Shelf.GgSortFunc.RowK
import Derived.Lib.OwnBridge
import Derived.Laws.CopyOwn
import Derived.Deep.RegionLaw
import Derived.RangeFuncBox
import Derived.RangeFuncLeaves
import Derived.RangeFuncNested
import Derived.Shelf.Abstract
import Derived.WalkKit
import Derived.OwnWalkIn
import Derived.TacticsInMore
import Derived.LoopNIn
import Derived.LoopIn
import Derived.Maps.AppendAt
import Derived.Deep.RegionHeld3
import Derived.Deep.RegionWith
import Derived.RegionTactic
import Derived.StillTailTactics
import Derived.Shelf.SlSortCmp.NoneTotal

/- Matches of patterns. -/
namespace Go.Proofs.Ytafdaiidnphbaaa
open Go.RowKit Go.Sort Go.Maps

theorem seek_ok {p : List El} {b : List UInt8} (h : seekE p b = 0) : OkP p ∧ b.length ≤ 4096 := by
  unfold seekE at h
  by_cases h1 : (checkV p).2 = 0
  · rw [if_neg (by simpa using h1)] at h
    by_cases h2 : 4096 < b.length
    · rw [if_pos h2] at h; exact absurd h (by decide)
    · exact ⟨okP_of h1, by omega⟩
  · rw [if_pos h1] at h; exact absurd h h1
def matV (p : List El) (b : List UInt8) : Bool := if seekE p b = 0 then matchV p b else false
abbrev Bytes (w : World) (v : Value) (l : List UInt8) : Prop := Row w 1 v l.length (bcells l)
theorem Bytes.at {w : World} {a : Option Addr} {n cap : Nat} {l : List UInt8} (h : Bytes w (.slice a n cap) l) {i : Nat} (hi : i < l.length) : ∃ g o, a = some ⟨g, o, none⟩ ∧ g < w.heap.size ∧ w.cell? ⟨g, o + i, none⟩ = some (.int .u8 (l[i].toNat : Int)) := by
  obtain ⟨g, o, cp, e, hg, hc⟩ := Row.cellAt2 h hi (by omega)
  cases e
  have h0 := hc 0 (by omega)
  rw [Nat.mul_one, Nat.add_zero] at h0
  exact ⟨g, o, rfl, hg, h0.trans (by simp [bcells, List.getElem?_eq_getElem hi])⟩

set_option maxRecDepth 100000 in
set_option maxHeartbeats 20000000 in
theorem matches_p (v u : Value) (p : List El) (b : List UInt8) (w : World) (h : Pats w v p) (hb : Bytes w u b) :
    Calls Try.prog 15 #[v, u] w fun e w' => e = .returned (.tuple #[.bool (matV p b), .int .i64 (seekE p b)]) ∧ Below w.heap.size w w' := by
  have KS := Lib.hid (sought_p v u p b w h hb)
  have HP := Lib.hid h
  have HBy := Lib.hid hb
  unfold matV
  by_cases h0 : seekE p b = 0
  · obtain ⟨hok, hl⟩ := seek_ok h0
    rw [if_pos h0, h0]
    rw [h0] at KS
    have HK := Lib.hid hok
    have hle := hok.le
    obtain ⟨ua, ucap, rfl⟩ := Row.form2 hb
    clear h hb h0 hok
    go_enter Try.func15, Try.ntmps15
    go_wp2_with fail
    refine KS.out.mono ?_
    rintro e w1 ⟨rfl, hb1⟩
    have KW := Lib.hid (walk_p v p w1 (Row.below HP.out hb1) hle)
    have HB1 := Lib.hid hb1
    clear hb1 KS
    go_wp2_with fail
    refine KW.out.mono ?_
    rintro e w2 ⟨W, A, ms, rfl, hW⟩
    have K2 := Lib.hid (begin_p hW HK.out)
    clear hW KW
    go_wp2_with fail
    refine K2.out.mono ?_
    rintro e w3 ⟨rfl, hW, -⟩
    have HW := Lib.hid (hW.congr (st' := part b p (fun m => decide (m = 0)) 0 p.length) (fun j c hj => by
      rw [part_start HK.out j c hj]
      unfold enterS
      rw [gap0_gap HK.out.first]
      simp))
    clear hW K2
    go_wp2_with fail
    go_loopw [8, 23] (fun rv iv wr => ∃ k : Nat, k ≤ b.length ∧ iv = .int .i64 (k : Nat) ∧ rv = .bool (reachP b p (fun m => decide (m = 0)) k) ∧ WalkIn w1 wr W v p A ms (part b p (fun m => decide (m = 0)) k p.length)) (fun _ iv _ => b.length - (intOf iv).toNat)
    case atStart => exact ⟨0, by omega, rfl, by rw [reach_zero HK.out], HW.out⟩
    case round =>
      obtain ⟨k, hk, rfl, rfl, hW⟩ := hrel
      have HWr := Lib.hid hW
      by_cases hlt : k < b.length
      · obtain ⟨g, o, hga, hg, dn⟩ := Bytes.at (Row.below HBy.out (next HB1.out hW.b)) hlt
        subst hga
        have i0 : (0 : Int) ≤ (k : Int) := by omega
        have i1 : (k : Int) < (b.length : Int) := by omega
        have wi1 : IntKind.i64.wrap ((k : Int) + 1) = (k : Int) + 1 := IntWalk.i64_in _ (by omega)
        have KR := Lib.hid (read_p hW HK.out b[k] (List.getElem?_eq_getElem hlt))
        clear hW
        generalize reachP b p (fun m => decide (m = 0)) k = r0 at *
        generalize b[k].toNat = Y at *
        go_wp2_with fail
        refine KR.out.mono ?_
        rintro e w4 ⟨rfl, hW4, -⟩
        have KO := Lib.hid (over_p hW4 hle)
        clear hW4 KR dn
        go_wp2_with fail
        refine KO.out.mono ?_
        rintro e w5 ⟨rfl, hW5, -⟩
        have HW5 := Lib.hid (hW5.congr (st' := part b p (fun m => decide (m = 0)) (k + 1) p.length) (fun j c hj => by
          rw [part_done HK.out j c hj]
          by_cases hz : j = 0 ∧ c = 0
          · obtain ⟨rfl, rfl⟩ := hz
            rw [part_lt HK.out.pos, sees_zero]
            simp [pre, reachP]
          · have : (decide (j = 0) && decide (c = 0)) = false := by simpa using fun a b => hz ⟨a, b⟩
            rw [this]; simp))
        rw [part_over HK.out]
        clear hW5 KO
        go_wp2_with fail
        exact ⟨⟨k + 1, by omega, by go_num, rfl, HW5.out⟩, by simp [intOf]; omega⟩
      · obtain rfl : b.length = k := by omega
        have i1 : ¬ ((b.length : Int) < (b.length : Int)) := by omega
        have HM := Lib.hid (show matchV p b = reachP b p (fun m => decide (m = 0)) b.length from rfl)
        have HF := Lib.hid (next HB1.out hW.b)
        clear hW
        generalize reachP b p (fun m => decide (m = 0)) b.length = r0 at *
        go_wp2_with fail
        go_ret2
        exact ⟨by rw [HM.out]; rfl, HF.out⟩
  · rw [if_neg h0]
    have t1 : (seekE p b != 0) = true := bne_iff_ne.2 h0
    generalize seekE p b = E at *
    clear h hb h0
    go_enter Try.func15, Try.ntmps15
    go_wp2_with fail
    refine KS.out.mono ?_
    rintro e w1 ⟨rfl, hb1⟩
    have HB1 := Lib.hid hb1
    clear hb1
    go_wp2_with fail
    go_ret2
    exact ⟨rfl, HB1.out⟩
end Go.Proofs.Ytafdaiidnphbaaa

/- Rows of truth values. -/
namespace Go.Proofs.Ytafdaiidnphbaaa
open Go.RowKit Go.Sort

/-- N truth values -/
def boolsOf (f : Nat → Bool) (N : Nat) : List Value := (List.range N).map fun m => Value.bool (f m)
/-- block g holds N truth values -/
def BRow (w : World) (g N : Nat) (f : Nat → Bool) : Prop := w.heap[g]? = some (.cells (boolsOf f N).toArray 4)
section
variable {w : World} {g N : Nat} {f : Nat → Bool}
theorem boolsOf_at {m : Nat} (hm : m < N) : (boolsOf f N)[m]? = some (.bool (f m)) := by
  unfold boolsOf
  rw [List.getElem?_map, List.getElem?_range hm]
  rfl
theorem BRow.lt (h : BRow w g N f) : g < w.heap.size := (Array.getElem?_eq_some_iff.1 h).1
theorem BRow.cell (h : BRow w g N f) {m : Nat} (hm : m < N) : w.cell? ⟨g, m, none⟩ = some (.bool (f m)) := cell_in h (by rw [List.getElem?_toArray]; exact boolsOf_at hm)
theorem BRow.free (h : BRow w g N f) (m : Nat) : w.frozen? ⟨g, m, none⟩ = false := free_in h
theorem BRow.keep {w' : World} (h : BRow w g N f) (hk : w'.heap[g]? = w.heap[g]?) : BRow w' g N f := hk.trans h
theorem BRow.below {w' : World} (h : BRow w g N f) (hb : Below w.heap.size w w') : BRow w' g N f := h.keep (hb.block g h.lt)
theorem BRow.congr (h : BRow w g N f) {f' : Nat → Bool} (e : ∀ m, m < N → f m = f' m) : BRow w g N f' := by
  unfold BRow at h ⊢
  rw [h]
  congr 3
  unfold boolsOf
  apply List.map_congr_left
  intro m hm
  rw [e m (List.mem_range.1 hm)]
theorem BRow.set (h : BRow w g N f) (m : Nat) : BRow (w.setCell ⟨g, m, none⟩ (.bool true)) g N (fun j => decide (j = m) || f j) := by
  unfold BRow at h ⊢
  rw [heap_setCell_at _ h]
  congr 2
  apply Array.ext'
  apply List.ext_getElem?
  intro j
  rw [Array.toList_setIfInBounds, List.toList_toArray, List.getElem?_set]
  by_cases hj : j < N
  · rw [boolsOf_at hj, boolsOf_at hj]
    by_cases e : m = j
    · subst e
      have : m < (boolsOf f N).length := by simp [boolsOf]; exact hj
      simp [this]
    · simp [e, Ne.symm e]
  · have e1 : (boolsOf f N)[j]? = none := by rw [List.getElem?_eq_none_iff]; simp [boolsOf]; omega
    have e2 : (boolsOf (fun j => decide (j = m) || f j) N)[j]? = none := by rw [List.getElem?_eq_none_iff]; simp [boolsOf]; omega
    rw [e1, e2]
    by_cases e : m = j
    · subst e
      have : ¬ m < (boolsOf f N).length := by simp [boolsOf]; omega
      simp [this]
    · simp [e]
theorem bools_made {w' : World} {base n g : Nat} (hn : 1 ≤ n) (hown : w'.ownsRow base 4 1 (.slice (some ⟨g, 0, none⟩) n n) n (madeCells #[.bool false] (n * 1)).toList) : BRow w' g n (fun _ => false) := by
  rw [Nat.mul_one, toList_madeCells_one] at hown
  rcases hown.2 with ⟨_, h0⟩ | ⟨g1, cap, cur, he, hgb, hg, _, _, hs, ht⟩
  · omega
  · injection he with e1 e2 e3
    injection e1 with e1
    injection e1 with e1
    subst e1
    subst e3
    unfold BRow
    rw [hg]
    congr 2
    apply Array.ext'
    rw [Nat.mul_one, List.take_of_length_le (by rw [Array.length_toList]; omega)] at ht
    rw [ht]
    apply List.ext_getElem?
    intro j
    by_cases hj : j < n
    · simp [boolsOf, hj]
    · simp [boolsOf, hj]
end
theorem infoB : (Try.prog.info? 4).map (fun i => (i.zero, i.size, i.bytes)) = some (some (.bool false), 1, 1) := by kernel_rfl
end Go.Proofs.Ytafdaiidnphbaaa

/- From: the places to which a pattern may have come. -/
namespace Go.Proofs.Ytafdaiidnphbaaa
open Go.RowKit Go.Sort

/-- the places that an element reaches from the places before n -/
def stepTo (b : List UInt8) (x : El) (f : Nat → Bool) (n : Nat) : Nat → Bool := stepP b x fun j => f j && decide (j < n)
theorem stepTo_zero {b : List UInt8} {x : El} {f : Nat → Bool} {n m : Nat} (hf : ∀ j, j < n → f j = false) : stepTo b x f n m = false := by
  cases he : stepTo b x f n m
  · rfl
  · unfold stepTo at he
    rw [stepP_fit] at he
    obtain ⟨i, h1, _⟩ := he
    simp only [Bool.and_eq_true, decide_eq_true_eq] at h1
    rw [hf i h1.2] at h1
    exact absurd h1.1 (by decide)
theorem stepTo_no {b : List UInt8} {x : El} {f : Nat → Bool} {n m : Nat} (h : f n = false) : stepTo b x f n m = stepTo b x f (n + 1) m := by
  unfold stepTo
  congr 1
  funext j
  by_cases e : j = n
  · subst e; simp [h]
  · have : decide (j < n) = decide (j < n + 1) := by simp; omega
    rw [this]
theorem stepTo_yes {b : List UInt8} {x : El} {f : Nat → Bool} {n m : Nat} (h : f n = true) : stepTo b x f (n + 1) m = true ↔ stepTo b x f n m = true ∨ Fit1 b x n m := by
  unfold stepTo
  rw [stepP_fit, stepP_fit]
  simp only [Bool.and_eq_true, decide_eq_true_eq]
  constructor
  · rintro ⟨i, ⟨h1, h2⟩, h3⟩
    by_cases e : i = n
    · subst e; exact .inr h3
    · exact .inl ⟨i, ⟨h1, by omega⟩, h3⟩
  · rintro (⟨i, ⟨h1, h2⟩, h3⟩ | h3)
    · exact ⟨i, ⟨h1, by omega⟩, h3⟩
    · exact ⟨n, ⟨h, by omega⟩, h3⟩
theorem stepTo_end {b : List UInt8} {x : El} {f : Nat → Bool} {m N : Nat} (hm : m < N) : stepTo b x f N m = stepP b x f m := by
  rw [Bool.eq_iff_iff]
  unfold stepTo
  rw [stepP_fit, stepP_fit]
  simp only [Bool.and_eq_true, decide_eq_true_eq]
  constructor
  · rintro ⟨i, ⟨h1, _⟩, h3⟩; exact ⟨i, h1, h3⟩
  · rintro ⟨i, h1, h3⟩
    have := fit1_le h3
    exact ⟨i, ⟨h1, by omega⟩, h3⟩
theorem fit1_byte {b : List UInt8} {x : El} {n m : Nat} (hg : x.gap = false) {y : UInt8} (hb : b[n]? = some y) : Fit1 b x n m ↔ m = n + 1 ∧ hasB x.cls y.toNat = true := by
  unfold Fit1
  rw [hg, hb]
  simp
theorem fit1_none {b : List UInt8} {x : El} {n m : Nat} (hg : x.gap = false) (hb : b[n]? = none) : ¬ Fit1 b x n m := by
  unfold Fit1
  rw [hg, hb]
  simp
theorem fit1_gap {b : List UInt8} {x : El} {n m : Nat} (hg : x.gap = true) (h0 : 0 ≤ x.high) : Fit1 b x n m ↔ ∃ c : Nat, x.low ≤ (c : Int) ∧ (c : Int) ≤ x.high ∧ m = n + c := by
  unfold Fit1
  rw [hg]
  simp only [if_true]
  rw [show max x.high 0 = x.high by omega]
theorem reach_ge {b : List UInt8} {q : List El} {s j : Nat} (h : j < s) : reachP b q (fun m => decide (m = s)) j = false := by
  cases he : reachP b q (fun m => decide (m = s)) j
  · rfl
  · rw [reachP_fits] at he
    obtain ⟨i, h1, h2⟩ := he
    have := fits_le h2
    have : i = s := by simpa using h1
    omega
/-- what a gap reaches from n by fewer than c bytes, beside what was reached -/
def gapTo (x : El) (f : Nat → Bool) (n c m : Nat) : Bool := f m || (List.range c).any fun d => decide (x.low ≤ (d : Int)) && decide (m = n + d)
theorem gapTo_next {x : El} {f : Nat → Bool} {n c m : Nat} (h : x.low ≤ (c : Int)) : gapTo x f n (c + 1) m = (decide (m = n + c) || gapTo x f n c m) := by
  unfold gapTo
  rw [List.range_succ, List.any_append]
  simp only [List.any_cons, List.any_nil, Bool.or_false, h, decide_true, Bool.true_and]
  cases f m <;> cases (List.range c).any (fun d => decide (x.low ≤ (d : Int)) && decide (m = n + d)) <;> cases decide (m = n + c) <;> rfl
theorem gapTo_low {x : El} {f : Nat → Bool} {n c m : Nat} (h : (c : Int) = x.low) : gapTo x f n c m = f m := by
  unfold gapTo
  have : ((List.range c).any fun d => decide (x.low ≤ (d : Int)) && decide (m = n + d)) = false := by
    rw [List.any_eq_false]
    intro d hd
    rw [List.mem_range] at hd
    simp; omega
  rw [this, Bool.or_false]
theorem gapTo_end {b : List UInt8} {x : El} {f : Nat → Bool} {n c m N : Nat} (hg : x.gap = true) (h0 : 0 ≤ x.high) (hf : f n = true) (hm : m < N) (hc : (c : Int) = x.high + 1 ∨ N ≤ n + c ∧ (c : Int) ≤ x.high + 1) :
    gapTo x (stepTo b x f n) n c m = stepTo b x f (n + 1) m := by
  rw [Bool.eq_iff_iff, stepTo_yes hf, fit1_gap hg h0]
  unfold gapTo
  simp only [Bool.or_eq_true, List.any_eq_true, List.mem_range, Bool.and_eq_true, decide_eq_true_eq]
  constructor
  · rintro (h | ⟨d, h1, h2, h3⟩)
    · exact .inl h
    · exact .inr ⟨d, h2, by omega, h3⟩
  · rintro (h | ⟨d, h1, h2, h3⟩)
    · exact .inl h
    · exact .inr ⟨d, by omega, h1, h3⟩
def FromP (w : World) (N : Nat) (f : Nat → Bool) (e : Ending) (w' : World) : Prop := ∃ g, e = .returned (.slice (some ⟨g, 0, none⟩) N N) ∧ BRow w' g N f ∧ w.heap.size ≤ g ∧ Below w.heap.size w w'
end Go.Proofs.Ytafdaiidnphbaaa

/- Rows of structs that the call owns, in the sort's words. -/
namespace Go.Proofs.Ytafdaiidnphbaaa
open Go.RowKit Go.Sort Go.Lib

variable {α : Type}

theorem fmap_len {enc : α → List Value} {k : Nat} (hk : ∀ x, (enc x).length = k) : ∀ l : List α, (l.flatMap enc).length = l.length * k
  | [] => by simp
  | x :: l => by rw [List.flatMap_cons, List.length_append, fmap_len hk l, hk, List.length_cons, Nat.add_mul]; omega
theorem fmap_at {enc : α → List Value} {k : Nat} (hk : ∀ x, (enc x).length = k) : ∀ (l : List α) (i c : Nat) (h : i < l.length), c < k → (l.flatMap enc)[i * k + c]? = (enc l[i])[c]?
  | x :: l, 0, c, _, hc => by
    rw [List.flatMap_cons, Nat.zero_mul, Nat.zero_add, List.getElem?_append_left (by rw [hk]; exact hc)]; rfl
  | x :: l, i + 1, c, h, hc => by
    have e : (i + 1) * k + c = (enc x).length + (i * k + c) := by rw [hk, Nat.add_mul, Nat.one_mul]; omega
    rw [List.flatMap_cons, e, List.getElem?_append_right (Nat.le_add_right _ _), Nat.add_sub_cancel_left]
    exact fmap_at hk l i c (by simpa using h) hc
theorem flat_cell [Inhabited α] {enc : α → List Value} {k : Nat} (hk : ∀ x, (enc x).length = k) (l : List α) {t : Nat} (h : t < l.length * k) : (l.flatMap enc)[t]? = some (flatK enc k l.toArray)[t]! := by
  have k0 : 0 < k := by rcases Nat.eq_zero_or_pos k with rfl | h0; · simp at h
                        · exact h0
  have hi : t / k < l.length := Nat.div_lt_of_lt_mul (by rwa [Nat.mul_comm] at h)
  have hc : t % k < k := Nat.mod_lt _ k0
  have e : t = t / k * k + t % k := by rw [Nat.mul_comm]; exact (Nat.div_add_mod t k).symm
  rw [get_flatK enc k l.toArray t (by simpa using h)]
  conv => lhs; rw [e]
  rw [fmap_at hk l _ _ hi hc]
  have hh : t % k < (enc l[t / k]).length := by rw [hk]; exact hc
  rw [List.getElem?_eq_getElem hh]
  simp [getElem!_pos, hi, hh]
theorem holdsK_of_owns [Inhabited α] {enc : α → List Value} {k : Nat} (hk : ∀ x, (enc x).length = k) {w : World} {base : Nat} {e : TypeId} {g n cap : Nat} {l : List α}
    (h : w.ownsRow base e k (.slice (some ⟨g, 0, none⟩) n cap) n (l.flatMap enc)) : HoldsK enc k w g 0 l.toArray := by
  have hl := h.1
  rw [fmap_len hk] at hl
  rcases h.2 with ⟨e0, _⟩ | ⟨g', cap', cur, e0, hb, hg, hn, hm, hs, ht⟩
  · cases e0
  · injection e0 with e1 _ e3
    injection e1 with e1
    injection e1 with e1
    subst e1; subst e3
    intro j hj
    rw [size_flatK, List.size_toArray] at hj
    refine ⟨?_, by simp [World.frozen?, hg]⟩
    have hc := flat_cell hk l hj
    rw [← ht, List.getElem?_take, if_pos (by omega), Array.getElem?_toList] at hc
    simp only [World.cell?, hg, Nat.zero_add, Option.isSome_none, Bool.false_eq_true, if_false, id]
    exact hc
theorem owns_putRowK [Inhabited α] {enc : α → List Value} {k : Nat} (hk : ∀ x, (enc x).length = k) {w : World} {base : Nat} {e : TypeId} {g n cap q m : Nat} {xs : List Value} {ys : List α}
    (h : w.ownsRow base e k (.slice (some ⟨g, 0, none⟩) n cap) n xs) (hy : ys.length = n) (hm : m ≤ n) :
    (putRowK enc k (Sort.ahead w q) g 0 ys.toArray).ownsRow base e k (.slice (some ⟨g, 0, none⟩) m cap) m ((ys.take m).flatMap enc) := by
  rcases h.2 with ⟨e0, _⟩ | ⟨g', cap', cur, e0, hb, hg, hn, hmx, hs, ht⟩
  · cases e0
  · injection e0 with e1 _ e3
    injection e1 with e1
    injection e1 with e1
    subst e1; subst e3
    have hmk : m * k ≤ n * k := Nat.mul_le_mul_right _ hm
    have hnk : n * k ≤ cap * k := Nat.mul_le_mul_right _ hn
    have hlk : ((ys.take m).flatMap enc).length = m * k := by rw [fmap_len hk, List.length_take, Nat.min_eq_left (by omega)]
    refine ⟨hlk, .inr ⟨g, cap, putCells id 0 (flatK enc k ys.toArray) cur, rfl, hb, ?_, by omega, hmx, by simpa [putCells] using hs, ?_⟩⟩
    · simp [putRowK, putRow, mapBlock, Sort.ahead, Array.getElem?_modify, hg, onCells]
    · apply List.ext_getElem?
      intro j
      rw [List.getElem?_take, Array.getElem?_toList]
      by_cases hj : j < m * k
      · have hjc : j < cur.size := by omega
        simp only [if_pos hj, putCells, Array.getElem?_mapIdx, Array.getElem?_eq_getElem hjc, Option.map_some]
        rw [if_pos (by simp [hy]; omega)]
        have hc := flat_cell hk ys (t := j) (by rw [hy]; omega)
        have e2 : (ys.flatMap enc)[j]? = ((ys.take m).flatMap enc)[j]? := by
          conv => lhs; rw [← List.take_append_drop m ys, List.flatMap_append]
          rw [List.getElem?_append_left (by rw [hlk]; exact hj)]
        rw [← e2, hc]
        simp
      · rw [if_neg hj, List.getElem?_eq_none (by rw [hlk]; omega)]
theorem below_putRowK [Inhabited α] {enc : α → List Value} {k B : Nat} {w0 w : World} {g q : Nat} {d : Array α} (h : Below B w0 w) (hg : B ≤ g) : Below B w0 (putRowK enc k (Sort.ahead w q) g 0 d) := below_putRow h hg
end Go.Proofs.Ytafdaiidnphbaaa

/- reach of the reference. -/
namespace Go.Proofs.Ytafdaiidnphbaaa
open Go.RowKit Go.Sort

/-- a row of truth values that is the result -/
def RunP (w : World) (N : Nat) (f : Nat → Bool) (e : Ending) (w' : World) : Prop := ∃ g cp, e = .returned (.slice (some ⟨g, 0, none⟩) N cp) ∧ BRow w' g N f ∧ Below w.heap.size w w'
set_option maxRecDepth 100000 in
set_option maxHeartbeats 40000000 in
theorem reach_r (v u : Value) (p : List El) (b : List UInt8) (g0 cp0 : Nat) (f0 : Nat → Bool) (w : World) (h : Pats w v p) (hb : Bytes w u b) (hok : OkP p) (hl : b.length ≤ 4096) (hr : BRow w g0 (b.length + 1) f0) :
    Calls Try.prog 47 #[v, u, .slice (some ⟨g0, 0, none⟩) (b.length + 1) cp0] w (RunP w (b.length + 1) (reachP b p f0)) := by
  have HP := Lib.hid h
  have HBy := Lib.hid hb
  have HK := Lib.hid hok
  have hle := hok.le
  have HR0 := Lib.hid hr
  obtain ⟨a, cap, rfl⟩ := Row.form2 h
  obtain ⟨ua, ucap, rfl⟩ := Row.form2 hb
  obtain ⟨i0, hi, hz0, hz1, hz2⟩ := info_parts infoB
  have wl : IntKind.i64.wrap ((b.length : Int) + 1) = (b.length : Int) + 1 := IntWalk.i64_in _ (by omega)
  clear h hb hok hr
  go_enter Try.func47, Try.ntmps47
  go_wp2_with fail
  go_loopw [2, 7] (fun av iv wr => ∃ i : Nat, i ≤ p.length ∧ iv = .int .i64 (i : Nat) ∧ ∃ g cp, av = .slice (some ⟨g, 0, none⟩) (b.length + 1) cp ∧ BRow wr g (b.length + 1) (reachP b (p.take i) f0) ∧ Below w.heap.size w wr) (fun _ iv _ => p.length - (intOf iv).toNat)
  case atStart => exact ⟨0, by omega, rfl, g0, cp0, rfl, by simpa [reachP] using HR0.out, Below.refl _ _⟩
  case round =>
    obtain ⟨i, hi', rfl, g, cp, rfl, hR, hB⟩ := hrel
    by_cases hlt : i < p.length
    · have HR := Lib.hid hR
      have HB := Lib.hid hB
      have i1 : (0 : Int) ≤ (i : Int) := by omega
      have i2 : (i : Int) < (p.length : Int) := by omega
      have wi1 : IntKind.i64.wrap ((i : Int) + 1) = (i : Int) + 1 := IntWalk.i64_in _ (by omega)
      have hgs : g < wr.heap.size := hR.lt
      have hsz := hB.size
      have HN := Lib.hid (show reachP b (p.take (i + 1)) f0 = stepP b p[i] (reachP b (p.take i) f0) by rw [List.take_succ_eq_append_getElem hlt, reachP_snoc])
      clear hR hB
      go_wp2_with (at_make; refine wpList_make_full _ rfl _ _ 62 rfl wr.heap.size 4 i0 _ 1 Try.underlying62 hi hz0 hz1 _ _ _ _ (b.length + 1) rfl rfl (by omega) (by omega) (by rw [hz2]; omega) (by unfold maxLen; omega) (Nat.le_refl _) ?_; intro w3 hown hgrow)
      have hr3 := bools_made (by omega) hown
      have hb3 : Below wr.heap.size wr w3 := (Below.refl _ _).grown hgrow (Nat.le_refl _) (fun q e => by cases e)
      have HR3 := Lib.hid (HR.out.below hb3)
      have HB3 := Lib.hid (HB.out.trans (hb3.mono HB.out.size))
      have HN3 := Lib.hid (hr3.congr (f' := stepTo b p[i] (reachP b (p.take i) f0) 0) (fun m _ => (stepTo_zero (fun j hj => absurd hj (by omega))).symm))
      have hgn : g ≠ wr.heap.size := by omega
      have hnl : w.heap.size ≤ wr.heap.size := hsz
      clear hown hgrow hr3 hb3 hgs hsz
      generalize wr.heap.size = G at *
      generalize hf : reachP b (p.take i) f0 = f at *
      go_loopw [9] (fun nv wr => ∃ n : Nat, n ≤ b.length + 1 ∧ nv = .int .i64 (n : Nat) ∧ BRow wr g (b.length + 1) f ∧ BRow wr G (b.length + 1) (stepTo b p[i] f n) ∧ Below w.heap.size w wr) (fun nv _ => b.length + 1 - (intOf nv).toNat)
      case atStart => exact ⟨0, by omega, rfl, HR3.out, HN3.out, HB3.out⟩
      case round =>
        obtain ⟨n, hnl2, rfl, hR, hN, hB⟩ := hrel
        have HR := Lib.hid hR
        have HN4 := Lib.hid hN
        have HB := Lib.hid hB
        by_cases hnt : n ≤ b.length
        · have n0 : (0 : Int) ≤ (n : Int) := by omega
          have n1 : (n : Int) ≤ (b.length : Int) := by omega
          have n2 : (n : Int) < (b.length : Int) + 1 := by omega
          have wn1 : IntKind.i64.wrap ((n : Int) + 1) = (n : Int) + 1 := IntWalk.i64_in _ (by omega)
          have cr := hR.cell (m := n) (by omega)
          obtain ⟨pg, po, hpa, hpg, d0, d1, d2, d3, d4, d5, d6⟩ := Pats.at (Row.below HP.out hB) hlt
          subst hpa
          cases hfn : f n
          · rw [hfn] at cr
            have HN5 := Lib.hid (hN.congr (f' := stepTo b p[i] f (n + 1)) (fun m _ => stepTo_no hfn))
            clear hR hN hB hfn
            go_wp2_with fail
            exact ⟨⟨n + 1, by omega, by go_num, HR.out, HN5.out, HB.out⟩, by simp [intOf]; omega⟩
          · rw [hfn] at cr
            have HFN := Lib.hid hfn
            cases hg0 : p[i].gap
            · rw [hg0] at d0
              have HG0 := Lib.hid hg0
              by_cases hnb : n < b.length
              · obtain ⟨bg, bo, hba, hbg, db⟩ := Bytes.at (Row.below HBy.out hB) hnb
                subst hba
                have n3 : (n : Int) < (b.length : Int) := by omega
                have hY : b[n].toNat < 256 := UInt8.toNat_lt _
                have C := Lib.hid (fun d os => has_r p[i].cls b[n].toNat hY (grow (redrawn wr d) os))
                unfold setV setC at C
                have q1 := fun d os => cell_regrown d1 d os
                have q2 := fun d os => cell_regrown d2 d os
                have q3 := fun d os => cell_regrown d3 d os
                have q4 := fun d os => cell_regrown d4 d os
                have q5 := fun d os => cell_regrown db d os
                have HF1 := Lib.hid (fun m => fit1_byte (m := m) hg0 (List.getElem?_eq_getElem hnb))
                generalize b[n].toNat = Y at *
                have hN' := hN
                clear hR hN hB hfn hg0
                cases hh : hasB p[i].cls Y
                · rw [hh] at C
                  have HN5 := Lib.hid (hN'.congr (f' := stepTo b p[i] f (n + 1)) (fun m _ => by
                    rw [Bool.eq_iff_iff, stepTo_yes HFN.out, HF1.out, hh]; simp))
                  clear hN' hh
                  go_wp2_with fail
                  refine wp_region_quiet_below (by kernel_rfl) (by kernel_rfl) ?_
                  repeat (go_big_quiet_step ((go_at_call 69; exact Calls.regrown_of (C.out _ _))))
                  refine wpQuiet_nil ?_
                  intro _ hw'
                  obtain ⟨⟨dq, osq⟩, hw''⟩ := hw'
                  subst hw''
                  have hbr := below_regrown wr dq osq
                  have HR6 := Lib.hid (HR.out.below hbr)
                  have HN6 := Lib.hid (HN5.out.below hbr)
                  have HB6 := Lib.hid (next HB.out hbr)
                  clear q1 q2 q3 q4 q5 C hbr d0 d1 d2 d3 d4 d5 d6 db cr
                  go_wp2_with fail
                  exact ⟨⟨n + 1, by omega, by go_num, HR6.out, HN6.out, HB6.out⟩, by simp [intOf]; omega⟩
                · rw [hh] at C
                  have HHH := Lib.hid hh
                  clear hN' hh
                  go_wp2_with fail
                  refine wp_region_quiet_below (by kernel_rfl) (by kernel_rfl) ?_
                  repeat (go_big_quiet_step ((go_at_call 69; exact Calls.regrown_of (C.out _ _))))
                  refine wpQuiet_nil ?_
                  intro _ hw'
                  obtain ⟨⟨dq, osq⟩, hw''⟩ := hw'
                  subst hw''
                  have hbr := below_regrown wr dq osq
                  have hR6 := HR.out.below hbr
                  have hN6 := HN4.out.below hbr
                  have hB6 := next HB.out hbr
                  have fr := hN6.free (n + 1)
                  have ce := hN6.cell (m := n + 1) (by omega)
                  have HR6 := Lib.hid (hR6.keep (Below.heap_setCell (Go.Sort.grow (redrawn wr dq) osq) ⟨G, n + 1, none⟩ (.bool true) g hgn))
                  have HN6 := Lib.hid ((hN6.set (n + 1)).congr (f' := stepTo b p[i] f (n + 1)) (fun m _ => by
                    rw [Bool.eq_iff_iff, stepTo_yes HFN.out, HF1.out, HHH.out]; simp [or_comm]))
                  have HB6 := Lib.hid (hB6.setCell (p := ⟨G, n + 1, none⟩) hnl (.bool true))
                  have n4 : (n : Int) + 1 < (b.length : Int) + 1 := by omega
                  clear q1 q2 q3 q4 q5 C hbr d0 d1 d2 d3 d4 d5 d6 db cr hR6 hN6 hB6
                  generalize Go.Sort.grow _ _ = w7 at *
                  go_wp2_with fail
                  exact ⟨⟨n + 1, by omega, by go_num, HR6.out, HN6.out, HB6.out⟩, by simp [intOf]; omega⟩
              · have n3 : decide ((n : Int) < (b.length : Int)) = false := decide_eq_false (by omega)
                have HN5 := Lib.hid (hN.congr (f' := stepTo b p[i] f (n + 1)) (fun m _ => by
                  rw [Bool.eq_iff_iff, stepTo_yes HFN.out]
                  have := fit1_none (m := m) hg0 (show b[n]? = none by rw [List.getElem?_eq_none]; omega)
                  simp [this]))
                clear hR hN hB hfn hg0
                go_wp2_with fail
                refine wp_region_quiet_below (by kernel_rfl) (by kernel_rfl) ?_
                repeat (go_big_quiet_step (fail))
                refine wpQuiet_nil ?_
                intro _ hw'
                obtain ⟨⟨dq, osq⟩, hw''⟩ := hw'
                subst hw''
                have hbr := below_regrown wr dq osq
                have HR6 := Lib.hid (HR.out.below hbr)
                have HN6 := Lib.hid (HN5.out.below hbr)
                have HB6 := Lib.hid (next HB.out hbr)
                clear hbr d0 d1 d2 d3 d4 d5 d6 cr
                go_wp2_with fail
                exact ⟨⟨n + 1, by omega, by go_num, HR6.out, HN6.out, HB6.out⟩, by simp [intOf]; omega⟩
            · rw [hg0] at d0
              have HG0 := Lib.hid hg0
              have hgg := HK.out.gap hlt hg0
              have b1 := hgg.2.1
              have b2 := hgg.2.2.1
              have b3 := hgg.2.2.2.1
              obtain ⟨lo, hlo⟩ : ∃ lo : Nat, p[i].low = lo := ⟨p[i].low.toNat, by omega⟩
              rw [hlo] at d5
              have HLo := Lib.hid hlo
              have HNs := Lib.hid (hN.congr (f' := gapTo p[i] (stepTo b p[i] f n) n lo) (fun m _ => (gapTo_low hlo.symm).symm))
              have b4 : (lo : Int) ≤ p[i].high := by omega
              clear hgg hR hN hfn hg0 hlo
              go_wp2_with fail
              clear d0 d1 d2 d3 d4 d5 d6 cr hB hpg
              go_loopw [10] (fun cv wr => ∃ c : Nat, lo ≤ c ∧ (c : Int) ≤ p[i].high + 1 ∧ cv = .int .i64 (c : Nat) ∧ BRow wr g (b.length + 1) f ∧ BRow wr G (b.length + 1) (gapTo p[i] (stepTo b p[i] f n) n c) ∧ Below w.heap.size w wr) (fun cv _ => 17 - (intOf cv).toNat)
              case atStart => exact ⟨lo, by omega, by omega, rfl, HR.out, HNs.out, HB.out⟩
              case round =>
                obtain ⟨c, hcl, hch, rfl, hR, hN, hB⟩ := hrel
                have HRc := Lib.hid hR
                have HBc := Lib.hid hB
                obtain ⟨_, d0, d1, d2, d3, d4, d5, d6⟩ := Pats.ats (Row.below HP.out hB) hlt
                have c0 : (0 : Int) ≤ (c : Int) := by omega
                have wc1 : IntKind.i64.wrap ((c : Int) + 1) = (c : Int) + 1 := IntWalk.i64_in _ (by omega)
                have wnc : IntKind.i64.wrap ((n : Int) + (c : Int)) = (n : Int) + (c : Int) := IntWalk.i64_in _ (by omega)
                by_cases h1 : (c : Int) ≤ p[i].high
                · by_cases h2 : (n : Int) + (c : Int) ≤ (b.length : Int)
                  · have fr := hN.free (n + c)
                    have ce := hN.cell (m := n + c) (by omega)
                    have h3 : (0 : Int) ≤ (n : Int) + (c : Int) := by omega
                    have h4 : (n : Int) + (c : Int) < (b.length : Int) + 1 := by omega
                    have HR6 := Lib.hid (hR.keep (Below.heap_setCell wr ⟨G, n + c, none⟩ (.bool true) g hgn))
                    have HN6 := Lib.hid ((hN.set (n + c)).congr (f' := gapTo p[i] (stepTo b p[i] f n) n (c + 1)) (fun m _ => (gapTo_next (by rw [HLo.out]; omega)).symm))
                    have HB6 := Lib.hid (hB.setCell (p := ⟨G, n + c, none⟩) hnl (.bool true))
                    clear hR hN hB
                    go_wp2_with fail
                    exact ⟨⟨c + 1, by omega, by omega, by go_num, HR6.out, HN6.out, HB6.out⟩, by simp [intOf]; omega⟩
                  · have HN6 := Lib.hid (hN.congr (f' := stepTo b p[i] f (n + 1)) (fun m hm => gapTo_end HG0.out (by omega) HFN.out hm (.inr ⟨by omega, by omega⟩)))
                    clear hR hN hB
                    go_wp2_with fail
                    exact ⟨⟨n + 1, by omega, by go_num, HRc.out, HN6.out, HBc.out⟩, by simp [intOf]; omega⟩
                · have HN6 := Lib.hid (hN.congr (f' := stepTo b p[i] f (n + 1)) (fun m hm => gapTo_end HG0.out (by omega) HFN.out hm (.inl (by omega))))
                  clear hR hN hB
                  go_wp2_with fail
                  exact ⟨⟨n + 1, by omega, by go_num, HRc.out, HN6.out, HBc.out⟩, by simp [intOf]; omega⟩
        · obtain rfl : n = b.length + 1 := by omega
          have n1 : ¬ ((b.length : Int) + 1 < (b.length : Int) + 1) := by omega
          have HN5 := Lib.hid (hN.congr (f' := reachP b (p.take (i + 1)) f0) (fun m hm => by rw [HN.out, stepTo_end hm]))
          clear hR hN hB
          go_wp2_with fail
          exact ⟨⟨i + 1, by omega, by go_num, G, _, rfl, HN5.out, HB.out⟩, by simp [intOf]; omega⟩
    · obtain rfl : p.length = i := by omega
      have j1 : ¬ ((p.length : Int) < (p.length : Int)) := by omega
      rw [List.take_of_length_le (Nat.le_refl _)] at hR
      have HR := Lib.hid hR
      have HB := Lib.hid hB
      clear hR hB
      go_wp2_with fail
      go_ret
      exact show RunP _ _ _ _ _ from ⟨g, cp, rfl, HR.out, HB.out⟩
end Go.Proofs.Ytafdaiidnphbaaa

/- step of places. -/
namespace Go.Proofs.Ytafdaiidnphbaaa
open Go.RowKit Go.Sort

def elV (x : El) : Value := .agg #[.bool x.gap, .int .u64 (word x.cls 0 : Int), .int .u64 (word x.cls 1 : Int), .int .u64 (word x.cls 2 : Int), .int .u64 (word x.cls 3 : Int), .int .i64 x.low, .int .i64 x.high]
/-- block B holds an element -/
def ElAt (w : World) (B : Nat) (x : El) : Prop := w.heap[B]? = some (.cells (pcell x).toArray 70)
theorem ElAt.lt {w : World} {B : Nat} {x : El} (h : ElAt w B x) : B < w.heap.size := (Array.getElem?_eq_some_iff.1 h).1
theorem ElAt.cells {w : World} {B : Nat} {x : El} (h : ElAt w B x) :
    w.cell? ⟨B, 0, none⟩ = some (.bool x.gap) ∧ w.cell? ⟨B, 1, none⟩ = some (.int .u64 (word x.cls 0 : Int)) ∧ w.cell? ⟨B, 2, none⟩ = some (.int .u64 (word x.cls 1 : Int)) ∧ w.cell? ⟨B, 3, none⟩ = some (.int .u64 (word x.cls 2 : Int)) ∧ w.cell? ⟨B, 4, none⟩ = some (.int .u64 (word x.cls 3 : Int)) ∧ w.cell? ⟨B, 5, none⟩ = some (.int .i64 x.low) ∧ w.cell? ⟨B, 6, none⟩ = some (.int .i64 x.high) :=
  ⟨cell_in h rfl, cell_in h rfl, cell_in h rfl, cell_in h rfl, cell_in h rfl, cell_in h rfl, cell_in h rfl⟩
theorem ElAt.keep {w w' : World} {B : Nat} {x : El} (h : ElAt w B x) (hk : w'.heap[B]? = w.heap[B]?) : ElAt w' B x := hk.trans h
/-- an element that may stand in a pattern -/
def ElOk (x : El) : Prop := x.gap = true → 0 ≤ x.low ∧ x.low ≤ x.high ∧ x.high ≤ 16
set_option maxRecDepth 100000 in
set_option maxHeartbeats 40000000 in
theorem step_p (u : Value) (x : El) (b : List UInt8) (g cp : Nat) (f : Nat → Bool) (w : World) (hb : Bytes w u b) (hok : ElOk x) (hl : b.length ≤ 4096) (hr : BRow w g (b.length + 1) f) :
    Calls Try.prog 58 #[.slice (some ⟨g, 0, none⟩) (b.length + 1) cp, elV x, u] w (RunP w (b.length + 1) (stepP b x f)) := by
  have HK := Lib.hid hok
  have HR0 := Lib.hid hr
  have hg0 := hr.lt
  obtain ⟨ua, ucap, rfl⟩ := Row.form2 hb
  obtain ⟨i0, hi, hz0, hz1, hz2⟩ := info_parts infoB
  have wl : IntKind.i64.wrap ((b.length : Int) + 1) = (b.length : Int) + 1 := IntWalk.i64_in _ (by omega)
  have hx : ElAt (w.alloc (.cells (pcell x).toArray 70)) w.heap.size x := heap_alloc_new w _
  have hbl : Below w.heap.size w (w.alloc (.cells (pcell x).toArray 70)) := (Below.refl _ _).alloc (Nat.le_refl _) _
  have HX := Lib.hid hx
  have HBL := Lib.hid hbl
  have HBy := Lib.hid (Row.below hb hbl)
  clear hb hok hr hx hbl
  unfold elV
  go_enter Try.func58, Try.ntmps58
  obtain ⟨w0, hw0⟩ : ∃ w0, w0 = w.alloc (.cells (pcell x).toArray 70) := ⟨_, rfl⟩
  have hws : w0.heap.size = w.heap.size + 1 := by rw [hw0]; simp
  have hw0' : w.alloc (.cells #[.bool x.gap, .int .u64 (word x.cls 0 : Int), .int .u64 (word x.cls 1 : Int), .int .u64 (word x.cls 2 : Int), .int .u64 (word x.cls 3 : Int), .int .i64 x.low, .int .i64 x.high] 70) = w0 := hw0.symm
  rw [← hw0] at HX HBL HBy
  have HW0 := Lib.hid hw0'
  have HWS := Lib.hid hws
  clear hw0 hws
  go_wp2_with (at_make; refine wpList_make_full _ rfl _ _ 63 rfl w0.heap.size 4 i0 _ 1 Try.underlying63 hi hz0 hz1 _ _ _ _ (b.length + 1) rfl rfl (by omega) (by omega) (by rw [hz2]; omega) (by unfold maxLen; omega) (Nat.le_refl _) ?_; intro w1 hown hgrow)
  have hr1 := bools_made (by omega) hown
  have hb1 : Below w0.heap.size w0 w1 := (Below.refl _ _).grown hgrow (Nat.le_refl _) (fun q e => by cases e)
  have HN1 := Lib.hid (hr1.congr (f' := stepTo b x f 0) (fun m _ => (stepTo_zero (fun j hj => absurd hj (by omega))).symm))
  have HB1 := Lib.hid hb1
  have hxl : w.heap.size < w0.heap.size := by rw [HWS.out]; omega
  have hgl : g < w0.heap.size := by omega
  have HX2 := Lib.hid (show ∀ wr, Below w0.heap.size w0 wr → ElAt wr w.heap.size x ∧ BRow wr g (b.length + 1) f ∧ Bytes wr (.slice ua b.length ucap) b ∧ Below w.heap.size w wr from fun wr hbr =>
    ⟨HX.out.keep (hbr.block _ hxl), HR0.out.keep ((hbr.block _ hgl).trans (HBL.out.block _ hg0)), Row.below HBy.out hbr, HBL.out.trans (hbr.mono (by omega))⟩)
  clear hown hgrow hr1 hb1 HX HR0 HBy HBL
  generalize hG : w0.heap.size = G at *
  have HG := Lib.hid hG
  clear hG hw0' HW0
  go_wp2_with fail
  go_loopw [16] (fun nv wr => ∃ n : Nat, n ≤ b.length + 1 ∧ nv = .int .i64 (n : Nat) ∧ BRow wr G (b.length + 1) (stepTo b x f n) ∧ Below G w0 wr) (fun nv _ => b.length + 1 - (intOf nv).toNat)
  case atStart => exact ⟨0, by omega, rfl, HN1.out, HB1.out⟩
  case round =>
    obtain ⟨n, hnl2, rfl, hN, hB⟩ := hrel
    have HN4 := Lib.hid hN
    have HB := Lib.hid hB
    by_cases hnt : n ≤ b.length
    · have n0 : (0 : Int) ≤ (n : Int) := by omega
      have n2 : (n : Int) < (b.length : Int) + 1 := by omega
      have wn1 : IntKind.i64.wrap ((n : Int) + 1) = (n : Int) + 1 := IntWalk.i64_in _ (by omega)
      obtain ⟨hx, hR, hby, hbw⟩ := HX2.out wr hB
      have cr := hR.cell (m := n) (by omega)
      obtain ⟨d0, d1, d2, d3, d4, d5, d6⟩ := hx.cells
      have hxb := hx.lt
      cases hfn : f n
      · rw [hfn] at cr
        have HN5 := Lib.hid (hN.congr (f' := stepTo b x f (n + 1)) (fun m _ => stepTo_no hfn))
        clear hR hN hB hfn hx hby hbw
        go_wp2_with fail
        exact ⟨⟨n + 1, by omega, by go_num, HN5.out, HB.out⟩, by simp [intOf]; omega⟩
      · rw [hfn] at cr
        have HFN := Lib.hid hfn
        cases hg0 : x.gap
        · rw [hg0] at d0
          have HG0 := Lib.hid hg0
          by_cases hnb : n < b.length
          · obtain ⟨bg, bo, hba, hbg, db⟩ := Bytes.at hby hnb
            subst hba
            have n3 : (n : Int) < (b.length : Int) := by omega
            have hY : b[n].toNat < 256 := UInt8.toNat_lt _
            have C := Lib.hid (fun d os => has_p x.cls b[n].toNat hY (grow (redrawn wr d) os))
            unfold setV setC at C
            have q1 := fun d os => cell_regrown d1 d os
            have q2 := fun d os => cell_regrown d2 d os
            have q3 := fun d os => cell_regrown d3 d os
            have q4 := fun d os => cell_regrown d4 d os
            have q5 := fun d os => cell_regrown db d os
            have HF1 := Lib.hid (fun m => fit1_byte (m := m) hg0 (List.getElem?_eq_getElem hnb))
            generalize b[n].toNat = Y at *
            have hN' := hN
            clear hR hN hB hfn hg0 hx hby hbw
            cases hh : hasB x.cls Y
            · rw [hh] at C
              have HN5 := Lib.hid (hN'.congr (f' := stepTo b x f (n + 1)) (fun m _ => by
                rw [Bool.eq_iff_iff, stepTo_yes HFN.out, HF1.out, hh]; simp))
              clear hN' hh
              go_wp2_with fail
              refine wp_region_quiet_below (by kernel_rfl) (by kernel_rfl) ?_
              repeat (go_big_quiet_step ((go_at_call 66; exact Calls.regrown_of (C.out _ _))))
              refine wpQuiet_nil ?_
              intro _ hw'
              obtain ⟨⟨dq, osq⟩, hw''⟩ := hw'
              subst hw''
              have hbr := below_regrown wr dq osq
              have HN6 := Lib.hid (HN5.out.below hbr)
              have HB6 := Lib.hid (HB.out.trans (hbr.mono (by have := HB.out.size; rw [HG.out] at this; exact this)))
              clear q1 q2 q3 q4 q5 C hbr d0 d1 d2 d3 d4 d5 d6 db cr
              go_wp2_with fail
              exact ⟨⟨n + 1, by omega, by go_num, HN6.out, HB6.out⟩, by simp [intOf]; omega⟩
            · rw [hh] at C
              have HHH := Lib.hid hh
              clear hN' hh
              go_wp2_with fail
              refine wp_region_quiet_below (by kernel_rfl) (by kernel_rfl) ?_
              repeat (go_big_quiet_step ((go_at_call 66; exact Calls.regrown_of (C.out _ _))))
              refine wpQuiet_nil ?_
              intro _ hw'
              obtain ⟨⟨dq, osq⟩, hw''⟩ := hw'
              subst hw''
              have hbr := below_regrown wr dq osq
              have hN6 := HN4.out.below hbr
              have hB6 := HB.out.trans (hbr.mono (by have := HB.out.size; rw [HG.out] at this; exact this))
              have fr := hN6.free (n + 1)
              have ce := hN6.cell (m := n + 1) (by omega)
              have HN6 := Lib.hid ((hN6.set (n + 1)).congr (f' := stepTo b x f (n + 1)) (fun m _ => by
                rw [Bool.eq_iff_iff, stepTo_yes HFN.out, HF1.out, HHH.out]; simp [or_comm]))
              have HB6 := Lib.hid (hB6.setCell (p := ⟨G, n + 1, none⟩) (Nat.le_refl _) (.bool true))
              have n4 : (n : Int) + 1 < (b.length : Int) + 1 := by omega
              clear q1 q2 q3 q4 q5 C hbr d0 d1 d2 d3 d4 d5 d6 db cr hN6 hB6
              generalize Go.Sort.grow _ _ = w7 at *
              go_wp2_with fail
              exact ⟨⟨n + 1, by omega, by go_num, HN6.out, HB6.out⟩, by simp [intOf]; omega⟩
          · have n3 : decide ((n : Int) < (b.length : Int)) = false := decide_eq_false (by omega)
            have HN5 := Lib.hid (hN.congr (f' := stepTo b x f (n + 1)) (fun m _ => by
              rw [Bool.eq_iff_iff, stepTo_yes HFN.out]
              have := fit1_none (m := m) hg0 (show b[n]? = none by rw [List.getElem?_eq_none]; omega)
              simp [this]))
            clear hR hN hB hfn hg0 hx hby hbw
            go_wp2_with fail
            refine wp_region_quiet_below (by kernel_rfl) (by kernel_rfl) ?_
            repeat (go_big_quiet_step (fail))
            refine wpQuiet_nil ?_
            intro _ hw'
            obtain ⟨⟨dq, osq⟩, hw''⟩ := hw'
            subst hw''
            have hbr := below_regrown wr dq osq
            have HN6 := Lib.hid (HN5.out.below hbr)
            have HB6 := Lib.hid (HB.out.trans (hbr.mono (by have := HB.out.size; rw [HG.out] at this; exact this)))
            clear hbr d0 d1 d2 d3 d4 d5 d6 cr
            go_wp2_with fail
            exact ⟨⟨n + 1, by omega, by go_num, HN6.out, HB6.out⟩, by simp [intOf]; omega⟩
        · rw [hg0] at d0
          have HG0 := Lib.hid hg0
          obtain ⟨b1, b2, b3⟩ := HK.out hg0
          obtain ⟨lo, hlo⟩ : ∃ lo : Nat, x.low = lo := ⟨x.low.toNat, by omega⟩
          rw [hlo] at d5
          have HLo := Lib.hid hlo
          have HNs := Lib.hid (hN.congr (f' := gapTo x (stepTo b x f n) n lo) (fun m _ => (gapTo_low hlo.symm).symm))
          have b4 : (lo : Int) ≤ x.high := by omega
          clear hR hN hfn hg0 hlo hx hby hbw
          go_wp2_with fail
          clear d0 d1 d2 d3 d4 d5 d6 cr hB hxb
          go_loopw [10] (fun cv wr => ∃ c : Nat, lo ≤ c ∧ (c : Int) ≤ x.high + 1 ∧ cv = .int .i64 (c : Nat) ∧ BRow wr G (b.length + 1) (gapTo x (stepTo b x f n) n c) ∧ Below G w0 wr) (fun cv _ => 17 - (intOf cv).toNat)
          case atStart => exact ⟨lo, by omega, by omega, rfl, HNs.out, HB.out⟩
          case round =>
            obtain ⟨c, hcl, hch, rfl, hN, hB⟩ := hrel
            have HBc := Lib.hid hB
            obtain ⟨hx, _, _, _⟩ := HX2.out wr hB
            obtain ⟨d0, d1, d2, d3, d4, d5, d6⟩ := hx.cells
            have hxb := hx.lt
            have c0 : (0 : Int) ≤ (c : Int) := by omega
            have wc1 : IntKind.i64.wrap ((c : Int) + 1) = (c : Int) + 1 := IntWalk.i64_in _ (by omega)
            have wnc : IntKind.i64.wrap ((n : Int) + (c : Int)) = (n : Int) + (c : Int) := IntWalk.i64_in _ (by omega)
            by_cases h1 : (c : Int) ≤ x.high
            · by_cases h2 : (n : Int) + (c : Int) ≤ (b.length : Int)
              · have fr := hN.free (n + c)
                have ce := hN.cell (m := n + c) (by omega)
                have h3 : (0 : Int) ≤ (n : Int) + (c : Int) := by omega
                have h4 : (n : Int) + (c : Int) < (b.length : Int) + 1 := by omega
                have HN6 := Lib.hid ((hN.set (n + c)).congr (f' := gapTo x (stepTo b x f n) n (c + 1)) (fun m _ => (gapTo_next (by rw [HLo.out]; omega)).symm))
                have HB6 := Lib.hid (hB.setCell (p := ⟨G, n + c, none⟩) (Nat.le_refl _) (.bool true))
                clear hN hB hx
                go_wp2_with fail
                exact ⟨⟨c + 1, by omega, by omega, by go_num, HN6.out, HB6.out⟩, by simp [intOf]; omega⟩
              · have HN6 := Lib.hid (hN.congr (f' := stepTo b x f (n + 1)) (fun m hm => gapTo_end HG0.out (by omega) HFN.out hm (.inr ⟨by omega, by omega⟩)))
                clear hN hB hx
                go_wp2_with fail
                exact ⟨⟨n + 1, by omega, by go_num, HN6.out, HBc.out⟩, by simp [intOf]; omega⟩
            · have HN6 := Lib.hid (hN.congr (f' := stepTo b x f (n + 1)) (fun m hm => gapTo_end HG0.out (by omega) HFN.out hm (.inl (by omega))))
              clear hN hB hx
              go_wp2_with fail
              exact ⟨⟨n + 1, by omega, by go_num, HN6.out, HBc.out⟩, by simp [intOf]; omega⟩
    · obtain rfl : n = b.length + 1 := by omega
      have n1 : ¬ ((b.length : Int) + 1 < (b.length : Int) + 1) := by omega
      have HN5 := Lib.hid (hN.congr (f' := stepP b x f) (fun m hm => stepTo_end hm))
      obtain ⟨_, _, _, hbw⟩ := HX2.out wr hB
      have HBW := Lib.hid hbw
      clear hN hB hbw
      go_wp2_with fail
      go_ret
      exact show RunP _ _ _ _ _ from ⟨G, _, rfl, HN5.out, HBW.out⟩
set_option maxRecDepth 100000 in
set_option maxHeartbeats 4000000 in
theorem run_p (v u : Value) (p : List El) (b : List UInt8) (g0 cp0 : Nat) (f0 : Nat → Bool) (w : World) (h : Pats w v p) (hb : Bytes w u b) (hok : OkP p) (hl : b.length ≤ 4096) (hr : BRow w g0 (b.length + 1) f0) :
    Calls Try.prog 37 #[.slice (some ⟨g0, 0, none⟩) (b.length + 1) cp0, v, u] w (RunP w (b.length + 1) (reachP b p f0)) := by
  have HP := Lib.hid h
  have HBy := Lib.hid hb
  have HK := Lib.hid (fun i (hi : i < p.length) => show ElOk p[i] from fun hg => by obtain ⟨_, a, b, c, _⟩ := hok.gap hi hg; exact ⟨a, b, c⟩)
  have hle := hok.le
  have HR0 := Lib.hid hr
  obtain ⟨a, cap, rfl⟩ := Row.form2 h
  obtain ⟨ua, ucap, rfl⟩ := Row.form2 hb
  clear h hb hok hr
  go_enter Try.func37, Try.ntmps37
  go_wp2_with fail
  go_loopw [0, 11] (fun av iv wr => ∃ i : Nat, i ≤ p.length ∧ iv = .int .i64 (i : Nat) ∧ ∃ g cp, av = .slice (some ⟨g, 0, none⟩) (b.length + 1) cp ∧ BRow wr g (b.length + 1) (reachP b (p.take i) f0) ∧ Below w.heap.size w wr) (fun _ iv _ => p.length - (intOf iv).toNat)
  case atStart => exact ⟨0, by omega, rfl, g0, cp0, rfl, by simpa [reachP] using HR0.out, Below.refl _ _⟩
  case round =>
    obtain ⟨i, hi', rfl, g, cp, rfl, hR, hB⟩ := hrel
    by_cases hlt : i < p.length
    · have i1 : (0 : Int) ≤ (i : Int) := by omega
      have i2 : (i : Int) < (p.length : Int) := by omega
      have wi1 : IntKind.i64.wrap ((i : Int) + 1) = (i : Int) + 1 := IntWalk.i64_in _ (by omega)
      obtain ⟨pg, po, hpa, hpg, d0, d1, d2, d3, d4, d5, d6⟩ := Pats.at (Row.below HP.out hB) hlt
      subst hpa
      have al : Below wr.heap.size wr (wr.alloc (.cells (pcell p[i]).toArray 70)) := (Below.refl _ _).alloc (Nat.le_refl _) _
      have K := Lib.hid (step_p (.slice ua b.length ucap) p[i] b g cp (reachP b (p.take i) f0) _ (Row.below HBy.out (next hB al)) (HK.out i hlt) hl (hR.below al))
      have HN := Lib.hid (show reachP b (p.take (i + 1)) f0 = stepP b p[i] (reachP b (p.take i) f0) by rw [List.take_succ_eq_append_getElem hlt, reachP_snoc])
      have HB := Lib.hid (next hB al)
      clear hB hR al
      unfold elV at K
      go_wp2_with fail
      refine K.out.mono ?_
      rintro e w2 ⟨g', cp', rfl, hr2, hb2⟩
      have HB2 := Lib.hid (next HB.out hb2)
      rw [← HN.out] at hr2
      have HR2 := Lib.hid hr2
      clear hb2 hr2 K d0 d1 d2 d3 d4 d5 d6
      go_wp2_with fail
      exact ⟨⟨i + 1, by omega, by go_num, g', cp', rfl, HR2.out, HB2.out⟩, by simp [intOf]; omega⟩
    · obtain rfl : p.length = i := by omega
      have j1 : ¬ ((p.length : Int) < (p.length : Int)) := by omega
      rw [List.take_of_length_le (Nat.le_refl _)] at hR
      have HR := Lib.hid hR
      have HB := Lib.hid hB
      clear hR hB
      go_wp2_with fail
      go_ret
      exact show RunP _ _ _ _ _ from ⟨g, cp, rfl, HR.out, HB.out⟩
end Go.Proofs.Ytafdaiidnphbaaa

/- slices.Repeat of one truth value. -/
namespace Go.Proofs.Ytafdaiidnphbaaa
open Go.RowKit Go.Sort

theorem and32 {n : Nat} (h : n < 4294967296) : bits .and .u64 (n : Int) 4294967295 = (n : Int) := by
  have := u64_and_nat n 4294967295 (by omega) (by decide)
  have e : n &&& 4294967295 = n := by
    have := Nat.and_two_pow_sub_one_eq_mod n 32
    rw [show (2 : Nat) ^ 32 - 1 = 4294967295 from rfl] at this
    rw [this, Nat.mod_eq_of_lt (by omega)]
  rw [e] at this
  exact this
set_option maxRecDepth 100000 in
set_option maxHeartbeats 4000000 in
theorem mul64_p (n : Nat) (h : n ≤ 5000) (w : World) : Calls Try.prog 90 #[.int .u64 1, .int .u64 (n : Int)] w fun e w' => e = .returned (.tuple #[.int .u64 0, .int .u64 (n : Int)]) ∧ w = w' := by
  have e1 := and32 (n := n) (by omega)
  have e2 : bits .and .u64 1 4294967295 = 1 := by decide
  have e3 : bits .and .u64 0 4294967295 = 0 := by decide
  have e4 : (n : Int) / 4294967296 = 0 := by omega
  have n0 : (0 : Int) ≤ (n : Int) := by omega
  have n1 : (n : Int) ≤ 5000 := by omega
  go_enter Try.func90, Try.ntmps90
  go_wp2_with fail
  go_ret2
  exact ⟨rfl, rfl⟩
theorem boolsOf_len (f : Nat → Bool) (N : Nat) : (boolsOf f N).length = N := by simp [boolsOf]
set_option maxRecDepth 100000 in
set_option maxHeartbeats 4000000 in
theorem mul_p (n : Nat) (h : n ≤ 5000) (w : World) : Calls Try.prog 73 #[.int .u64 1, .int .u64 (n : Int)] w fun e w' => e = .returned (.tuple #[.int .u64 0, .int .u64 (n : Int)]) ∧ w = w' := by
  have n0 : (0 : Int) ≤ (n : Int) := by omega
  have n1 : (n : Int) ≤ 5000 := by omega
  go_enter Try.func73, Try.ntmps73
  go_wp2_with (go_at_call 90; refine (mul64_p n h _).mono ?_; rintro e w' ⟨rfl, rfl⟩)
  go_ret2
  exact ⟨rfl, rfl⟩
theorem splice_bools {N m k : Nat} (h : m + k ≤ N) : splice (boolsOf (fun j => decide (j < m)) N) m (boolsOf (fun _ => true) k) = boolsOf (fun j => decide (j < m + k)) N := by
  apply List.ext_getElem?
  intro j
  unfold splice
  rw [boolsOf_len]
  have hl : ((boolsOf (fun j => decide (j < m)) N).take m).length = m := by rw [List.length_take, boolsOf_len]; omega
  by_cases h1 : j < m
  · rw [List.getElem?_append_left (by omega), List.getElem?_take, if_pos h1, boolsOf_at (by omega), boolsOf_at (by omega)]
    simp [h1, show j < m + k by omega]
  · rw [List.getElem?_append_right (by omega), hl]
    by_cases h2 : j < m + k
    · rw [List.getElem?_append_left (by rw [boolsOf_len]; omega), boolsOf_at (by omega), boolsOf_at (by omega)]
      simp [h2]
    · rw [List.getElem?_append_right (by rw [boolsOf_len]; omega), boolsOf_len, List.getElem?_drop, show m + k + (j - m - k) = j by omega]
      by_cases h3 : j < N
      · rw [boolsOf_at h3, boolsOf_at h3]; simp [h1, h2]
      · rw [List.getElem?_eq_none (by rw [boolsOf_len]; omega), List.getElem?_eq_none (by rw [boolsOf_len]; omega)]
theorem infoB1 : (Try.prog.info? 4).map (·.size) = some 1 := by kernel_rfl
theorem copy_bools {w : World} {G N m k : Nat} (hr : BRow w G N (fun j => decide (j < m))) (a : Addr) (hs : ∀ j, j < k → w.cell? (a.add j) = some (.bool true)) (hmk : m + k ≤ N) (dLen dCap sLen sCap : Nat) (hk : Nat.min sLen dLen = k) :
    ∃ w', (Builtin.copy_ #[62, 62] 3 #[.slice (some ⟨G, m, none⟩) dLen dCap, .slice (some a) sLen sCap]).run Try.prog w = .ok (.int .i64 (k : Int)) w' ∧ BRow w' G N (fun j => decide (j < m + k)) ∧ ∀ B, B ≤ G → Below B w w' := by
  have h := run_copy_row (P := Try.prog) w 62 62 3 4 G m dLen dCap a sLen sCap (boolsOf (fun j => decide (j < m)) N).toArray 4 (boolsOf (fun _ => true) k) Try.underlying62 infoB1 hr
    (by rw [boolsOf_len]; exact hk.symm) (fun j v hj => by
      have hjk : j < k := by have := (List.getElem?_eq_some_iff.1 hj).1; rwa [boolsOf_len] at this
      rw [boolsOf_at hjk] at hj
      cases hj
      exact hs j hjk) (by rw [boolsOf_len, List.size_toArray, boolsOf_len]; exact hmk) (fun v hv => by
      simp [boolsOf] at hv
      rw [← hv.2]; rfl)
  rw [boolsOf_len] at h
  refine ⟨_, h, ?_, fun B hB => below_setRow (Below.refl _ _) hB _⟩
  have e := setRow_heap w G (boolsOf (fun j => decide (j < m)) N).toArray ((boolsOf (fun j => decide (j < m)) N).toArray.toList.take m ++ boolsOf (fun _ => true) k ++ (boolsOf (fun j => decide (j < m)) N).toArray.toList.drop (m + k)).toArray 4 (0, 0) hr
  unfold BRow
  rw [e, ← splice_bools hmk]
  unfold splice
  rw [boolsOf_len, List.append_assoc]
set_option maxRecDepth 100000 in
set_option maxHeartbeats 4000000 in
theorem repeat_p (g0 N : Nat) (w : World) (h1 : 1 ≤ N) (h2 : N ≤ 5000) (hr : BRow w g0 1 (fun _ => true)) :
    Calls Try.prog 60 #[.slice (some ⟨g0, 0, none⟩) 1 1, .int .i64 (N : Int)] w (RunP w N (fun _ => true)) := by
  obtain ⟨i0, hi, hz0, hz1, hz2⟩ := info_parts infoB
  have hr0 := hr.cell (m := 0) (by omega)
  have hg0 := hr.lt
  have n0 : ¬ (N : Int) < 0 := by omega
  have n1 : (N : Int) ≤ 5000 := by omega
  clear hr
  go_enter Try.func60, Try.ntmps60
  go_wp2_with (first
    | (go_at_call 73; refine (mul_p N h2 _).mono ?_; rintro e w' ⟨rfl, rfl⟩)
    | (at_make; refine wpList_make_full _ rfl _ _ 62 rfl w.heap.size 4 i0 _ 1 Try.underlying62 hi hz0 hz1 _ _ _ _ N rfl rfl (by omega) (by omega) (by rw [hz2]; omega) (by unfold maxLen; omega) (Nat.le_refl _) ?_; intro w1 hown hgrow; have hr1 := bools_made (by omega) hown; have hb1 : Below w.heap.size w w1 := (Below.refl _ _).grown hgrow (Nat.le_refl _) (fun q e => by cases e); have hc1 : w1.cell? ⟨g0, 0, none⟩ = some (.bool true) := (hb1.cell (p := ⟨g0, 0, none⟩) hg0).trans hr0; obtain ⟨w2, hcp, hr2, hbc⟩ := copy_bools (m := 0) (k := 1) (hr1.congr (f' := fun j => decide (j < 0)) (fun m _ => by simp)) ⟨g0, 0, none⟩ (fun j hj => by rw [show j = 0 by omega]; exact hc1) (by omega) N N 1 1 (Nat.min_eq_left h1); have HR2 := Lib.hid hr2; have HB2 := Lib.hid (hb1.trans (hbc _ (Nat.le_refl _))); clear hown hgrow hr1 hb1 hc1 hr2 hbc))
  clear hcp hr0
  generalize hG : w.heap.size = G at *
  have HG := Lib.hid hG
  clear hG
  go_loopw [8] (fun nv wr => ∃ m : Nat, 1 ≤ m ∧ m ≤ N ∧ nv = .int .i64 (m : Nat) ∧ BRow wr G N (fun j => decide (j < m)) ∧ Below G w wr) (fun nv _ => N - (intOf nv).toNat)
  case atStart => exact ⟨1, by omega, h1, rfl, HR2.out, HB2.out⟩
  case round =>
    obtain ⟨m, hm1, hm2, rfl, hR, hB⟩ := hrel
    have HR := Lib.hid hR
    have HB := Lib.hid hB
    by_cases hlt : m < N
    · have m0 : (0 : Int) ≤ (m : Int) := by omega
      have m1 : (m : Int) < (N : Int) := by omega
      have hsz : ∀ w', (sizeOf (Try.prog.elem 62)).run Try.prog w' = .ok 1 w' := fun w' => by kernel_rfl
      have hs1 : ∀ w', (Instr.slice 62 (.slice (some ⟨G, 0, none⟩) N N) (some (.int .i64 (m : Int))) none none).run Try.prog w' = .ok (.slice (some ⟨G, m, none⟩) (N - m) (N - m)) w' := fun w' => by
        rw [run_slice_l (P := Try.prog) w' 62 (some ⟨G, 0, none⟩) N N (by kernel_rfl) .i64 (m : Int) (by omega) (by omega), hsz]
        simp only [Result.andThen, sliced, Int.toNat_natCast, if_neg (show ¬ N = m by omega), Option.map_some, Addr.add_lit, Nat.mul_one, Nat.zero_add]
      have hs2 : ∀ w', (Instr.slice 62 (.slice (some ⟨G, 0, none⟩) N N) none (some (.int .i64 (m : Int))) none).run Try.prog w' = .ok (.slice (some ⟨G, 0, none⟩) m N) w' := fun w' => by
        rw [run_slice_h (P := Try.prog) w' 62 (some ⟨G, 0, none⟩) N N (by kernel_rfl) .i64 (m : Int) (by omega) (by omega), hsz]
        simp only [Result.andThen, sliced, Int.toNat_natCast, if_neg (show ¬ N = 0 by omega), Option.map_some, Addr.add_lit, Nat.zero_mul, Nat.add_zero, Nat.sub_zero]
      obtain ⟨k, hk⟩ : ∃ k, k = Nat.min m (N - m) := ⟨_, rfl⟩
      have hk1 : 1 ≤ k := by rw [hk]; exact Nat.le_min.2 ⟨hm1, by omega⟩
      have hk2 : k ≤ m := by rw [hk]; exact Nat.min_le_left _ _
      have hk3 : k ≤ N - m := by rw [hk]; exact Nat.min_le_right _ _
      obtain ⟨w3, hcp, hr3, hb3⟩ := copy_bools (w := wr.drew) (m := m) (k := k) hR ⟨G, 0, none⟩ (fun j hj => by
        have := (show BRow wr.drew G N (fun j => decide (j < m)) from hR).cell (m := j) (by omega)
        rw [Addr.add_lit, Nat.zero_add, this]
        simp; omega) (by omega) (N - m) (N - m) m N hk.symm
      have wmk : IntKind.i64.wrap ((m : Int) + (k : Int)) = (m : Int) + (k : Int) := IntWalk.i64_in _ (by omega)
      have HR3 := Lib.hid hr3
      have HB3 := Lib.hid (HB.out.trans (((Below.refl _ _).drew).trans (hb3 G (Nat.le_refl _))))
      clear hr3 hb3 hR hB hk hsz
      go_wp2_with fail
      go_region
      all_goals
        go_wp2_with fail
        exact ⟨⟨m + k, by omega, by omega, by go_num, HR3.out, HB3.out⟩, by simp [intOf]; omega⟩
    · obtain rfl : m = N := by omega
      have m1 : ¬ ((m : Int) < (m : Int)) := by omega
      have HR3 := Lib.hid (hR.congr (f' := fun _ => true) (fun j hj => by simp [hj]))
      clear hR hB
      go_wp2_with fail
      go_ret
      exact show RunP _ _ _ _ _ from ⟨G, _, rfl, HR3.out, by rw [HG.out]; exact HB.out⟩
end Go.Proofs.Ytafdaiidnphbaaa

/- The iterator over the ends of a pattern. -/
namespace Go.Proofs.Ytafdaiidnphbaaa
open Go.RowKit Go.Sort

/-- blocks of truth values stay -/
def KBool (A B : World) : Prop := ∀ (k : Nat) (cs : Array Value) (fr : Nat × Nat), A.heap[k]? = some (.cells cs 4 fr) → B.heap[k]? = some (.cells cs 4 fr)
theorem KBool.refl (A : World) : KBool A A := fun _ _ _ h => h
theorem KBool.trans {A B C : World} (h : KBool A B) (k : KBool B C) : KBool A C := fun i cs fr e => k i cs fr (h i cs fr e)
theorem KBool.putObj (W : World) (l : Nat) (o o' : Obj) (hl : W.heap[l]? = some o) (ho : o.isCells = false) : KBool W (W.putObj l o') := fun k cs fr h => by
  by_cases e : k = l
  · subst e; rw [hl] at h; cases h; cases ho
  · exact (World.putObj_heap_other e).trans h
theorem KBool.of_below {A B : World} (h : Below A.heap.size A B) : KBool A B := fun k _ _ e => (h.block k (Array.getElem?_eq_some_iff.1 e).1).trans e
theorem KBool.row {A B : World} (h : KBool A B) {g N : Nat} {f : Nat → Bool} (hr : BRow A g N f) : BRow B g N f := h g _ _ hr

theorem range_prefix {k N : Nat} (h : k ≤ N) : List.range k <+: List.range N := by
  obtain ⟨d, rfl⟩ := Nat.exists_eq_add_of_le h
  rw [List.range_add]
  exact List.prefix_append _ _
theorem lit_true (W : World) : BRow (W.alloc (.cells #[.bool true] 4)).drew W.heap.size 1 (fun _ => true) := heap_alloc_new W _
theorem ends_p (v u : Value) (w : World) (hv : ∃ a n c, v = .slice a n c) (hu : ∃ a n c, u = .slice a n c) :
    Calls Try.prog 39 #[v, u] w fun e w' => e = .returned (.func (.func 59) #[] #[.pointer (some ⟨w.heap.size + 1, 0, none⟩), .pointer (some ⟨w.heap.size, 0, none⟩)]) ∧ w' = (w.alloc (.cells #[v] 22)).alloc (.cells #[u] 23) := by
  obtain ⟨a, n, c, rfl⟩ := hv
  obtain ⟨a2, n2, c2, rfl⟩ := hu
  go_enter Try.func39, Try.ntmps39
  go_wp2_with fail
  go_ret
  exact ⟨rfl, rfl⟩

set_option maxRecDepth 100000 in
set_option maxHeartbeats 4000000 in
theorem ends1_in (n l Bb Bp : Nat) (hn : 1 ≤ n) (v u : Value) (p : List El) (b : List UInt8) (W : World) (h : Pats W v p) (hb : Bytes W u b) (hok : OkP p) (hl : b.length ≤ 4096)
    (hcb : W.cell? ⟨Bb, 0, none⟩ = some u) (hcp : W.cell? ⟨Bp, 0, none⟩ = some v) (J Jx : List Nat → World → Prop) (hJ : AbidesFrom W.heap.size J)
    (hY : ∀ (pre : List Nat) (x : Nat) (W1 : World), J pre W1 → pre.length < (endsV p b).length → YieldAt Fence.wide (n - 1) Try.prog l #[.int .i64 (x : Int)] W1 fun e W' =>
      (e = .returned (.bool true) ∧ J (pre ++ [x]) W' ∧ KBool W1 W') ∨ (e = .returned (.bool false) ∧ Jx (pre ++ [x]) W')) (h0 : J [] W) :
    Calls Try.prog 59 #[.func (.yield l) #[] #[], .pointer (some ⟨Bb, 0, none⟩), .pointer (some ⟨Bp, 0, none⟩)] W fun e W' => (∃ v, e = .returned v) ∧ ((∃ xs, xs = endsV p b ∧ J xs W') ∨ (∃ pre, pre <+: endsV p b ∧ Jx pre W')) := by
  have HP := Lib.hid h
  have HBy := Lib.hid hb
  have HK := Lib.hid hok
  have HJ := Lib.hid hJ
  have HY := Lib.hid hY
  have H0 := Lib.hid h0
  obtain ⟨a, cap, rfl⟩ := Row.form2 h
  obtain ⟨ua, ucap, rfl⟩ := Row.form2 hb
  have wl : IntKind.i64.wrap ((b.length : Int) + 1) = (b.length : Int) + 1 := IntWalk.i64_in _ (by omega)
  have hbb := World.block_lt_of_cell? W _ hcb
  have hbp := World.block_lt_of_cell? W _ hcp
  have CB := Lib.hid hcb
  have CP := Lib.hid hcp
  clear h hb hok hJ hY h0
  go_enter Try.func59, Try.ntmps59
  have KRep := Lib.hid (fun g0 w (hr : BRow w g0 1 (fun _ => true)) => (show Calls Try.prog 60 #[.slice (some ⟨g0, 0, none⟩) 1 1, .int .i64 ((b.length : Int) + 1)] w (RunP w (b.length + 1) (fun _ => true)) from repeat_p g0 (b.length + 1) w (by omega) (by omega) hr))
  have KRun := Lib.hid (fun g0 cp0 w (hB : Below W.heap.size W w) (hr : BRow w g0 (b.length + 1) (fun _ => true)) => run_p (.slice a p.length cap) (.slice ua b.length ucap) p b g0 cp0 (fun _ => true) w (Row.below HP.out hB) (Row.below HBy.out hB) HK.out hl hr)
  go_wp2_with fail
  go_region_held3 (fun w' => w'.cell? ⟨Bb, 0, none⟩ = some (.slice ua b.length ucap) ∧ w'.cell? ⟨Bp, 0, none⟩ = some (.slice a p.length cap)) (go_keep) (first
    | (go_at_call 60; refine (KRep.out _ _ (lit_true _)).mono ?_; rintro e w2 ⟨g2, cp2, rfl, hr2, hb2⟩; have HR2 := Lib.hid hr2; have HB2 := Lib.hid ((((Below.refl W.heap.size W).alloc (Nat.le_refl _) (.cells #[.bool true] 4)).drew).trans (hb2.mono (by simp))); clear hr2 hb2 hcb hcp; have hcb := (HB2.out.cell (p := ⟨Bb, 0, none⟩) hbb).trans CB.out; have hcp := (HB2.out.cell (p := ⟨Bp, 0, none⟩) hbp).trans CP.out)
    | (go_at_call 37; refine (KRun.out _ _ _ HB2.out HR2.out).mono ?_; rintro e w3 ⟨g3, cp3, rfl, hr3, hb3⟩; have HR3 := Lib.hid hr3; have HB3 := Lib.hid (next HB2.out hb3); clear hr3 hb3 hcb hcp; have hcb := (HB3.out.cell (p := ⟨Bb, 0, none⟩) hbb).trans CB.out; have hcp := (HB3.out.cell (p := ⟨Bp, 0, none⟩) hbp).trans CP.out))
  have h3 : J [] w3 := HJ.out [] W w3 none H0.out ⟨HB3.out.os, HB3.out.tape, HB3.out.output, HB3.out.size, fun k hk _ => HB3.out.block k hk⟩ (fun r e => by cases e)
  have H3 := Lib.hid h3
  clear h3 hcb hcp CB CP KRep KRun HB2 HR2
  obtain ⟨f, hf⟩ : ∃ f, f = reachP b p (fun _ => true) := ⟨_, rfl⟩
  have he : endsV p b = (List.range (b.length + 1)).filter f := by rw [hf]; rfl
  rw [← hf] at HR3
  rw [he] at HY
  have HE := Lib.hid he
  clear he hf
  go_wp2_with fail
  refine (wpIn_wide (n := n)).1 ?_
  gi_loopw [17] (fun iv wr => ∃ k : Nat, k ≤ b.length + 1 ∧ iv = .int .i64 (k : Nat) ∧ J ((List.range k).filter f) wr ∧ BRow wr g3 (b.length + 1) f) (fun iv _ => b.length + 1 - (intOf iv).toNat)
  case atStart => exact ⟨0, Nat.zero_le _, rfl, H3.out, HR3.out⟩
  case round =>
    obtain ⟨k, hk, rfl, hJs, hR⟩ := hrel
    have HR := Lib.hid hR
    have HJs := Lib.hid hJs
    have k0 : (0 : Int) ≤ (k : Int) := by omega
    by_cases hlt : k < b.length + 1
    · have k1 : (k : Int) < (b.length : Int) + 1 := by omega
      have wk1 : IntKind.i64.wrap ((k : Int) + 1) = (k : Int) + 1 := IntWalk.i64_in _ (by omega)
      have cr := hR.cell hlt
      have HS := Lib.hid (show (List.range (k + 1)).filter f = (List.range k).filter f ++ (if f k then [k] else []) by
        rw [List.range_succ, List.filter_append]
        cases h : f k <;> simp [h])
      cases hfk : f k
      · rw [hfk] at cr HS
        clear hR hJs hfk
        gi_wp2
        refine ⟨fun _ h => (by cases h), ?_⟩
        gi_wp2
        go_roundw
        case rel => exact ⟨k + 1, by omega, by go_num, by rw [HS.out]; simpa using HJs.out, HR.out⟩
        case measure => simp [intOf]; omega
      · rw [hfk] at cr HS
        have hlen : ((List.range k).filter f).length < ((List.range (b.length + 1)).filter f).length := by
          have hp : (List.range (k + 1)).filter f <+: (List.range (b.length + 1)).filter f := by
            exact (range_prefix (show k + 1 ≤ b.length + 1 by omega)).filter f
          have := hp.length_le
          rw [HS.out, List.length_append] at this
          simp at this
          omega
        obtain ⟨fn, tmps, assign, body, hy, hRd⟩ := HY.out _ k wr HJs.out hlen
        clear hR hJs hfk hlen
        gi_wp2
        refine hRd.mono ?_
        rintro e W3 (⟨rfl, hJ3, hk3⟩ | ⟨rfl, hJx3⟩)
        · have HR3' := Lib.hid (hk3.row HR.out)
          have HJ3 := Lib.hid hJ3
          clear hJ3 hk3
          gi_wp2
          go_roundw
          case rel => exact ⟨k + 1, by omega, by go_num, by rw [HS.out]; exact HJ3.out, HR3'.out⟩
          case measure => simp [intOf]; omega
        · gi_wp2
          refine bodyPost_ret (results_none rfl _ _ _) rfl ?_
          refine ⟨⟨_, rfl⟩, .inr ⟨(List.range k).filter f ++ [k], ?_, hJx3⟩⟩
          rw [HE.out]
          have hp : (List.range (k + 1)).filter f <+: (List.range (b.length + 1)).filter f := by
            exact (range_prefix (show k + 1 ≤ b.length + 1 by omega)).filter f
          rwa [HS.out] at hp
    · obtain rfl : k = b.length + 1 := by omega
      gi_wp2
      go_end0
      exact ⟨⟨_, rfl⟩, .inl ⟨_, HE.out.symm, HJs.out⟩⟩
/-- what ends hands back runs through the ends -/
theorem ends_stops (n Bb Bp : Nat) (hn : 1 ≤ n) (v u : Value) (p : List El) (b : List UInt8) (w : World) (h : Pats w v p) (hb : Bytes w u b) (hok : OkP p) (hl : b.length ≤ 4096)
    (hcb : w.cell? ⟨Bb, 0, none⟩ = some u) (hcp : w.cell? ⟨Bp, 0, none⟩ = some v) :
    SeqStopsK Fence.wide n Try.prog 59 #[.pointer (some ⟨Bb, 0, none⟩), .pointer (some ⟨Bp, 0, none⟩)] (fun x : Nat => #[Value.int .i64 (x : Int)]) KBool (fun xs => xs = endsV p b) (fun pre => pre <+: endsV p b) (endsV p b).length w := fun l J Jx W hW hJ _ hY h0 =>
  callsIn_wide.2 (ends1_in n l Bb Bp hn v u p b W (Row.below h hW) (Row.below hb hW) hok hl ((hW.cell (p := ⟨Bb, 0, none⟩) (World.block_lt_of_cell? w _ hcb)).trans hcb) ((hW.cell (p := ⟨Bp, 0, none⟩) (World.block_lt_of_cell? w _ hcp)).trans hcp) J Jx hJ hY h0)
end Go.Proofs.Ytafdaiidnphbaaa

/- The order of hits: compare, slices.SortFunc. -/
namespace Go.Proofs.Ytafdaiidnphbaaa
open Go.RowKit Go.Sort Go.Shelf

abbrev Hit := Int × Int
def cmpI (a b : Int) : Int := if a < b then -1 else if b < a then 1 else 0
def cmpH (x y : Hit) : Int := if cmpI x.1 y.1 ≠ 0 then cmpI x.1 y.1 else cmpI x.2 y.2
def hcell (x : Hit) : List Value := [.int .i64 x.1, .int .i64 x.2]
def hcells (l : List Hit) : List Value := l.flatMap hcell
def hitV (x : Hit) : Value := .agg #[.int .i64 x.1, .int .i64 x.2]

theorem nan_p (a : Int) (w : World) : Calls Try.prog 84 #[.int .i64 a] w fun e w' => e = .returned (.bool false) ∧ w = w' := by
  go_enter Try.func84, Try.ntmps84
  go_wp2_with fail
  go_ret
  exact ⟨rfl, rfl⟩
set_option maxHeartbeats 2000000 in
theorem cmp_p (a b : Int) (w : World) : Calls Try.prog 64 #[.int .i64 a, .int .i64 b] w fun e w' => e = .returned (.int .i64 (cmpI a b)) ∧ w = w' := by
  have HE := Lib.hid (show cmpI a b = if a < b then -1 else if b < a then 1 else 0 from rfl)
  by_cases h1 : a < b
  · rw [if_pos h1] at HE
    go_enter Try.func64, Try.ntmps64
    go_wp2_with (go_at_call 84; refine (nan_p _ _).mono ?_; rintro e w' ⟨rfl, rfl⟩)
    go_ret
    exact ⟨by rw [HE.out]; rfl, rfl⟩
  · rw [if_neg h1] at HE
    by_cases h2 : b < a
    · rw [if_pos h2] at HE
      go_enter Try.func64, Try.ntmps64
      go_wp2_with (go_at_call 84; refine (nan_p _ _).mono ?_; rintro e w' ⟨rfl, rfl⟩)
      go_ret
      exact ⟨by rw [HE.out]; rfl, rfl⟩
    · rw [if_neg h2] at HE
      go_enter Try.func64, Try.ntmps64
      go_wp2_with (go_at_call 84; refine (nan_p _ _).mono ?_; rintro e w' ⟨rfl, rfl⟩)
      go_ret
      exact ⟨by rw [HE.out]; rfl, rfl⟩
set_option maxHeartbeats 2000000 in
theorem or_p (a b E : Int) (hE : (if a ≠ 0 then a else b) = E) (g : Nat) (w : World) (h0 : w.cell? ⟨g, 0, none⟩ = some (.int .i64 a)) (h1 : w.cell? ⟨g, 1, none⟩ = some (.int .i64 b)) :
    Calls Try.prog 63 #[.slice (some ⟨g, 0, none⟩) 2 2] w fun e w' => e = .returned (.int .i64 E) ∧ w = w' := by
  have HE := Lib.hid hE
  clear hE
  go_enter Try.func63, Try.ntmps63
  go_wp2_with fail
  go_loopw [8] (fun iv wr => ∃ i : Nat, i ≤ 2 ∧ iv = .int .i64 (i : Nat) ∧ (1 ≤ i → a = 0) ∧ (2 ≤ i → b = 0) ∧ w = wr) (fun iv _ => 2 - (intOf iv).toNat)
  case atStart => exact ⟨0, by omega, rfl, fun h => absurd h (by decide), fun h => absurd h (by decide), rfl⟩
  case round =>
    obtain ⟨i, hi, rfl, ha, hb, rfl⟩ := hrel
    have hcase : i = 0 ∨ i = 1 ∨ i = 2 := by omega
    rcases hcase with rfl | rfl | rfl
    · clear ha hb
      by_cases hz : a = 0
      · have t : (a != 0) = false := by rw [hz]; rfl
        go_wp2_with fail
        exact ⟨⟨1, by omega, rfl, fun _ => hz, fun h => absurd h (by decide), by first | rfl | trivial⟩, by simp [intOf]⟩
      · have t : (a != 0) = true := bne_iff_ne.2 hz
        have HE2 := Lib.hid (show E = a by rw [← HE.out, if_pos hz])
        clear hz
        go_wp2_with fail
        go_ret
        exact ⟨by rw [HE2.out]; rfl, rfl⟩
    · have ha' := ha (by omega)
      clear ha hb
      by_cases hz : b = 0
      · have t : (b != 0) = false := by rw [hz]; rfl
        go_wp2_with fail
        exact ⟨⟨2, by omega, rfl, fun _ => ha', fun _ => hz, by first | rfl | trivial⟩, by simp [intOf]⟩
      · have t : (b != 0) = true := bne_iff_ne.2 hz
        have HE2 := Lib.hid (show E = b by rw [← HE.out, if_neg (by simp [ha'])])
        clear hz ha'
        go_wp2_with fail
        go_ret
        exact ⟨by rw [HE2.out]; rfl, rfl⟩
    · have ha' := ha (by omega)
      have hb' := hb (by omega)
      have HE2 := Lib.hid (show E = 0 by rw [← HE.out, if_neg (by simp [ha']), hb'])
      clear ha hb ha' hb'
      go_wp2_with fail
      go_ret
      exact ⟨by rw [HE2.out]; rfl, rfl⟩
theorem cell_new1 (W : World) (a b : Int) : ((W.alloc (.cells #[.int .i64 a, .int .i64 b] 3)).drew).cell? ⟨W.heap.size, 0, none⟩ = some (.int .i64 a) ∧ ((W.alloc (.cells #[.int .i64 a, .int .i64 b] 3)).drew).cell? ⟨W.heap.size, 1, none⟩ = some (.int .i64 b) := by
  have h := heap_alloc_new W (.cells #[.int .i64 a, .int .i64 b] 3)
  exact ⟨cell_in (show (W.alloc (.cells #[.int .i64 a, .int .i64 b] 3)).drew.heap[W.heap.size]? = _ from h) rfl, cell_in (show (W.alloc (.cells #[.int .i64 a, .int .i64 b] 3)).drew.heap[W.heap.size]? = _ from h) rfl⟩
set_option maxRecDepth 100000 in
set_option maxHeartbeats 4000000 in
theorem compare_p (x y : Hit) (w : World) : Calls Try.prog 41 #[hitV x, hitV y] w fun e w' => e = .returned (.int .i64 (cmpH x y)) ∧ ∃ q os, w' = grow (w.drewN q) os := by
  obtain ⟨x1, x2⟩ := x
  obtain ⟨y1, y2⟩ := y
  unfold hitV
  have K1 := Lib.hid (fun a b w => cmp_p a b w)
  have KO := Lib.hid (fun g w h0 h1 => or_p (cmpI x1 y1) (cmpI x2 y2) (cmpH (x1, x2) (y1, y2)) rfl g w h0 h1)
  generalize cmpH (x1, x2) (y1, y2) = E at *
  obtain ⟨W, hW⟩ : ∃ W, W = (w.alloc (.cells #[.int .i64 x1, .int .i64 x2] 38)).alloc (.cells #[.int .i64 y1, .int .i64 y2] 38) := ⟨_, rfl⟩
  have hh1 : W.heap[w.heap.size]? = some (.cells #[.int .i64 x1, .int .i64 x2] 38) := by rw [hW]; exact (Below.heap_alloc _ _ _ (by simp)).trans (heap_alloc_new w _)
  have hh2 : W.heap[w.heap.size + 1]? = some (.cells #[.int .i64 y1, .int .i64 y2] 38) := by rw [hW]; have := heap_alloc_new (w.alloc (.cells #[.int .i64 x1, .int .i64 x2] 38)) (.cells #[.int .i64 y1, .int .i64 y2] 38); rwa [World.size_alloc] at this
  have c1 : W.cell? ⟨w.heap.size, 0, none⟩ = some (.int .i64 x1) := cell_in hh1 rfl
  have c2 : W.cell? ⟨w.heap.size, 1, none⟩ = some (.int .i64 x2) := cell_in hh1 rfl
  have c3 : W.cell? ⟨w.heap.size + 1, 0, none⟩ = some (.int .i64 y1) := cell_in hh2 rfl
  have c4 : W.cell? ⟨w.heap.size + 1, 1, none⟩ = some (.int .i64 y2) := cell_in hh2 rfl
  have HW := Lib.hid (show ∃ os, W = grow w os from ⟨_, by rw [hW, alloc_eq_grow, alloc_eq_grow, grow_grow]⟩)
  have hW' := hW.symm
  clear hh1 hh2 hW
  go_enter Try.func41, Try.ntmps41
  go_wp2_with fail
  clear hW'
  go_still_tail 10, (by kernel_rfl)
  still_call ((K1.out x1 y1 _).mono fun e w2 h => ⟨h.1, h.2.symm⟩)
  repeat still_step
  still_call ((K1.out x2 y2 _).mono fun e w2 h => ⟨h.1, h.2.symm⟩)
  repeat still_step
  refine wpStill_nil ?_
  clear c1 c2 c3 c4
  go_wp2_with fail
  refine (KO.out _ _ (cell_new1 _ _ _).1 (cell_new1 _ _ _).2).mono ?_
  rintro e w' ⟨rfl, rfl⟩
  go_wp2_with fail
  go_ret
  obtain ⟨os, rfl⟩ := HW.out
  exact ⟨rfl, 1, os ++ #[.cells #[.int .i64 (cmpI x1 y1), .int .i64 (cmpI x2 y2)] 3], by rw [alloc_eq_grow, grow_grow]; rfl⟩
theorem cmpLays (blk off size : Nat) (w : World) : CmpLays Try.prog 41 #[] hcell 2 cmpH blk off size w :=
  fun _ _ _ _ x y => compare_p x y _

theorem lt_cmp (x y : Hit) : ltOf cmpH x y = decide (x.1 < y.1 ∨ (x.1 = y.1 ∧ x.2 < y.2)) := by
  unfold ltOf cmpH cmpI
  rw [decide_eq_decide]
  by_cases h1 : x.1 < y.1
  · simp [h1]
  · by_cases h2 : y.1 < x.1
    · have h3 : x.1 ≠ y.1 := by omega
      simp [h1, h2, h3]
    · have h3 : x.1 = y.1 := by omega
      by_cases h4 : x.2 < y.2
      · simp [h3, h4]
      · by_cases h5 : y.2 < x.2 <;> simp [h3, h4, h5]
theorem swoH : SWO (ltOf cmpH) where
  irrefl x := by rw [lt_cmp]; simp
  trans x y z h1 h2 := by rw [lt_cmp] at *; simp only [decide_eq_true_eq] at *; omega
  ntrans x y z h1 h2 := by rw [lt_cmp] at *; simp only [decide_eq_false_iff_not] at *; omega
def leH (x y : Hit) : Bool := !ltOf cmpH y x
def sortH (l : List Hit) : List Hit := l.mergeSort leH
theorem sortH_len (l : List Hit) : (sortH l).length = l.length := List.length_mergeSort _
theorem hcell_len (x : Hit) : (hcell x).length = 2 := rfl
theorem hcell_one (x : Hit) : ∀ v ∈ hcell x, v.oneCell' = true := fun v hv => by
  simp [hcell] at hv
  rcases hv with rfl | rfl <;> rfl
theorem owns_grow {w : World} {base : Nat} {e : TypeId} {size n : Nat} {v : Value} {xs : List Value} (h : w.ownsRow base e size v n xs) (os : Array Obj) : (grow w os).ownsRow base e size v n xs := by
  refine ⟨h.1, ?_⟩
  rcases h.2 with h0 | ⟨g, cap, cur, rfl, hb, hg, r⟩
  · exact .inl h0
  · refine .inr ⟨g, cap, cur, rfl, hb, ?_, r⟩
    have hlt := (Array.getElem?_eq_some_iff.1 hg).1
    show (w.heap ++ os)[g]? = _
    rw [Array.getElem?_append_left hlt]; exact hg
theorem below_grow {B : Nat} {w0 w : World} (h : Below B w0 w) (hB : B ≤ w.heap.size) (os : Array Obj) : Below B w0 (grow w os) :=
  h.trans ⟨rfl, rfl, rfl, by simp [grow], fun k hk => by
    show (w.heap ++ os)[k]? = _
    rw [Array.getElem?_append_left (by omega)]⟩
theorem sort_p (g n cap base : Nat) (l : List Hit) (w : World) (h : w.ownsRow base 38 2 (.slice (some ⟨g, 0, none⟩) n cap) n (hcells l)) (hn : l.length = n) (hm : n ≤ 1000000) :
    Calls Try.prog 40 #[.slice (some ⟨g, 0, none⟩) n cap, .func (.func 41) #[] #[]] w fun e w' => e = .returned (.tuple #[]) ∧ w'.ownsRow base 38 2 (.slice (some ⟨g, 0, none⟩) n cap) n (hcells (sortH l)) ∧ w.grownBy w' (some g) := by
  obtain ⟨hb, hgl⟩ := h.lt _ rfl
  have hH := holdsK_of_owns (enc := hcell) (k := 2) hcell_len h
  have eg : ∀ args w, (callFunc 41 args).run Try.prog w = .ok (.enter 41 args) w := enters_of Try.func41 (by kernel_rfl) rfl
  have := AnyQ.slices_SortFunc_total sfuncL 2 Try.isAgg38 Try.sizeOf38 hcell hcell_len hcell_one cmpH swoH 41 #[] g 0 cap l.toArray w eg (cmpLays _ _ _ _) hH hgl (by simp; omega) (fun x y h1 h2 => by
    rw [lt_cmp, decide_eq_false_iff_not] at h1 h2
    exact Prod.ext (by omega) (by omega))
  rw [List.size_toArray, hn] at this
  refine this.mono ?_
  rintro e w' ⟨rfl, q, os, rfl⟩
  have h2 := owns_putRowK (q := q) (ys := sortH l) (m := n) hcell_len h (by rw [sortH_len]; exact hn) (Nat.le_refl _)
  rw [List.take_of_length_le (by rw [sortH_len]; omega)] at h2
  refine ⟨rfl, owns_grow h2 os, ⟨rfl, rfl, rfl, by simp [sortWorldK, grow, putRowK, putRow, mapBlock, Sort.ahead], fun k hk hne => ?_⟩⟩
  have hkg : g ≠ k := fun e => hne (by rw [e])
  show ((w.heap.modify g _) ++ os)[k]? = _
  rw [Array.getElem?_append_left (by simpa using hk), Array.getElem?_modify, if_neg hkg]
theorem sort_none (p : Option Addr) (cap : Nat) (w : World) : Calls Try.prog 40 #[.slice p 0 cap, .func (.func 41) #[] #[]] w fun e w' => e = .returned (.tuple #[]) ∧ w' = w :=
  AnyF.slices_SortFunc_none sfuncL p cap _ w
end Go.Proofs.Ytafdaiidnphbaaa
