/- Ends of the reference. -/
import Derived.Test.YtllkohjmghoipaaPaMatR
namespace Go.Proofs.Ytllkohjmghoipaa
open Go.RowKit Go.Sort

theorem BRow.put {w : World} {g N : Nat} {f : Nat → Bool} (h : BRow w g N f) (m : Nat) (x : Bool) : BRow (w.setCell ⟨g, m, none⟩ (.bool x)) g N (fun j => if j = m then x else f j) := by
  unfold BRow at h ⊢
  rw [heap_setCell_at _ h]
  congr 2
  apply Array.ext'
  apply List.ext_getElem?
  intro j
  rw [Array.toList_setIfInBounds, List.toList_toArray, List.getElem?_set]
  by_cases hj : j < N
  · rw [boolsOf_at hj, boolsOf_at hj]
    by_cases e : m = j
    · subst e
      have : m < (boolsOf f N).length := by simp [boolsOf]; exact hj
      simp [this]
    · simp [e, Ne.symm e]
  · have e1 : (boolsOf f N)[j]? = none := by rw [List.getElem?_eq_none_iff]; simp [boolsOf]; omega
    have e2 : (boolsOf (fun j => if j = m then x else f j) N)[j]? = none := by rw [List.getElem?_eq_none_iff]; simp [boolsOf]; omega
    rw [e1, e2]
    by_cases e : m = j
    · subst e
      have : ¬ m < (boolsOf f N).length := by simp [boolsOf]; omega
      simp [this]
    · simp [e]
/-- reached from one of the first F places -/
def allTo (b : List UInt8) (p : List El) (F m : Nat) : Bool := (List.range F).any fun s => reachP b p (fun j => decide (j = s)) m
theorem allTo_next {b : List UInt8} {p : List El} {F m : Nat} : allTo b p (F + 1) m = (allTo b p F m || reachP b p (fun j => decide (j = F)) m) := by
  unfold allTo
  rw [List.range_succ]
  simp
theorem allTo_end {b : List UInt8} {p : List El} {N m : Nat} (hm : m < N) : allTo b p N m = reachP b p (fun _ => true) m := by
  unfold allTo
  rw [Bool.eq_iff_iff, List.any_eq_true, reachP_fits]
  simp only [List.mem_range, reachP_fits, decide_eq_true_eq]
  constructor
  · rintro ⟨s, _, i, rfl, h⟩; exact ⟨i, trivial, h⟩
  · rintro ⟨i, _, h⟩
    have := fits_le h
    exact ⟨i, by omega, i, rfl, h⟩
def midTo (b : List UInt8) (p : List El) (F n m : Nat) : Bool := if m < n then allTo b p (F + 1) m else allTo b p F m
/-- the ends before n -/
def endsLt (b : List UInt8) (p : List El) (n : Nat) : List Nat := (List.range n).filter (reachP b p fun _ => true)
theorem endsLt_yes {b : List UInt8} {p : List El} {n : Nat} (h : reachP b p (fun _ => true) n = true) : endsLt b p (n + 1) = endsLt b p n ++ [n] := by
  unfold endsLt
  rw [List.range_succ, List.filter_append]
  simp [h]
theorem endsLt_no {b : List UInt8} {p : List El} {n : Nat} (h : reachP b p (fun _ => true) n = false) : endsLt b p (n + 1) = endsLt b p n := by
  unfold endsLt
  rw [List.range_succ, List.filter_append]
  simp [h]
theorem endsLt_len {b : List UInt8} {p : List El} {n : Nat} : (endsLt b p n).length ≤ n := by
  unfold endsLt
  exact Nat.le_trans (List.length_filter_le _ _) (by simp)
set_option maxRecDepth 100000 in
set_option maxHeartbeats 20000000 in
theorem ends_r (v u : Value) (p : List El) (b : List UInt8) (w : World) (h : Pats w v p) (hb : Bytes w u b) :
    Calls Try.prog 20 #[v, u] w (EndP w (endV p b) (seekE p b)) := by
  have KS := Lib.hid (sought_r v u p b w h hb)
  have HP := Lib.hid h
  have HBy := Lib.hid hb
  unfold endV
  by_cases h0 : seekE p b = 0
  · obtain ⟨hok, hl⟩ := seek_ok h0
    rw [if_pos h0, h0]
    rw [h0] at KS
    have KF := Lib.hid (fun s (hs : s ≤ b.length) w1 (hb1 : Below w.heap.size w w1) => from_r v u p b s w1 (Row.below HP.out hb1) (Row.below HBy.out hb1) hok hl hs)
    obtain ⟨ua, ucap, rfl⟩ := Row.form2 hb
    obtain ⟨i0, hi, hz0, hz1, hz2⟩ := info_parts infoB
    obtain ⟨j0, hj, hy0, hy1, hy2⟩ := info_parts infoInt
    have wl : IntKind.i64.wrap ((b.length : Int) + 1) = (b.length : Int) + 1 := IntWalk.i64_in _ (by omega)
    clear h hb h0 hok
    go_enter Try.func20, Try.ntmps20
    go_wp2_with fail
    refine KS.out.mono ?_
    rintro e w1 ⟨rfl, hb1⟩
    have HB1 := Lib.hid hb1
    have hs1 := hb1.size
    clear hb1 KS
    go_wp2_with (at_make; refine wpList_make_full _ rfl _ _ 62 rfl w1.heap.size 4 i0 _ 1 Try.underlying62 hi hz0 hz1 _ _ _ _ (b.length + 1) rfl rfl (by omega) (by omega) (by rw [hz2]; omega) (by unfold maxLen; omega) (Nat.le_refl _) ?_; intro w2 hown hgrow)
    have hr2 := bools_made (by omega) hown
    have hb2 : Below w1.heap.size w1 w2 := (Below.refl _ _).grown hgrow (Nat.le_refl _) (fun q e => by cases e)
    have HR2 := Lib.hid (hr2.congr (f' := allTo b p 0) (fun m _ => by simp [allTo]))
    have HB2 := Lib.hid (next HB1.out hb2)
    clear hown hgrow hr2 hb2
    generalize w1.heap.size = G at *
    go_loopw [8] (fun fv wr => ∃ F : Nat, F ≤ b.length + 1 ∧ fv = .int .i64 (F : Nat) ∧ BRow wr G (b.length + 1) (allTo b p F) ∧ Below w.heap.size w wr) (fun fv _ => b.length + 1 - (intOf fv).toNat)
    case atStart => exact ⟨0, by omega, rfl, HR2.out, HB2.out⟩
    case round =>
      obtain ⟨F, hF, rfl, hR, hB⟩ := hrel
      by_cases hFt : F ≤ b.length
      · have f1 : (F : Int) ≤ (b.length : Int) := by omega
        have wf1 : IntKind.i64.wrap ((F : Int) + 1) = (F : Int) + 1 := IntWalk.i64_in _ (by omega)
        have K := Lib.hid (KF.out F hFt wr hB)
        have HR := Lib.hid hR
        have HB := Lib.hid hB
        have hGl := hR.lt
        clear hR hB
        go_wp2_with fail
        refine K.out.mono ?_
        rintro e w3 ⟨g, rfl, hR3, hg3, hb3⟩
        have HR3 := Lib.hid hR3
        have HN3 := Lib.hid ((HR.out.below hb3).congr (f' := midTo b p F 0) (fun m _ => by simp [midTo]))
        have HB3 := Lib.hid (next HB.out hb3)
        have hgG : g ≠ G := by omega
        clear hR3 hb3 K hg3 hGl
        go_wp2_with fail
        go_loopw [10] (fun nv wr => ∃ n : Nat, n ≤ b.length + 1 ∧ nv = .int .i64 (n : Nat) ∧ BRow wr g (b.length + 1) (reachP b p fun j => decide (j = F)) ∧ BRow wr G (b.length + 1) (midTo b p F n) ∧ Below w.heap.size w wr) (fun nv _ => b.length + 1 - (intOf nv).toNat)
        case atStart => exact ⟨0, by omega, rfl, HR3.out, HN3.out, HB3.out⟩
        case round =>
          obtain ⟨n, hn, rfl, hR, hN, hB⟩ := hrel
          have HR := Lib.hid hR
          by_cases hnt : n ≤ b.length
          · have n0 : (0 : Int) ≤ (n : Int) := by omega
            have n1 : (n : Int) ≤ (b.length : Int) := by omega
            have n2 : (n : Int) < (b.length : Int) + 1 := by omega
            have wn1 : IntKind.i64.wrap ((n : Int) + 1) = (n : Int) + 1 := IntWalk.i64_in _ (by omega)
            have cr := hR.cell (m := n) (by omega)
            have cn := hN.cell (m := n) (by omega)
            have fn := hN.free n
            have hold : midTo b p F n n = allTo b p F n := by unfold midTo; rw [if_neg (by omega)]
            rw [hold] at cn
            have HX := Lib.hid (allTo_next (b := b) (p := p) (F := F) (m := n))
            have key : ∀ x, x = allTo b p (F + 1) n → ∀ m, (if m = n then x else midTo b p F n m) = midTo b p F (n + 1) m := fun x hx m => by
              unfold midTo
              by_cases e : m = n
              · subst e; rw [if_pos rfl, if_pos (by omega), hx]
              · rw [if_neg e]
                by_cases h : m < n
                · rw [if_pos h, if_pos (by omega)]
                · rw [if_neg h, if_neg (by omega)]
            have hbG : w.heap.size ≤ G := hs1
            cases ho : allTo b p F n
            · rw [ho] at cn
              cases hr : reachP b p (fun j => decide (j = F)) n
              · rw [hr] at cr
                have HN5 := Lib.hid ((hN.put n false).congr (fun m _ => key false (by rw [HX.out, ho, hr]; rfl) m))
                have HR5 := Lib.hid (hR.keep (Below.heap_setCell wr ⟨G, n, none⟩ (.bool false) g hgG))
                have HB5 := Lib.hid (hB.setCell (p := ⟨G, n, none⟩) hbG (.bool false))
                clear hR hN hB ho hr key hold
                go_wp2_with fail
                exact ⟨⟨n + 1, by omega, by go_num, HR5.out, HN5.out, HB5.out⟩, by simp [intOf]; omega⟩
              · rw [hr] at cr
                have HN5 := Lib.hid ((hN.put n true).congr (fun m _ => key true (by rw [HX.out, ho, hr]; rfl) m))
                have HR5 := Lib.hid (hR.keep (Below.heap_setCell wr ⟨G, n, none⟩ (.bool true) g hgG))
                have HB5 := Lib.hid (hB.setCell (p := ⟨G, n, none⟩) hbG (.bool true))
                clear hR hN hB ho hr key hold
                go_wp2_with fail
                exact ⟨⟨n + 1, by omega, by go_num, HR5.out, HN5.out, HB5.out⟩, by simp [intOf]; omega⟩
            · rw [ho] at cn
              have HN5 := Lib.hid ((hN.put n true).congr (fun m _ => key true (by rw [HX.out, ho]; rfl) m))
              have HR5 := Lib.hid (hR.keep (Below.heap_setCell wr ⟨G, n, none⟩ (.bool true) g hgG))
              have HB5 := Lib.hid (hB.setCell (p := ⟨G, n, none⟩) hbG (.bool true))
              clear hR hN hB ho key hold
              go_wp2_with fail
              exact ⟨⟨n + 1, by omega, by go_num, HR5.out, HN5.out, HB5.out⟩, by simp [intOf]; omega⟩
          · obtain rfl : n = b.length + 1 := by omega
            have n1 : ¬ ((b.length : Int) + 1 ≤ (b.length : Int)) := by omega
            have HN5 := Lib.hid (hN.congr (f' := allTo b p (F + 1)) (fun m hm => by unfold midTo; rw [if_pos hm]))
            have HB5 := Lib.hid hB
            clear hR hN hB
            go_wp2_with fail
            exact ⟨⟨F + 1, by omega, by go_num, HN5.out, HB5.out⟩, by simp [intOf]; omega⟩
      · obtain rfl : F = b.length + 1 := by omega
        have f1 : ¬ ((b.length : Int) + 1 ≤ (b.length : Int)) := by omega
        have HR := Lib.hid (hR.congr (f' := reachP b p fun _ => true) (fun m hm => allTo_end hm))
        have HB := Lib.hid hB
        have hGl := hR.lt
        clear hR hB
        go_wp2_with fail
        generalize hw5 : wr = w5 at *
        clear hw5
        go_loopw [11, 12] (fun ov nv wr => ∃ n : Nat, n ≤ b.length + 1 ∧ nv = .int .i64 (n : Nat) ∧ wr.ownsRow w5.heap.size 3 1 ov (endsLt b p n).length (ncells (endsLt b p n)) ∧ BRow wr G (b.length + 1) (reachP b p fun _ => true) ∧ Below w5.heap.size w5 wr) (fun _ nv _ => b.length + 1 - (intOf nv).toNat)
        case atStart => exact ⟨0, by omega, rfl, World.ownsRow_nil _ _ _ _, HR.out, Below.refl _ _⟩
        case round =>
          obtain ⟨n, hn, rfl, hown, hR2, hB2⟩ := hrel
          obtain ⟨oa, ocap, rfl⟩ := Row.form2 (Row.of_owns hown)
          have HO := Lib.hid hown
          have HR2 := Lib.hid hR2
          have HB2 := Lib.hid hB2
          by_cases hnt : n ≤ b.length
          · have n0 : (0 : Int) ≤ (n : Int) := by omega
            have n1 : (n : Int) ≤ (b.length : Int) := by omega
            have n2 : (n : Int) < (b.length : Int) + 1 := by omega
            have wn1 : IntKind.i64.wrap ((n : Int) + 1) = (n : Int) + 1 := IntWalk.i64_in _ (by omega)
            have cr := hR2.cell (m := n) (by omega)
            have hs2 := hB2.size
            have hlen := endsLt_len (b := b) (p := p) (n := n)
            clear hown hR2 hB2
            cases hr : reachP b p (fun _ => true) n
            · rw [hr] at cr
              have HE := Lib.hid (endsLt_no hr)
              clear hr
              go_wp2_with fail
              exact ⟨⟨n + 1, by omega, by go_num, by rw [HE.out]; exact HO.out, HR2.out, HB2.out⟩, by simp [intOf]; omega⟩
            · rw [hr] at cr
              have HE := Lib.hid (endsLt_yes hr)
              clear hr
              go_wp2_with (at_builtin; refine wpList_append_lies _ rfl _ _ _ rfl w5.heap.size 3 j0 _ 1 8 Try.underlying33 hj hy0 hy1 hy2 rfl (by decide) (.slice oa (endsLt b p n).length ocap) (endsLt b p n).length (ncells (endsLt b p n)) rfl (HO.out.alloc _) ⟨wr.heap.size, 0, none⟩ 1 1 [.int .i64 (n : Int)] rfl rfl (World.news_of_block (cs := #[.int .i64 (n : Int)]) (t := 3) (fr := (0, 0)) (heap_alloc_new wr _)) (by simp [Value.oneCell']) (by decide) (by unfold maxLen; omega) (by omega) (by simp; omega) (wr.heap.size + 1) (by simp) ?_; intro g9 cap9 w9 hown9 hgrow9 hat9 hlt9)
              have hal := (Below.refl w5.heap.size wr).alloc hs2 (.cells #[.int .i64 (n : Int)] 3)
              have hb9 : Below w5.heap.size wr w9 := hal.grown hgrow9 (by simp; omega) (fun q e => (HO.out.lt q e).1)
              have hend : w9.ownsRow w5.heap.size 3 1 (.slice (some ⟨g9, 0, none⟩) ((endsLt b p n).length + 1) cap9) (endsLt b p (n + 1)).length (ncells (endsLt b p (n + 1))) := by
                rw [HE.out, List.length_append, List.length_singleton, ncells_snoc]
                exact hown9
              exact ⟨⟨n + 1, by omega, by go_num, hend, HR2.out.keep (hb9.block G hGl), HB2.out.trans hb9⟩, by simp [intOf]; omega⟩
          · obtain rfl : n = b.length + 1 := by omega
            have n1 : ¬ ((b.length : Int) + 1 ≤ (b.length : Int)) := by omega
            clear hown hR2 hB2
            go_wp2_with fail
            go_ret2
            exact show EndP _ _ _ _ _ from ⟨_, rfl, ownsRow_base HO.out HB.out.size, next HB.out HB2.out⟩
  · rw [if_neg h0]
    have t1 : (seekE p b != 0) = true := bne_iff_ne.2 h0
    generalize seekE p b = E at *
    clear h hb h0
    go_enter Try.func20, Try.ntmps20
    go_wp2_with fail
    refine KS.out.mono ?_
    rintro e w1 ⟨rfl, hb1⟩
    have HB1 := Lib.hid hb1
    clear hb1
    go_wp2_with fail
    go_ret2
    exact show EndP _ _ _ _ _ from ⟨_, rfl, World.ownsRow_nil _ _ _ _, HB1.out⟩
end Go.Proofs.Ytllkohjmghoipaa
