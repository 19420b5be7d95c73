/- Ends of patterns. -/
import Derived.Test.YtpjllppbpnkemaaPaMat
import Derived.Deep.AppendLies
namespace Go.Proofs.Ytpjllppbpnkemaa
open Go.RowKit Go.Sort Go.Maps

def endV (p : List El) (b : List UInt8) : List Nat := if seekE p b = 0 then endsV p b else []
def EndP (w : World) (l : List Nat) (x : Int) (e : Ending) (w' : World) : Prop := ∃ v, e = .returned (.tuple #[v, .int .i64 x]) ∧ w'.ownsRow w.heap.size 3 1 v l.length (ncells l) ∧ Below w.heap.size w w'
/-- the ends among the first k bytes -/
def endsTo (b : List UInt8) (p : List El) (k : Nat) : List Nat := (List.range (k + 1)).filter (reachP b p fun _ => true)
theorem endsTo_zero {b : List UInt8} {p : List El} (h : OkP p) : endsTo b p 0 = [] := by
  unfold endsTo
  simp [reach_zero h]
theorem endsTo_yes {b : List UInt8} {p : List El} {k : Nat} (h : reachP b p (fun _ => true) (k + 1) = true) : endsTo b p (k + 1) = endsTo b p k ++ [k + 1] := by
  unfold endsTo
  rw [List.range_succ, List.filter_append]
  simp [h]
theorem endsTo_no {b : List UInt8} {p : List El} {k : Nat} (h : reachP b p (fun _ => true) (k + 1) = false) : endsTo b p (k + 1) = endsTo b p k := by
  unfold endsTo
  rw [List.range_succ, List.filter_append]
  simp [h]
theorem endsTo_len {b : List UInt8} {p : List El} {k : Nat} : (endsTo b p k).length ≤ k + 1 := by
  unfold endsTo
  exact Nat.le_trans (List.length_filter_le _ _) (by simp)
theorem ncells_snoc (l : List Nat) (n : Nat) : ncells (l ++ [n]) = ncells l ++ [.int .i64 (n : Int)] := by simp [ncells]
theorem infoInt : (Try.prog.info? 3).map (fun i => (i.zero, i.size, i.bytes)) = some (some (.int .i64 0), 1, 8) := by kernel_rfl
theorem owns_only {ms : List Nat} {w w' : World} {base : Nat} {e : TypeId} {size n : Nat} {v : Value} {xs : List Value} (h : w.ownsRow base e size v n xs) (ho : Only ms w w') (hn : ∀ g, v.ownBlock = some g → g ∉ ms) : w'.ownsRow base e size v n xs := by
  refine ⟨h.1, ?_⟩
  rcases h.2 with h0 | ⟨g, cap, cur, rfl, hb, hg, r⟩
  · exact .inl h0
  · exact .inr ⟨g, cap, cur, rfl, hb, (ho.block g (Array.getElem?_eq_some_iff.1 hg).1 (hn g rfl)).trans hg, r⟩
/-- a block that is apart from the walker may be written -/
theorem WalkIn.grown {w0 w w' : World} {W : Nat} {pv : Value} {p : List El} {A : Nat} {ms : List Nat} {st : Nat → Nat → Bool} (h : WalkIn w0 w W pv p A ms st) {row : Option Nat} (hg : w.grownBy w' row) (hn : ∀ g, row = some g → g ∉ W :: A :: ms ∧ w0.heap.size ≤ g) : WalkIn w0 w' W pv p A ms st := by
  have hk : ∀ k, k < w.heap.size → k ∈ W :: A :: ms → w'.heap[k]? = w.heap[k]? := fun k hl hm => hg.block k hl (fun e => (hn k e.symm).1 hm)
  have hl : ∀ {k : Nat} {o : Obj}, w.heap[k]? = some o → k ∈ W :: A :: ms → w'.heap[k]? = some o := fun {k o} hk' hm => (hk k (Array.getElem?_eq_some_iff.1 hk').1 hm).trans hk'
  refine ⟨hl h.hw (by simp), hl h.ha (by simp), h.len, fun i hi => (h.m i hi).keep (hk _ (h.m i hi).lt (by simp)), h.nd, h.lo, h.b.grown hg h.b.size (fun k e => (hn k e).2), h.pats⟩
theorem WalkIn.lt {w0 w : World} {W : Nat} {pv : Value} {p : List El} {A : Nat} {ms : List Nat} {st : Nat → Nat → Bool} (h : WalkIn w0 w W pv p A ms st) : ∀ k ∈ W :: A :: ms, k < w.heap.size := by
  intro k hk
  rcases List.mem_cons.1 hk with e | hk
  · rw [e]; exact (Array.getElem?_eq_some_iff.1 h.hw).1
  · rcases List.mem_cons.1 hk with e | hk
    · rw [e]; exact (Array.getElem?_eq_some_iff.1 h.ha).1
    · obtain ⟨j, hj, he⟩ := List.getElem_of_mem hk
      rw [← he]; exact (h.m j hj).lt

set_option maxRecDepth 100000 in
set_option maxHeartbeats 20000000 in
theorem ends_p (v u : Value) (p : List El) (b : List UInt8) (w : World) (h : Pats w v p) (hb : Bytes w u b) :
    Calls Try.prog 16 #[v, u] w (EndP w (endV p b) (seekE p b)) := by
  have KS := Lib.hid (sought_p v u p b w h hb)
  have HP := Lib.hid h
  have HBy := Lib.hid hb
  unfold endV
  by_cases h0 : seekE p b = 0
  · obtain ⟨hok, hl⟩ := seek_ok h0
    rw [if_pos h0, h0]
    rw [h0] at KS
    have HK := Lib.hid hok
    have hle := hok.le
    obtain ⟨ua, ucap, rfl⟩ := Row.form2 hb
    obtain ⟨i0, hi, hz0, hz1, hz2⟩ := info_parts infoInt
    clear h hb h0 hok
    go_enter Try.func16, Try.ntmps16
    go_wp2_with fail
    refine KS.out.mono ?_
    rintro e w1 ⟨rfl, hb1⟩
    have KW := Lib.hid (walk_p v p w1 (Row.below HP.out hb1) hle)
    have HB1 := Lib.hid hb1
    clear hb1 KS
    go_wp2_with fail
    refine KW.out.mono ?_
    rintro e w2 ⟨W, A, ms, rfl, hW⟩
    have HW := Lib.hid hW
    clear hW KW
    go_wp2_with fail
    go_loopw [8, 21] (fun ov iv wr => ∃ k : Nat, k ≤ b.length ∧ iv = .int .i64 (k : Nat) ∧ wr.ownsRow w1.heap.size 3 1 ov (endsTo b p k).length (ncells (endsTo b p k)) ∧ (∀ g, ov.ownBlock = some g → g ∉ W :: A :: ms) ∧ WalkIn w1 wr W v p A ms (fun j c => part b p (fun _ => true) k p.length j c && !(decide (j = 0) && decide (c = 0)))) (fun _ iv _ => b.length - (intOf iv).toNat)
    case atStart =>
      refine ⟨0, by omega, rfl, ?_, (fun g e => by cases e), HW.out.congr (fun j c hj => ?_)⟩
      · rw [endsTo_zero HK.out]; exact World.ownsRow_nil _ _ _ _
      · rw [part_start HK.out j c hj]
        by_cases hz : j = 0 <;> by_cases hc : c = 0 <;> simp [hz, hc]
    case round =>
      obtain ⟨k, hk, rfl, hown, hoff, hW⟩ := hrel
      by_cases hlt : k < b.length
      · obtain ⟨g, o, hga, hg, dn⟩ := Bytes.at (Row.below HBy.out (next HB1.out hW.b)) hlt
        subst hga
        have i1 : (0 : Int) ≤ (k : Int) := by omega
        have i2 : (k : Int) < (b.length : Int) := by omega
        have wi1 : IntKind.i64.wrap ((k : Int) + 1) = (k : Int) + 1 := IntWalk.i64_in _ (by omega)
        have KB := Lib.hid (begin_p hW HK.out)
        have HOwn := Lib.hid hown
        have HOff := Lib.hid hoff
        have HY := Lib.hid (List.getElem?_eq_getElem hlt : b[k]? = some b[k])
        obtain ⟨oa, ocap, rfl⟩ := Row.form2 (Row.of_owns hown)
        clear hW hown hoff
        generalize b[k] = y at *
        generalize hYe : y.toNat = Y at *
        go_wp2_with fail
        refine KB.out.mono ?_
        rintro e w4 ⟨rfl, hW4, hO4⟩
        have hW4' := hW4.congr (st' := part b p (fun _ => true) k p.length) (fun j c hj => by
          unfold enterS
          rw [gap0_gap HK.out.first]
          by_cases hz : j = 0
          · subst hz
            by_cases hc : c = 0
            · subst hc
              rw [part_lt HK.out.pos, sees_zero]
              simp [pre, reachP]
            · simp [hc]
          · simp [hz])
        have KR := Lib.hid (read_p hW4' HK.out y HY.out)
        rw [hYe] at KR
        have HO4 := Lib.hid hO4
        clear hW4 hW4' hO4 KB dn
        go_wp2_with fail
        refine KR.out.mono ?_
        rintro e w5 ⟨rfl, hW5, hO5⟩
        have KO := Lib.hid (over_p hW5 hle)
        have HO5 := Lib.hid (HO4.out.trans hO5)
        clear hW5 KR hO5
        go_wp2_with fail
        refine KO.out.mono ?_
        rintro e w6 ⟨rfl, hW6, hO6⟩
        have hOall := HO5.out.trans hO6
        have hWn := hW6.congr (st' := fun j c => part b p (fun _ => true) (k + 1) p.length j c && !(decide (j = 0) && decide (c = 0))) (fun j c hj => part_done HK.out j c hj)
        rw [part_over HK.out]
        have hown6 := owns_only HOwn.out hOall (fun g e hm => HOff.out g e (by simp [hm]))
        clear hW6 hO6 KO hOall
        cases hr : reachP b p (fun _ => true) (k + 1)
        · have HE := Lib.hid (endsTo_no hr)
          have HOwn6 := Lib.hid hown6
          have HWn := Lib.hid hWn
          clear hown6 hWn hr
          go_wp2_with fail
          exact ⟨⟨k + 1, by omega, by go_num, by rw [HE.out]; exact HOwn6.out, HOff.out, HWn.out⟩, by simp [intOf]; omega⟩
        · have HE := Lib.hid (endsTo_yes hr)
          have HOwn6 := Lib.hid hown6
          have HWn := Lib.hid hWn
          have hlen := endsTo_len (b := b) (p := p) (k := k)
          have hs6 := hWn.b.size
          clear hown6 hWn hr
          go_wp2_with (at_builtin; refine wpList_append_lies _ rfl _ _ _ rfl w1.heap.size 3 i0 _ 1 8 Try.underlying34 hi hz0 hz1 hz2 rfl (by decide) (.slice oa (endsTo b p k).length ocap) (endsTo b p k).length (ncells (endsTo b p k)) rfl (HOwn6.out.alloc _) ⟨w6.heap.size, 0, none⟩ 1 1 [.int .i64 ((k : Int) + 1)] rfl rfl (World.news_of_block (cs := #[.int .i64 ((k : Int) + 1)]) (t := 3) (fr := (0, 0)) (heap_alloc_new w6 _)) (by simp [Value.oneCell']) (by decide) (by unfold maxLen; omega) (by omega) (by simp; omega) (w6.heap.size + 1) (by simp) ?_; intro g9 cap9 w9 hown9 hgrow9 hat9 hlt9)
          have hal := (Below.refl w6.heap.size w6).alloc (Nat.le_refl _) (.cells #[.int .i64 ((k : Int) + 1)] 3)
          have hlo := HWn.out.lt
          have hg9 : g9 ∉ W :: A :: ms := by
            rcases hat9 with he | he
            · exact HOff.out g9 he
            · intro hm; have := hlo g9 hm; omega
          have hW9 := (HWn.out.below hal).grown hgrow9 (fun g e => ⟨HOff.out g e, (HOwn6.out.lt g e).1⟩)
          have hend : w9.ownsRow w1.heap.size 3 1 (.slice (some ⟨g9, 0, none⟩) ((endsTo b p k).length + 1) cap9) (endsTo b p (k + 1)).length (ncells (endsTo b p (k + 1))) := by
            rw [HE.out, List.length_append, List.length_singleton, ncells_snoc]
            exact hown9
          exact ⟨⟨k + 1, by omega, by go_num, hend, (fun g e => by cases e; exact hg9), hW9⟩, by simp [intOf]; omega⟩
      · obtain rfl : b.length = k := by omega
        have i1 : ¬ ((b.length : Int) < (b.length : Int)) := by omega
        have HF := Lib.hid (next HB1.out hW.b)
        have HOwn := Lib.hid hown
        clear hW hown hoff
        go_wp2_with fail
        go_ret2
        exact show EndP _ _ _ _ _ from ⟨_, rfl, ownsRow_base HOwn.out HB1.out.size, HF.out⟩
  · rw [if_neg h0]
    have t1 : (seekE p b != 0) = true := bne_iff_ne.2 h0
    generalize seekE p b = E at *
    clear h hb h0
    go_enter Try.func16, Try.ntmps16
    go_wp2_with fail
    refine KS.out.mono ?_
    rintro e w1 ⟨rfl, hb1⟩
    have HB1 := Lib.hid hb1
    clear hb1
    go_wp2_with fail
    go_ret2
    exact show EndP _ _ _ _ _ from ⟨_, rfl, World.ownsRow_nil _ _ _ _, HB1.out⟩
end Go.Proofs.Ytpjllppbpnkemaa
