/- A pattern that reads bytes, in memory; enter, begin. -/
import Derived.Test.YtpjllppbpnkemaaPaKeys
import Derived.Test.YtpjllppbpnkemaaPaV2
namespace Go.Proofs.Ytpjllppbpnkemaa
open Go.RowKit Go.Sort Go.Maps

def mcells (ms : List Nat) : List Value := ms.map fun (b : Nat) => Value.map (some b)
structure WalkIn (w0 w : World) (W : Nat) (pv : Value) (p : List El) (A : Nat) (ms : List Nat) (st : Nat → Nat → Bool) : Prop where
  hw : w.heap[W]? = some (.cells #[pv, .slice (some ⟨A, 0, none⟩) (p.length + 1) (p.length + 1)] 95)
  ha : w.heap[A]? = some (.cells (mcells ms).toArray 96)
  len : ms.length = p.length + 1
  m : ∀ i (h : i < ms.length), MapIs w ms[i] (st i)
  nd : (W :: A :: ms).Nodup
  lo : ∀ k ∈ W :: A :: ms, w0.heap.size ≤ k
  b : Below w0.heap.size w0 w
  pats : Pats w0 pv p
section
variable {w0 w : World} {W : Nat} {pv : Value} {p : List El} {A : Nat} {ms : List Nat} {st : Nat → Nat → Bool}
theorem WalkIn.congr (h : WalkIn w0 w W pv p A ms st) {st' : Nat → Nat → Bool} (e : ∀ i c, i ≤ p.length → st i c = st' i c) : WalkIn w0 w W pv p A ms st' :=
  ⟨h.hw, h.ha, h.len, fun i hi => (h.m i hi).congr (fun c => e i c (by have := h.len; omega)), h.nd, h.lo, h.b, h.pats⟩
theorem WalkIn.below (h : WalkIn w0 w W pv p A ms st) {w' : World} (hb : Below w.heap.size w w') : WalkIn w0 w' W pv p A ms st :=
  have hl : ∀ {k : Nat} {o : Obj}, w.heap[k]? = some o → w'.heap[k]? = some o := fun {k _} hk => (hb.block k (Array.getElem?_eq_some_iff.1 hk).1).trans hk
  ⟨hl h.hw, hl h.ha, h.len, fun i hi => (h.m i hi).keep (hb.block _ (h.m i hi).lt), h.nd, h.lo, h.b.trans (hb.mono h.b.size), h.pats⟩
theorem WalkIn.cells (h : WalkIn w0 w W pv p A ms st) : w.cell? ⟨W, 0, none⟩ = some pv ∧ w.cell? ⟨W, 1, none⟩ = some (.slice (some ⟨A, 0, none⟩) (p.length + 1) (p.length + 1)) := ⟨cell_in h.hw rfl, cell_in h.hw rfl⟩
theorem WalkIn.map (h : WalkIn w0 w W pv p A ms st) {i : Nat} (hi : i ≤ p.length) : ∃ b, (∃ h' : i < ms.length, ms[i] = b) ∧ w.cell? ⟨A, i, none⟩ = some (.map (some b)) ∧ MapIs w b (st i) := by
  have hi' : i < ms.length := by have := h.len; omega
  exact ⟨ms[i], ⟨hi', rfl⟩, cell_in h.ha (by simp [mcells, List.getElem?_eq_getElem hi']), h.m i hi'⟩
/-- one map has turned -/
theorem WalkIn.turn (h : WalkIn w0 w W pv p A ms st) {i b : Nat} (hb : ∃ h' : i < ms.length, ms[i] = b) {w' : World} {S : Nat → Bool} (hm : MapIs w' b S) (hg : w.grownBy w' (some b)) : WalkIn w0 w' W pv p A ms (fun j c => if j = i then S c else st j c) := by
  obtain ⟨hi, rfl⟩ := hb
  have hnd := h.nd
  rw [List.nodup_cons, List.nodup_cons] at hnd
  obtain ⟨n1, n2, n3⟩ := hnd
  have hin : ms[i] ∈ ms := List.getElem_mem hi
  have hk : ∀ {k : Nat} {o : Obj}, w.heap[k]? = some o → k ≠ ms[i] → w'.heap[k]? = some o := fun {k o} hk hn => (hg.block k (Array.getElem?_eq_some_iff.1 hk).1 (fun e => hn (by cases e; rfl))).trans hk
  refine ⟨hk h.hw (fun e => n1 (by rw [e]; simp [hin])), hk h.ha (fun e => n2 (by rw [e]; exact hin)), h.len, fun j hj => ?_, h.nd, h.lo, h.b.grown hg h.b.size (fun k e => by cases e; exact h.lo _ (by simp [hin])), h.pats⟩
  by_cases e : j = i
  · subst e
    exact hm.congr (fun c => by simp)
  · have hne : ms[j] ≠ ms[i] := fun he => e ((List.getElem_inj n3).1 he)
    have := (h.m j hj).keep (hg.block _ (h.m j hj).lt (fun e => hne (Option.some.inj e)))
    exact this.congr (fun c => by simp [e])
end
/-- of the blocks that were there only those of ms have turned -/
structure Only (ms : List Nat) (w w' : World) : Prop where
  size : w.heap.size ≤ w'.heap.size
  block : ∀ k, k < w.heap.size → k ∉ ms → w'.heap[k]? = w.heap[k]?
theorem Only.of_below {ms : List Nat} {w w' : World} (h : Below w.heap.size w w') : Only ms w w' := ⟨h.size, fun k hk _ => h.block k hk⟩
theorem Only.trans {ms : List Nat} {w w1 w2 : World} (h1 : Only ms w w1) (h2 : Only ms w1 w2) : Only ms w w2 :=
  ⟨Nat.le_trans h1.size h2.size, fun k hk hn => (h2.block k (Nat.lt_of_lt_of_le hk h1.size) hn).trans (h1.block k hk hn)⟩
theorem Only.of_grown {ms : List Nat} {w w' : World} {b : Nat} (h : w.grownBy w' (some b)) (hb : b ∈ ms) : Only ms w w' :=
  ⟨h.size, fun k hk hn => h.block k hk (fun e => hn (by cases e; exact hb))⟩
theorem Only.grown {ms : List Nat} {w w' : World} {i b : Nat} (h : w.grownBy w' (some b)) (hb : ∃ h' : i < ms.length, ms[i] = b) : Only ms w w' := by
  obtain ⟨h1, rfl⟩ := hb
  exact Only.of_grown h (List.getElem_mem h1)
theorem Only.row {ms : List Nat} {w w' : World} (h : Only ms w w') {size n : Nat} {v : Value} {xs : List Value} (hr : Row w size v n xs) (ho : ∀ a m c, v = .slice (some a) m c → a.block ∉ ms) : Row w' size v n xs := by
  obtain ⟨h1, h2, a, cap, rfl, h4, h3⟩ := hr
  refine ⟨h1, h2, a, cap, rfl, h4, ?_⟩
  rcases h3 with h3 | ⟨g, o, rfl, hc⟩
  · exact .inl h3
  · refine .inr ⟨g, o, rfl, fun j hj => ?_⟩
    have e := hc j hj
    have hlt : g < w.heap.size := by
      rw [List.getElem?_eq_getElem (by omega)] at e
      exact World.block_lt_of_cell? w _ e
    rw [← e]
    unfold World.cell?
    rw [h.block g hlt (ho _ _ _ rfl)]
def EnterP (w0 w : World) (W : Nat) (pv : Value) (p : List El) (A : Nat) (ms : List Nat) (st : Nat → Nat → Bool) (e : Ending) (w' : World) : Prop := e = .returned (.tuple #[]) ∧ WalkIn w0 w' W pv p A ms st ∧ Only ms w w'

set_option maxRecDepth 100000 in
set_option maxHeartbeats 4000000 in
/-- an element that is no gap which may be empty -/
theorem enter_one {w0 w : World} {W : Nat} {pv : Value} {p : List El} {A : Nat} {ms : List Nat} {st : Nat → Nat → Bool} (h : WalkIn w0 w W pv p A ms st) (_ : p.length ≤ 512) (i : Nat) (hi : i ≤ p.length) (hg : gap0 p i = false) :
    Calls Try.prog 64 #[.pointer (some ⟨W, 0, none⟩), .int .i64 (i : Int)] w (EnterP w0 w W pv p A ms (enterS p st i)) := by
  obtain ⟨c0, c1⟩ := h.cells
  obtain ⟨b, hb, cm, hm⟩ := h.map hi
  obtain ⟨w', hrun, hm', hgr⟩ := hm.store 0 (by omega)
  have hrun' : (Instr.mapUpdate 96 (.map (some b)) (.int .i64 0) (.bool true)).run Try.prog w = .ok () w' := hrun
  have hT := h.turn hb hm' hgr
  have HON := Lib.hid (Only.grown hgr hb)
  have hF : WalkIn w0 w' W pv p A ms (enterS p st i) := hT.congr (fun j c _ => by
    unfold enterS
    rw [hg]
    by_cases e : j = i
    · subst e; simp [Bool.or_comm]
    · simp [e])
  obtain ⟨d0, d1⟩ := hF.cells
  have HF := Lib.hid hF
  obtain ⟨a, cap, rfl⟩ := Row.form2 h.pats
  have i0 : (0 : Int) ≤ (i : Int) := by omega
  have i1 : (i : Int) < (p.length : Int) + 1 := by omega
  by_cases hlt : i < p.length
  · have hpw : Pats w' (.slice a p.length cap) p := Row.below h.pats hF.b
    obtain ⟨g, o, hga, hgl, e0, e1, e2, e3, e4, e5, e6⟩ := Pats.at hpw hlt
    subst hga
    have i2 : (i : Int) < (p.length : Int) := by omega
    rw [gap0_some hlt] at hg
    clear h hm hrun hm' hgr hT hF hpw e1 e2 e3 e4 e6
    cases hg0 : p[i].gap
    · rw [hg0] at e0
      clear hg
      go_enter Try.func64, Try.ntmps64
      go_wp2_with fail
      refine bodyPost_end (v := .tuple #[]) (by simp [results, Try.results64, go_sem]) rfl ⟨rfl, HF.out, HON.out⟩
    · rw [hg0] at e0 hg
      have hl0 : ¬ p[i].low = 0 := by simpa using hg
      have tl : (p[i].low == 0) = false := beq_eq_false_iff_ne.2 hl0
      clear hg hl0
      go_enter Try.func64, Try.ntmps64
      go_wp2_with fail
      refine bodyPost_end (v := .tuple #[]) (by simp [results, Try.results64, go_sem]) rfl ⟨rfl, HF.out, HON.out⟩
  · have i2 : ¬ (i : Int) < (p.length : Int) := by omega
    clear h hm hrun hm' hgr hT hF
    go_enter Try.func64, Try.ntmps64
    go_wp2_with fail
    refine bodyPost_end (v := .tuple #[]) (by simp [results, Try.results64, go_sem]) rfl ⟨rfl, HF.out, HON.out⟩
set_option maxRecDepth 100000 in
set_option maxHeartbeats 4000000 in
theorem enter_p {w0 w : World} {W : Nat} {pv : Value} {p : List El} {A : Nat} {ms : List Nat} {st : Nat → Nat → Bool} (h : WalkIn w0 w W pv p A ms st) (hok : OkP p) (i : Nat) (hi : i ≤ p.length) :
    Calls Try.prog 64 #[.pointer (some ⟨W, 0, none⟩), .int .i64 (i : Int)] w (EnterP w0 w W pv p A ms (enterS p st i)) := by
  have hs := hok.le
  by_cases hg : gap0 p i = true
  · have hgap : gapAt p i = true := by
      cases hga : gapAt p i
      · rw [gap0_gap hga] at hg; cases hg
      · rfl
    obtain ⟨hn, hgn⟩ := hok.gap_next hgap
    have hlt : i < p.length := by omega
    obtain ⟨c0, c1⟩ := h.cells
    obtain ⟨b, hb, cm, hm⟩ := h.map hi
    obtain ⟨w', hrun, hm', hgr⟩ := hm.store 0 (by omega)
    have hrun' : (Instr.mapUpdate 96 (.map (some b)) (.int .i64 0) (.bool true)).run Try.prog w = .ok () w' := hrun
    have hT := h.turn hb hm' hgr
    have HO1 := Lib.hid (Only.grown hgr hb)
    have K := Lib.hid (enter_one hT hs (i + 1) (by omega) (gap0_gap hgn))
    have HE := Lib.hid (show ∀ j c, enterS p (fun j c => if j = i then (decide (c = 0) || st i c) else st j c) (i + 1) j c = enterS p st i j c from fun j c => by
      unfold enterS
      rw [gap0_gap hgn, hg]
      by_cases e : j = i
      · subst e; simp [Bool.or_comm]
      · simp [e])
    obtain ⟨d0, d1⟩ := hT.cells
    obtain ⟨a, cap, rfl⟩ := Row.form2 h.pats
    have i0 : (0 : Int) ≤ (i : Int) := by omega
    have i1 : (i : Int) < (p.length : Int) + 1 := by omega
    have hpw : Pats w' (.slice a p.length cap) p := Row.below h.pats hT.b
    obtain ⟨g, o, hga, hgl, e0, e1, e2, e3, e4, e5, e6⟩ := Pats.at hpw hlt
    subst hga
    have i2 : (i : Int) < (p.length : Int) := by omega
    have wi1 : IntKind.i64.wrap ((i : Int) + 1) = ((i + 1 : Nat) : Int) := by rw [IntWalk.i64_in _ (by omega)]; omega
    rw [gap0_some hlt] at hg
    have hgg : p[i].gap = true := by rw [← gapAt_some hlt]; exact hgap
    rw [hgg] at hg e0
    have hl0 : p[i].low = 0 := by simpa using hg
    rw [hl0] at e5
    clear h hm hrun hm' hgr hT hpw e1 e2 e3 e4 e6 hg hl0 hgg hgap hgn
    generalize hq : i + 1 = q at *
    clear hq
    go_enter Try.func64, Try.ntmps64
    go_wp2_with fail
    refine K.out.mono ?_
    rintro e w2 ⟨rfl, hW, hO⟩
    have HF := Lib.hid (hW.congr (fun j c _ => HE.out j c))
    have HON := Lib.hid (HO1.out.trans hO)
    clear hW hO
    go_wp2_with fail
    refine bodyPost_end (v := .tuple #[]) (by simp [results, Try.results64, go_sem]) rfl ⟨rfl, HF.out, HON.out⟩
  · exact enter_one h hs i hi (by simpa using hg)
set_option maxRecDepth 100000 in
theorem begin_p {w0 w : World} {W : Nat} {pv : Value} {p : List El} {A : Nat} {ms : List Nat} {st : Nat → Nat → Bool} (h : WalkIn w0 w W pv p A ms st) (hok : OkP p) :
    Calls Try.prog 41 #[.pointer (some ⟨W, 0, none⟩)] w (EnterP w0 w W pv p A ms (enterS p st 0)) := by
  have K := Lib.hid (enter_p h hok 0 (by omega))
  clear h
  go_enter Try.func41, Try.ntmps41
  go_wp2_with fail
  refine K.out.mono ?_
  rintro e w2 ⟨rfl, hW, hO⟩
  have HF := Lib.hid hW
  have HON := Lib.hid hO
  clear hW hO
  go_wp2_with fail
  refine bodyPost_end (v := .tuple #[]) (by simp [results, Try.results41, go_sem]) rfl ⟨rfl, HF.out, HON.out⟩
end Go.Proofs.Ytpjllppbpnkemaa
