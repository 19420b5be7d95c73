/- Lengths of patterns, and what is sought. -/
import Derived.Test.YtllkohjmghoipaaPaChkR
namespace Go.Proofs.Ytllkohjmghoipaa
open Go.RowKit Go.Sort

theorem lowOf_in {p : List El} (h : OkP p) {i : Nat} (hi : i < p.length) : 0 ≤ lowOf p[i] ∧ lowOf p[i] ≤ 16 ∧ 0 ≤ highOf p[i] ∧ highOf p[i] ≤ 16 := by
  unfold lowOf highOf
  cases hg : p[i].gap
  · simp
  · obtain ⟨_, h1, h2, h3, _⟩ := h.gap hi hg
    simp only [if_true]
    omega
theorem sum_in {p : List El} (h : OkP p) (f : El → Int) (hf : ∀ i (hi : i < p.length), 0 ≤ f p[i] ∧ f p[i] ≤ 16) : ∀ i, i ≤ p.length → 0 ≤ ((p.take i).map f).sum ∧ ((p.take i).map f).sum ≤ 16 * (i : Int)
  | 0, _ => by simp
  | i + 1, hi => by
    have ih := sum_in h f hf i (by omega)
    have := hf i (by omega)
    rw [List.take_succ_eq_append_getElem (by omega), List.map_append, List.sum_append]
    simp only [List.map_cons, List.map_nil, List.sum_cons, List.sum_nil]
    omega
theorem sum_next {p : List El} (f : El → Int) {i : Nat} (hi : i < p.length) : ((p.take (i + 1)).map f).sum = ((p.take i).map f).sum + f p[i] := by
  rw [List.take_succ_eq_append_getElem hi, List.map_append, List.sum_append]
  simp
def lenV (p : List El) : Int × Int × Int := if (checkV p).2 = 0 then (leastV p, mostV p, 0) else (0, 0, (checkV p).2)
def seekE (p : List El) (b : List UInt8) : Int := if (checkV p).2 ≠ 0 then (checkV p).2 else if 4096 < b.length then 3 else 0

set_option maxRecDepth 100000 in
set_option maxHeartbeats 20000000 in
theorem lengths_p (v : Value) (p : List El) (w : World) (h : Pats w v p) :
    Calls Try.prog 15 #[v] w fun e w' => e = .returned (.tuple #[.int .i64 (lenV p).1, .int .i64 (lenV p).2.1, .int .i64 (lenV p).2.2]) ∧ Below w.heap.size w w' := by
  have KC := Lib.hid (check_p v p w h)
  have HP := Lib.hid h
  have hmax : p.length ≤ maxLen := h.2.1
  unfold maxLen at hmax
  obtain ⟨a, cap, rfl⟩ := Row.form2 h
  clear h
  unfold lenV
  by_cases h0 : (checkV p).2 = 0
  · have hk := okP_of h0
    rw [checkV_ok h0] at KC
    rw [if_pos h0]
    have HK := Lib.hid hk
    have hle := hk.le
    clear h0 hk
    go_enter Try.func15, Try.ntmps15
    go_wp2_with fail
    refine KC.out.mono ?_
    rintro e w1 ⟨rfl, hb1⟩
    have HB1 := Lib.hid hb1
    clear hb1
    go_wp2_with fail
    go_loopw [2, 3, 19] (fun lv mv iv wr => ∃ i : Nat, i ≤ p.length ∧ iv = .int .i64 (i : Nat) ∧ lv = .int .i64 ((p.take i).map lowOf).sum ∧ mv = .int .i64 ((p.take i).map highOf).sum ∧ Below w.heap.size w wr) (fun _ _ iv _ => p.length - (intOf iv).toNat)
    case atStart => exact ⟨0, by omega, rfl, rfl, rfl, HB1.out⟩
    case round =>
      obtain ⟨i, hi, rfl, rfl, rfl, hB⟩ := hrel
      have HB := Lib.hid hB
      clear hB
      by_cases hlt : i < p.length
      · obtain ⟨g, o, hga, hg, d0, d1, d2, d3, d4, d5, d6⟩ := Pats.at (Row.below HP.out HB.out) hlt
        subst hga
        have i1 : (0 : Int) ≤ (i : Int) := by omega
        have i2 : (i : Int) < (p.length : Int) := by omega
        have wi1 : IntKind.i64.wrap ((i : Int) + 1) = (i : Int) + 1 := IntWalk.i64_in _ (by omega)
        have hn1 := sum_next lowOf hlt
        have hn2 := sum_next highOf hlt
        have HN1 := Lib.hid hn1
        have HN2 := Lib.hid hn2
        have b1 := sum_in HK.out lowOf (fun i hi => ⟨(lowOf_in HK.out hi).1, (lowOf_in HK.out hi).2.1⟩) i hi
        have b2 := sum_in HK.out highOf (fun i hi => ⟨(lowOf_in HK.out hi).2.2.1, (lowOf_in HK.out hi).2.2.2⟩) i hi
        have b3 := lowOf_in HK.out hlt
        generalize ((p.take i).map lowOf).sum = L at *
        generalize ((p.take i).map highOf).sum = M at *
        clear hn1 hn2
        have HL := Lib.hid (show lowOf p[i] = if p[i].gap then p[i].low else 1 from rfl)
        have HM := Lib.hid (show highOf p[i] = if p[i].gap then p[i].high else 1 from rfl)
        cases hg0 : p[i].gap
        · rw [hg0] at d0
          have e1 := HL.out
          have e2 := HM.out
          rw [hg0] at e1 e2
          rw [if_neg (by decide)] at e1 e2
          rw [e1] at HN1
          rw [e2] at HN2
          have hal : (wr.alloc (.cells #[.bool false, .int .u64 (word p[i].cls 0 : Int), .int .u64 (word p[i].cls 1 : Int), .int .u64 (word p[i].cls 2 : Int), .int .u64 (word p[i].cls 3 : Int), .int .i64 p[i].low, .int .i64 p[i].high] 47)).heap[wr.heap.size]? = _ := heap_alloc_new _ _
          have HBA := Lib.hid (((HB.out.alloc HB.out.size (.cells #[.bool false, .int .u64 (word p[i].cls 0 : Int), .int .u64 (word p[i].cls 1 : Int), .int .u64 (word p[i].cls 2 : Int), .int .u64 (word p[i].cls 3 : Int), .int .i64 p[i].low, .int .i64 p[i].high] 47)).setCell (p := ⟨wr.heap.size, 5, none⟩) HB.out.size (.int .i64 1)).setCell (p := ⟨wr.heap.size, 6, none⟩) HB.out.size (.int .i64 1))
          have w1 : IntKind.i64.wrap (L + 1) = L + 1 := IntWalk.i64_in _ (by omega)
          have w2 : IntKind.i64.wrap (M + 1) = M + 1 := IntWalk.i64_in _ (by omega)
          clear e1 e2 HL HM b3
          go_wp2_with fail
          exact ⟨⟨i + 1, by omega, by go_num, by rw [HN1.out], by rw [HN2.out], by first | exact HBA.out | exact HB.out.alloc HB.out.size _⟩, by simp [intOf]; omega⟩
        · rw [hg0] at d0
          have e1 := HL.out
          have e2 := HM.out
          rw [hg0] at e1 e2
          rw [if_pos rfl] at e1 e2
          rw [e1] at HN1 b3
          rw [e2] at HN2 b3
          have HBA := Lib.hid (HB.out.alloc HB.out.size (.cells #[.bool true, .int .u64 (word p[i].cls 0 : Int), .int .u64 (word p[i].cls 1 : Int), .int .u64 (word p[i].cls 2 : Int), .int .u64 (word p[i].cls 3 : Int), .int .i64 p[i].low, .int .i64 p[i].high] 47))
          have w1 : IntKind.i64.wrap (L + p[i].low) = L + p[i].low := IntWalk.i64_in _ (by omega)
          have w2 : IntKind.i64.wrap (M + p[i].high) = M + p[i].high := IntWalk.i64_in _ (by omega)
          clear e1 e2 HL HM b3
          go_wp2_with fail
          exact ⟨⟨i + 1, by omega, by go_num, by rw [HN1.out], by rw [HN2.out], HBA.out⟩, by simp [intOf]; omega⟩
      · obtain rfl : p.length = i := by omega
        have i1 : ¬ ((p.length : Int) < (p.length : Int)) := by omega
        rw [List.take_of_length_le (Nat.le_refl _)]
        have HL := Lib.hid (show leastV p = (p.map lowOf).sum from rfl)
        have HM := Lib.hid (show mostV p = (p.map highOf).sum from rfl)
        generalize (p.map lowOf).sum = L at *
        generalize (p.map highOf).sum = M at *
        go_wp2_with fail
        go_ret3
        exact ⟨by rw [HL.out, HM.out]; rfl, HB.out⟩
  · rw [if_neg h0]
    have t1 : ((checkV p).2 != 0) = true := bne_iff_ne.2 h0
    generalize checkV p = E at *
    obtain ⟨E1, E2⟩ := E
    simp only at *
    clear h0
    go_enter Try.func15, Try.ntmps15
    go_wp2_with fail
    refine KC.out.mono ?_
    rintro e w1 ⟨rfl, hb1⟩
    have HB1 := Lib.hid hb1
    clear hb1
    go_wp2_with fail
    go_ret3
    exact ⟨rfl, HB1.out⟩

set_option maxRecDepth 100000 in
set_option maxHeartbeats 20000000 in
theorem sought_p (v u : Value) (p : List El) (b : List UInt8) (w : World) (h : Pats w v p) (hb : Row w 1 u b.length (bcells b)) :
    Calls Try.prog 33 #[v, u] w fun e w' => e = .returned (.int .i64 (seekE p b)) ∧ Below w.heap.size w w' := by
  have KC := Lib.hid (check_p v p w h)
  obtain ⟨a, cap, rfl⟩ := Row.form2 hb
  unfold seekE
  clear h hb
  generalize checkV p = E at *
  obtain ⟨E1, E2⟩ := E
  simp only at *
  by_cases h0 : E2 = 0
  · subst h0
    rw [if_neg (by simp)]
    by_cases h1 : 4096 < b.length
    · rw [if_pos h1]
      have t1 : (4096 : Int) < (b.length : Int) := by omega
      go_enter Try.func33, Try.ntmps33
      go_wp2_with fail
      refine KC.out.mono ?_
      rintro e w1 ⟨rfl, hb1⟩
      have HB1 := Lib.hid hb1
      clear hb1
      go_wp2_with fail
      go_ret
      exact ⟨rfl, HB1.out⟩
    · rw [if_neg h1]
      have t1 : ¬ (4096 : Int) < (b.length : Int) := by omega
      go_enter Try.func33, Try.ntmps33
      go_wp2_with fail
      refine KC.out.mono ?_
      rintro e w1 ⟨rfl, hb1⟩
      have HB1 := Lib.hid hb1
      clear hb1
      go_wp2_with fail
      go_ret
      exact ⟨rfl, HB1.out⟩
  · rw [if_pos h0]
    have t1 : (E2 != 0) = true := bne_iff_ne.2 h0
    clear h0
    go_enter Try.func33, Try.ntmps33
    go_wp2_with fail
    refine KC.out.mono ?_
    rintro e w1 ⟨rfl, hb1⟩
    have HB1 := Lib.hid hb1
    clear hb1
    go_wp2_with fail
    go_ret
    exact ⟨rfl, HB1.out⟩
end Go.Proofs.Ytllkohjmghoipaa
