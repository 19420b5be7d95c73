/- A call on both arenas. Printed by tools/gen_ar7.py. -/
import Derived.Test.YtomjefplacgoeaaDoorArTwo
import Derived.Deep.RegionHeld3
namespace Go.Proofs.YtomjefplacgoeaaDoor
open Go.RowKit Go.Sort

theorem run_eq_same (w : World) (s : List UInt8) (a b : Int) :
    (binOp .eql 43 (.agg #[.string (str s), .int .i64 a, .int .i64 b]) (.agg #[.string (str s), .int .i64 a, .int .i64 b])).run Tryd.prog w = .ok (.bool true) w := by
  simp [go_sem]
theorem regsOk_regV {n : Nat} {rs : List Reg} {nm : List UInt8} {k : Int} (h : RegsOk n rs) : RegsOk n (regV n rs nm k) := by
  by_cases he : regE n rs nm k = 0
  · rw [(regB_ok he).2]
    obtain ⟨h5, h6⟩ := endR_in h
    unfold regE at he
    by_cases h1 : nameB nm = false
    · rw [if_pos h1] at he; omega
    · rw [if_neg h1] at he
      by_cases h2 : k < 1
      · rw [if_pos h2] at he; omega
      · rw [if_neg h2] at he
        by_cases h3 : 0 ≤ idxR rs nm
        · rw [if_pos h3] at he; omega
        · rw [if_neg h3] at he
          by_cases h4 : rs.length = 64
          · rw [if_pos h4] at he; omega
          · rw [if_neg h4] at he
            by_cases h5 : (n : Int) - endR rs < k
            · rw [if_pos h5] at he; omega
            · intro r hr
              rw [List.mem_append, List.mem_singleton] at hr
              rcases hr with hr | rfl
              · exact h r hr
              · simp only; omega
  · rw [(regB_bad he).2]; exact h
theorem storeV_len {cs : List Nat} {len : Nat} {a : Int} {v : Nat} : (storeV cs len a v).length = cs.length := by
  unfold storeV; split <;> simp
def DoesP (w0 : World) (A B n : Nat) (e : Ending) (w' : World) : Prop :=
  e = .returned (.bool true) ∧ ∃ cs rs ev, Pair w0 w' A B cs rs ev cs rs ev ∧ cs.length = n ∧ RegsOk n rs
set_option maxRecDepth 100000 in
set_option maxHeartbeats 40000000 in
theorem does_p (x : Cl) (hok : x.ok) (hnm : x.name.length ≤ 100) {w0 w : World} {A B : Nat} {cs : List Nat} {rs : List Reg} {ev : List Ev} (h : Pair w0 w A B cs rs ev cs rs ev) (hr : RegsOk cs.length rs) :
    Calls Tryd.prog 28 #[PA A, PA B, .agg #[.int .u8 (x.what : Int), .int .i64 x.at', .int .i64 x.n, .int .u64 (x.v : Int), .string (str x.name)]] w (DoesP w0 A B cs.length) := by
  obtain ⟨o1, o2, o3, o4⟩ := hok
  have h5 := h.new (.cells #[.int .u8 (x.what : Int), .int .i64 x.at', .int .i64 x.n, .int .u64 (x.v : Int), .string (str x.name)] 33)
  have HR := Lib.hid hr
  have hm9 : x.what % 9 < 9 := Nat.mod_lt _ (by omega)
  clear h hr
  unfold PA at *
  rcases (show x.what % 9 = 0 ∨ x.what % 9 = 1 ∨ x.what % 9 = 2 ∨ x.what % 9 = 3 ∨ x.what % 9 = 4 ∨ x.what % 9 = 5 ∨ x.what % 9 = 6 ∨ x.what % 9 = 7 ∨ x.what % 9 = 8 by omega) with h9 | h9 | h9 | h9 | h9 | h9 | h9 | h9 | h9
  · have hq : (x.what : Int) % 9 = 0 := by omega
    clear h9 hm9
    have K1 := Lib.hid (a_load x.at' h5)
    unfold PA at K1
    go_enter Tryd.func28, Tryd.ntmps28
    go_wp2_with fail
    refine K1.out.mono ?_
    rintro e v1 ⟨rfl, hT1⟩
    have x1 := cell_in (i := 1) hT1.x rfl
    have K2 := Lib.hid (b_load x.at' hT1)
    unfold PA at K2
    generalize loadV cs ev.length x.at' = q at *
    generalize stepE cs.length ev.length x.at' = E at *
    clear hT1 K1
    go_wp2_with fail
    refine K2.out.mono ?_
    rintro e v2 ⟨rfl, hT2⟩
    have HT := Lib.hid hT2
    clear hT2 K2 x1
    go_wp2_with fail
    go_ret
    exact show DoesP _ _ _ _ _ _ from ⟨rfl, _, _, _, HT.out.pair, rfl, HR.out⟩
  · have hq : (x.what : Int) % 9 = 1 := by omega
    clear h9 hm9
    have K1 := Lib.hid (a_load x.at' h5)
    unfold PA at K1
    go_enter Tryd.func28, Tryd.ntmps28
    go_wp2_with fail
    refine K1.out.mono ?_
    rintro e v1 ⟨rfl, hT1⟩
    have x1 := cell_in (i := 1) hT1.x rfl
    have K2 := Lib.hid (b_load x.at' hT1)
    unfold PA at K2
    generalize loadV cs ev.length x.at' = q at *
    generalize stepE cs.length ev.length x.at' = E at *
    clear hT1 K1
    go_wp2_with fail
    refine K2.out.mono ?_
    rintro e v2 ⟨rfl, hT2⟩
    have HT := Lib.hid hT2
    clear hT2 K2 x1
    go_wp2_with fail
    go_ret
    exact show DoesP _ _ _ _ _ _ from ⟨rfl, _, _, _, HT.out.pair, rfl, HR.out⟩
  · have hq : (x.what : Int) % 9 = 2 := by omega
    clear h9 hm9
    have h5d := h5.below ((Below.refl _ _).drew)
    have K1 := Lib.hid (a_store x.at' x.v o4 h5d)
    unfold PA at K1
    have HLn := Lib.hid (storeV_len (cs := cs) (len := ev.length) (a := x.at') (v := x.v))
    have HS := Lib.hid (And.intro (cell_in (i := 1) h5d.x rfl) (cell_in (i := 3) h5d.x rfl) : (w.alloc (.cells #[.int .u8 (x.what : Int), .int .i64 x.at', .int .i64 x.n, .int .u64 (x.v : Int), .string (str x.name)] 33)).drew.cell? ⟨w.heap.size, 1, none⟩ = some (.int .i64 x.at') ∧ (w.alloc (.cells #[.int .u8 (x.what : Int), .int .i64 x.at', .int .i64 x.n, .int .u64 (x.v : Int), .string (str x.name)] 33)).drew.cell? ⟨w.heap.size, 3, none⟩ = some (.int .u64 (x.v : Int)))
    have K2 := Lib.hid (fun (v1 : World) cs2 ev2 (hT1 : Two w0 v1 A B w.heap.size (.cells #[.int .u8 (x.what : Int), .int .i64 x.at', .int .i64 x.n, .int .u64 (x.v : Int), .string (str x.name)] 33) cs2 rs ev2 cs rs ev) => b_store x.at' x.v o4 hT1)
    unfold PA at K2
    generalize storeV cs ev.length x.at' x.v = cs2 at *
    generalize stepV cs.length ev 2 x.at' = ev2 at *
    generalize stepE cs.length ev.length x.at' = E at *
    clear h5d h5
    go_enter Tryd.func28, Tryd.ntmps28
    go_wp2_with fail
    obtain ⟨x1, x3⟩ := HS.out
    go_region_held3 (fun w' => w'.cell? ⟨w.heap.size, 1, none⟩ = some (.int .i64 x.at') ∧ w'.cell? ⟨w.heap.size, 3, none⟩ = some (.int .u64 (x.v : Int)))
      (first | with_reducible assumption | with_reducible exact ⟨by assumption, by assumption⟩ | with_reducible exact HS.out)
      (first
      | (go_at_call 14; with_reducible refine K1.out.mono ?_; rintro e v1 hT0; unfold TwoP at hT0; obtain ⟨rfl, hT1⟩ := hT0; have y1 : v1.cell? ⟨w.heap.size, 1, none⟩ = some (.int .i64 x.at') := cell_in (i := 1) hT1.x rfl; have y3 : v1.cell? ⟨w.heap.size, 3, none⟩ = some (.int .u64 (x.v : Int)) := cell_in (i := 3) hT1.x rfl; have KK := Lib.hid (K2.out _ _ _ hT1); clear hT1)
      | (go_at_call 42; with_reducible refine KK.out.mono ?_; rintro e v2 hT0; unfold TwoP at hT0; obtain ⟨rfl, hT2⟩ := hT0; have HT := Lib.hid hT2; have z1 : v2.cell? ⟨w.heap.size, 1, none⟩ = some (.int .i64 x.at') := cell_in (i := 1) hT2.x rfl; have z3 : v2.cell? ⟨w.heap.size, 3, none⟩ = some (.int .u64 (x.v : Int)) := cell_in (i := 3) hT2.x rfl; clear hT2))
    all_goals
      go_wp2_with fail
      go_ret
      exact show DoesP _ _ _ _ _ _ from ⟨rfl, _, _, _, HT.out.pair, HLn.out, HR.out⟩
  · have hq : (x.what : Int) % 9 = 3 := by omega
    clear h9 hm9
    have h5d := h5.below ((Below.refl _ _).drew)
    have K1 := Lib.hid (a_store x.at' x.v o4 h5d)
    unfold PA at K1
    have HLn := Lib.hid (storeV_len (cs := cs) (len := ev.length) (a := x.at') (v := x.v))
    have HS := Lib.hid (And.intro (cell_in (i := 1) h5d.x rfl) (cell_in (i := 3) h5d.x rfl) : (w.alloc (.cells #[.int .u8 (x.what : Int), .int .i64 x.at', .int .i64 x.n, .int .u64 (x.v : Int), .string (str x.name)] 33)).drew.cell? ⟨w.heap.size, 1, none⟩ = some (.int .i64 x.at') ∧ (w.alloc (.cells #[.int .u8 (x.what : Int), .int .i64 x.at', .int .i64 x.n, .int .u64 (x.v : Int), .string (str x.name)] 33)).drew.cell? ⟨w.heap.size, 3, none⟩ = some (.int .u64 (x.v : Int)))
    have K2 := Lib.hid (fun (v1 : World) cs2 ev2 (hT1 : Two w0 v1 A B w.heap.size (.cells #[.int .u8 (x.what : Int), .int .i64 x.at', .int .i64 x.n, .int .u64 (x.v : Int), .string (str x.name)] 33) cs2 rs ev2 cs rs ev) => b_store x.at' x.v o4 hT1)
    unfold PA at K2
    generalize storeV cs ev.length x.at' x.v = cs2 at *
    generalize stepV cs.length ev 2 x.at' = ev2 at *
    generalize stepE cs.length ev.length x.at' = E at *
    clear h5d h5
    go_enter Tryd.func28, Tryd.ntmps28
    go_wp2_with fail
    obtain ⟨x1, x3⟩ := HS.out
    go_region_held3 (fun w' => w'.cell? ⟨w.heap.size, 1, none⟩ = some (.int .i64 x.at') ∧ w'.cell? ⟨w.heap.size, 3, none⟩ = some (.int .u64 (x.v : Int)))
      (first | with_reducible assumption | with_reducible exact ⟨by assumption, by assumption⟩ | with_reducible exact HS.out)
      (first
      | (go_at_call 14; with_reducible refine K1.out.mono ?_; rintro e v1 hT0; unfold TwoP at hT0; obtain ⟨rfl, hT1⟩ := hT0; have y1 : v1.cell? ⟨w.heap.size, 1, none⟩ = some (.int .i64 x.at') := cell_in (i := 1) hT1.x rfl; have y3 : v1.cell? ⟨w.heap.size, 3, none⟩ = some (.int .u64 (x.v : Int)) := cell_in (i := 3) hT1.x rfl; have KK := Lib.hid (K2.out _ _ _ hT1); clear hT1)
      | (go_at_call 42; with_reducible refine KK.out.mono ?_; rintro e v2 hT0; unfold TwoP at hT0; obtain ⟨rfl, hT2⟩ := hT0; have HT := Lib.hid hT2; have z1 : v2.cell? ⟨w.heap.size, 1, none⟩ = some (.int .i64 x.at') := cell_in (i := 1) hT2.x rfl; have z3 : v2.cell? ⟨w.heap.size, 3, none⟩ = some (.int .u64 (x.v : Int)) := cell_in (i := 3) hT2.x rfl; clear hT2))
    all_goals
      go_wp2_with fail
      go_ret
      exact show DoesP _ _ _ _ _ _ from ⟨rfl, _, _, _, HT.out.pair, HLn.out, HR.out⟩
  · have hq : (x.what : Int) % 9 = 4 := by omega
    clear h9 hm9
    have K1 := Lib.hid (a_region x.name (by omega) x.n HR.out h5)
    unfold PA at K1
    have HR2 := Lib.hid (regsOk_regV (nm := x.name) (k := x.n) HR.out)
    go_enter Tryd.func28, Tryd.ntmps28
    go_wp2_with fail
    refine K1.out.mono ?_
    rintro e v1 ⟨rfl, hT1⟩
    have x2 := cell_in (i := 2) hT1.x rfl
    have x4 := cell_in (i := 4) hT1.x rfl
    have K2 := Lib.hid (b_region x.name (by omega) x.n HR.out hT1)
    unfold PA at K2
    generalize regV cs.length rs x.name x.n = rs2 at *
    generalize regE cs.length rs x.name x.n = E at *
    generalize regB cs.length rs x.name x.n = bb at *
    clear hT1 K1
    go_wp2_with fail
    refine K2.out.mono ?_
    rintro e v2 ⟨rfl, hT2⟩
    have HT := Lib.hid hT2
    clear hT2 K2 x2 x4
    go_wp2_with fail
    go_ret
    exact show DoesP _ _ _ _ _ _ from ⟨rfl, _, _, _, HT.out.pair, rfl, HR2.out⟩
  · have hq : (x.what : Int) % 9 = 5 := by omega
    clear h9 hm9
    have K1 := Lib.hid (a_find x.name h5.pair)
    have K2 := Lib.hid (fun v1 (hb : Below _ _ v1) => b_find x.name (h5.below hb).pair)
    unfold PA at K1 K2
    have H5 := Lib.hid h5
    obtain ⟨⟨s, b, z⟩, hfr⟩ : ∃ r, findV rs x.name = r := ⟨_, rfl⟩
    rw [hfr] at K1 K2
    generalize findE rs x.name = E at *
    simp only at K1 K2
    have heq := fun w => run_eq_same w s b z
    clear h5 hfr
    go_enter Tryd.func28, Tryd.ntmps28
    go_wp2_with fail
    refine K1.out.mono ?_
    rintro e v1 ⟨rfl, hb1⟩
    have HBA := Lib.hid (next hb1 ((Below.refl v1.heap.size v1).alloc (Nat.le_refl _) (.cells #[.string (str s), .int .i64 b, .int .i64 z] 43)))
    have x4 := cell_in (i := 4) (H5.out.below HBA.out).x rfl
    have KK := Lib.hid (K2.out _ HBA.out)
    have ha1 : (v1.alloc (.cells #[.string (str s), .int .i64 b, .int .i64 z] 43)).heap[v1.heap.size]? = _ := heap_alloc_new v1 (.cells #[.string (str s), .int .i64 b, .int .i64 z] 43)
    have hv1 : v1.heap.size < (v1.alloc (.cells #[.string (str s), .int .i64 b, .int .i64 z] 43)).heap.size := by simp
    have HA1 := Lib.hid ha1
    have HV1 := Lib.hid hv1
    clear hb1 K1 K2 ha1 hv1
    go_wp2_with fail
    refine KK.out.mono ?_
    rintro e v2 ⟨rfl, hb2⟩
    have hal := (Below.refl v2.heap.size v2).alloc (Nat.le_refl _) (.cells #[.string (str s), .int .i64 b, .int .i64 z] 43)
    have hc1 := ((hb2.trans (hal.mono hb2.size)).block _ HV1.out).trans HA1.out
    have y0 := cell_in (i := 0) hc1 rfl
    have y1 := cell_in (i := 1) hc1 rfl
    have y2 := cell_in (i := 2) hc1 rfl
    have z0 := cell_in (i := 0) (heap_alloc_new v2 (.cells #[.string (str s), .int .i64 b, .int .i64 z] 43)) rfl
    have z1 := cell_in (i := 1) (heap_alloc_new v2 (.cells #[.string (str s), .int .i64 b, .int .i64 z] 43)) rfl
    have z2 := cell_in (i := 2) (heap_alloc_new v2 (.cells #[.string (str s), .int .i64 b, .int .i64 z] 43)) rfl
    have HT := Lib.hid (H5.out.below (next HBA.out (hb2.trans (hal.mono hb2.size))))
    clear hb2 KK hal hc1 x4
    go_wp2_with fail
    go_ret
    exact show DoesP _ _ _ _ _ _ from ⟨rfl, _, _, _, HT.out.pair, rfl, HR.out⟩
  · have hq : (x.what : Int) % 9 = 6 := by omega
    clear h9 hm9
    have x1 := cell_in (i := 1) h5.x rfl
    have x2 := cell_in (i := 2) h5.x rfl
    have q1 := fun d os => cell_regrown x1 d os
    have q2 := fun d os => cell_regrown x2 d os
    have C1 := Lib.hid (fun d os => a_has x.at' x.n (h5.pair.below (below_regrown _ d os)))
    have C2 := Lib.hid (fun d os => b_has x.at' x.n (h5.pair.below (below_regrown _ d os)))
    unfold PA at C1 C2
    have H5 := Lib.hid h5
    generalize hasE cs.length x.at' x.n = E at *
    clear h5 x1 x2
    go_enter Tryd.func28, Tryd.ntmps28
    go_wp2_with fail
    refine wp_region_quiet_below (by kernel_rfl) (by kernel_rfl) ?_
    repeat (go_big_quiet_step ((first
      | (go_at_call 23; exact Calls.regrown_of (C1.out _ _))
      | (go_at_call 45; exact Calls.regrown_of (C2.out _ _)))))
    refine wpQuiet_nil ?_
    intro _ hw'
    obtain ⟨⟨dq, osq⟩, hw''⟩ := hw'
    subst hw''
    have HT := Lib.hid (H5.out.below (below_regrown _ dq osq))
    clear q1 q2 C1 C2
    go_wp2_with fail
    go_ret
    exact show DoesP _ _ _ _ _ _ from ⟨rfl, _, _, _, HT.out.pair, rfl, HR.out⟩
  · have hq : (x.what : Int) % 9 = 7 := by omega
    clear h9 hm9
    have K1 := Lib.hid (a_since x.n h5.pair)
    have K2 := Lib.hid (fun v1 (hb : Below _ _ v1) => b_since x.n (h5.below hb).pair)
    unfold PA at K1 K2
    have H5 := Lib.hid h5
    generalize sinceV ev x.n = l at *
    generalize sinceE ev.length x.n = E at *
    clear h5
    go_enter Tryd.func28, Tryd.ntmps28
    go_wp2_with fail
    refine K1.out.mono ?_
    rintro e v1 ⟨r1, rfl, hr1, hb1⟩
    have x2 := cell_in (i := 2) (H5.out.below hb1).x rfl
    have KK := Lib.hid (K2.out _ hb1)
    have HR1 := Lib.hid hr1
    have HB1 := Lib.hid hb1
    clear hb1 hr1 K1 K2
    go_wp2_with fail
    refine KK.out.mono ?_
    rintro e v2 ⟨r2, rfl, hr2, hb2⟩
    have hT2 := H5.out.below (next HB1.out hb2)
    have hr1 := Row.below HR1.out hb2
    have y2 := cell_in (i := 2) hT2.x rfl
    have q2 := fun d os => cell_regrown y2 d os
    have C1 := Lib.hid (fun d os => a_room x.n (hT2.pair.below (below_regrown _ d os)))
    have C2 := Lib.hid (fun d os => b_room x.n (hT2.pair.below (below_regrown _ d os)))
    have C3 := Lib.hid (fun d os => same_ev r1 r2 l l _ (Row.below hr1 (below_regrown v2 d os)) (Row.below hr2 (below_regrown v2 d os)))
    unfold PA at C1 C2
    simp only [decide_true] at C3
    generalize roomE ev.length x.n = E2 at *
    have HT2 := Lib.hid hT2
    clear hb2 KK hr1 hr2 hT2 x2 y2
    go_wp2_with fail
    refine wp_region_quiet_below (by kernel_rfl) (by kernel_rfl) ?_
    repeat (go_big_quiet_step ((first
      | (go_at_call 24; exact Calls.regrown_of (C1.out _ _))
      | (go_at_call 48; exact Calls.regrown_of (C2.out _ _))
      | (go_at_call 22; exact Calls.regrown_of (C3.out _ _)))))
    refine wpQuiet_nil ?_
    intro _ hw'
    obtain ⟨⟨dq, osq⟩, hw''⟩ := hw'
    subst hw''
    have HT := Lib.hid (HT2.out.below (below_regrown _ dq osq))
    clear q2 C1 C2 C3
    go_wp2_with fail
    go_ret
    exact show DoesP _ _ _ _ _ _ from ⟨rfl, _, _, _, HT.out.pair, rfl, HR.out⟩
  · have hq : (x.what : Int) % 9 = 8 := by omega
    clear h9 hm9
    have K1 := Lib.hid (a_forget h5)
    unfold PA at K1
    go_enter Tryd.func28, Tryd.ntmps28
    go_wp2_with fail
    refine K1.out.mono ?_
    rintro e v1 ⟨rfl, hT1⟩
    have K2 := Lib.hid (b_forget hT1)
    unfold PA at K2
    clear hT1 K1
    go_wp2_with fail
    refine K2.out.mono ?_
    rintro e v2 ⟨rfl, hT2⟩
    have HT := Lib.hid hT2
    clear hT2 K2
    go_wp2_with fail
    go_ret
    exact show DoesP _ _ _ _ _ _ from ⟨rfl, _, _, _, HT.out.pair, rfl, HR.out⟩
end Go.Proofs.YtomjefplacgoeaaDoor
