/- From: the places to which a pattern may have come. -/
import Derived.Test.YtllkohjmghoipaaPaB
import Derived.OwnWalk
namespace Go.Proofs.Ytllkohjmghoipaa
open Go.RowKit Go.Sort

/-- the places that an element reaches from the places before n -/
def stepTo (b : List UInt8) (x : El) (f : Nat → Bool) (n : Nat) : Nat → Bool := stepP b x fun j => f j && decide (j < n)
theorem stepTo_zero {b : List UInt8} {x : El} {f : Nat → Bool} {n m : Nat} (hf : ∀ j, j < n → f j = false) : stepTo b x f n m = false := by
  cases he : stepTo b x f n m
  · rfl
  · unfold stepTo at he
    rw [stepP_fit] at he
    obtain ⟨i, h1, _⟩ := he
    simp only [Bool.and_eq_true, decide_eq_true_eq] at h1
    rw [hf i h1.2] at h1
    exact absurd h1.1 (by decide)
theorem stepTo_no {b : List UInt8} {x : El} {f : Nat → Bool} {n m : Nat} (h : f n = false) : stepTo b x f n m = stepTo b x f (n + 1) m := by
  unfold stepTo
  congr 1
  funext j
  by_cases e : j = n
  · subst e; simp [h]
  · have : decide (j < n) = decide (j < n + 1) := by simp; omega
    rw [this]
theorem stepTo_yes {b : List UInt8} {x : El} {f : Nat → Bool} {n m : Nat} (h : f n = true) : stepTo b x f (n + 1) m = true ↔ stepTo b x f n m = true ∨ Fit1 b x n m := by
  unfold stepTo
  rw [stepP_fit, stepP_fit]
  simp only [Bool.and_eq_true, decide_eq_true_eq]
  constructor
  · rintro ⟨i, ⟨h1, h2⟩, h3⟩
    by_cases e : i = n
    · subst e; exact .inr h3
    · exact .inl ⟨i, ⟨h1, by omega⟩, h3⟩
  · rintro (⟨i, ⟨h1, h2⟩, h3⟩ | h3)
    · exact ⟨i, ⟨h1, by omega⟩, h3⟩
    · exact ⟨n, ⟨h, by omega⟩, h3⟩
theorem stepTo_end {b : List UInt8} {x : El} {f : Nat → Bool} {m N : Nat} (hm : m < N) : stepTo b x f N m = stepP b x f m := by
  rw [Bool.eq_iff_iff]
  unfold stepTo
  rw [stepP_fit, stepP_fit]
  simp only [Bool.and_eq_true, decide_eq_true_eq]
  constructor
  · rintro ⟨i, ⟨h1, _⟩, h3⟩; exact ⟨i, h1, h3⟩
  · rintro ⟨i, h1, h3⟩
    have := fit1_le h3
    exact ⟨i, ⟨h1, by omega⟩, h3⟩
theorem fit1_byte {b : List UInt8} {x : El} {n m : Nat} (hg : x.gap = false) {y : UInt8} (hb : b[n]? = some y) : Fit1 b x n m ↔ m = n + 1 ∧ hasB x.cls y.toNat = true := by
  unfold Fit1
  rw [hg, hb]
  simp
theorem fit1_none {b : List UInt8} {x : El} {n m : Nat} (hg : x.gap = false) (hb : b[n]? = none) : ¬ Fit1 b x n m := by
  unfold Fit1
  rw [hg, hb]
  simp
theorem fit1_gap {b : List UInt8} {x : El} {n m : Nat} (hg : x.gap = true) (h0 : 0 ≤ x.high) : Fit1 b x n m ↔ ∃ c : Nat, x.low ≤ (c : Int) ∧ (c : Int) ≤ x.high ∧ m = n + c := by
  unfold Fit1
  rw [hg]
  simp only [if_true]
  rw [show max x.high 0 = x.high by omega]
theorem reach_ge {b : List UInt8} {q : List El} {s j : Nat} (h : j < s) : reachP b q (fun m => decide (m = s)) j = false := by
  cases he : reachP b q (fun m => decide (m = s)) j
  · rfl
  · rw [reachP_fits] at he
    obtain ⟨i, h1, h2⟩ := he
    have := fits_le h2
    have : i = s := by simpa using h1
    omega
/-- what a gap reaches from n by fewer than c bytes, beside what was reached -/
def gapTo (x : El) (f : Nat → Bool) (n c m : Nat) : Bool := f m || (List.range c).any fun d => decide (x.low ≤ (d : Int)) && decide (m = n + d)
theorem gapTo_next {x : El} {f : Nat → Bool} {n c m : Nat} (h : x.low ≤ (c : Int)) : gapTo x f n (c + 1) m = (decide (m = n + c) || gapTo x f n c m) := by
  unfold gapTo
  rw [List.range_succ, List.any_append]
  simp only [List.any_cons, List.any_nil, Bool.or_false, h, decide_true, Bool.true_and]
  cases f m <;> cases (List.range c).any (fun d => decide (x.low ≤ (d : Int)) && decide (m = n + d)) <;> cases decide (m = n + c) <;> rfl
theorem gapTo_low {x : El} {f : Nat → Bool} {n c m : Nat} (h : (c : Int) = x.low) : gapTo x f n c m = f m := by
  unfold gapTo
  have : ((List.range c).any fun d => decide (x.low ≤ (d : Int)) && decide (m = n + d)) = false := by
    rw [List.any_eq_false]
    intro d hd
    rw [List.mem_range] at hd
    simp; omega
  rw [this, Bool.or_false]
theorem gapTo_end {b : List UInt8} {x : El} {f : Nat → Bool} {n c m N : Nat} (hg : x.gap = true) (h0 : 0 ≤ x.high) (hf : f n = true) (hm : m < N) (hc : (c : Int) = x.high + 1 ∨ N ≤ n + c ∧ (c : Int) ≤ x.high + 1) :
    gapTo x (stepTo b x f n) n c m = stepTo b x f (n + 1) m := by
  rw [Bool.eq_iff_iff, stepTo_yes hf, fit1_gap hg h0]
  unfold gapTo
  simp only [Bool.or_eq_true, List.any_eq_true, List.mem_range, Bool.and_eq_true, decide_eq_true_eq]
  constructor
  · rintro (h | ⟨d, h1, h2, h3⟩)
    · exact .inl h
    · exact .inr ⟨d, h2, by omega, h3⟩
  · rintro (h | ⟨d, h1, h2, h3⟩)
    · exact .inl h
    · exact .inr ⟨d, by omega, h1, h3⟩
def FromP (w : World) (N : Nat) (f : Nat → Bool) (e : Ending) (w' : World) : Prop := ∃ g, e = .returned (.slice (some ⟨g, 0, none⟩) N N) ∧ BRow w' g N f ∧ w.heap.size ≤ g ∧ Below w.heap.size w w'
set_option maxRecDepth 100000 in
set_option maxHeartbeats 40000000 in
theorem from_r (v u : Value) (p : List El) (b : List UInt8) (s : Nat) (w : World) (h : Pats w v p) (hb : Bytes w u b) (hok : OkP p) (hl : b.length ≤ 4096) (hs : s ≤ b.length) :
    Calls Try.prog 39 #[v, u, .int .i64 (s : Int)] w (FromP w (b.length + 1) (reachP b p fun m => decide (m = s))) := by
  have HP := Lib.hid h
  have HBy := Lib.hid hb
  have HK := Lib.hid hok
  have hle := hok.le
  obtain ⟨a, cap, rfl⟩ := Row.form2 h
  obtain ⟨ua, ucap, rfl⟩ := Row.form2 hb
  obtain ⟨i0, hi, hz0, hz1, hz2⟩ := info_parts infoB
  have wl : IntKind.i64.wrap ((b.length : Int) + 1) = (b.length : Int) + 1 := IntWalk.i64_in _ (by omega)
  have s0 : (0 : Int) ≤ (s : Int) := by omega
  have s1 : (s : Int) < (b.length : Int) + 1 := by omega
  clear h hb hok
  go_enter Try.func39, Try.ntmps39
  go_wp2_with (at_make; refine wpList_make_full _ rfl _ _ 62 rfl w.heap.size 4 i0 _ 1 Try.underlying62 hi hz0 hz1 _ _ _ _ (b.length + 1) rfl rfl (by omega) (by omega) (by rw [hz2]; omega) (by unfold maxLen; omega) (Nat.le_refl _) ?_; intro w1 hown hgrow; have hr1 := bools_made (by omega) hown; have fr1 := hr1.free s; have ce1 := hr1.cell (m := s) (by omega))
  have hb1 : Below w.heap.size w w1 := (Below.refl _ _).grown hgrow (Nat.le_refl _) (fun q e => by cases e)
  have HB1 := Lib.hid (hb1.setCell (p := ⟨w.heap.size, s, none⟩) (Nat.le_refl _) (.bool true))
  have HR1 := Lib.hid ((hr1.set s).congr (f' := reachP b [] fun m => decide (m = s)) (fun m _ => by simp [reachP]))
  clear hown hgrow hr1 fr1 ce1 hb1
  generalize w1.setCell ⟨w.heap.size, s, none⟩ (.bool true) = w2 at *
  go_loopw [7, 8] (fun av iv wr => ∃ i : Nat, i ≤ p.length ∧ iv = .int .i64 (i : Nat) ∧ ∃ g, av = .slice (some ⟨g, 0, none⟩) (b.length + 1) (b.length + 1) ∧ BRow wr g (b.length + 1) (reachP b (p.take i) fun m => decide (m = s)) ∧ w.heap.size ≤ g ∧ Below w.heap.size w wr) (fun _ iv _ => p.length - (intOf iv).toNat)
  case atStart => exact ⟨0, by omega, rfl, w.heap.size, rfl, by simpa using HR1.out, Nat.le_refl _, HB1.out⟩
  case round =>
    obtain ⟨i, hi', rfl, g, rfl, hR, hgl, hB⟩ := hrel
    by_cases hlt : i < p.length
    · have HR := Lib.hid hR
      have HB := Lib.hid hB
      have i1 : (0 : Int) ≤ (i : Int) := by omega
      have i2 : (i : Int) < (p.length : Int) := by omega
      have wi1 : IntKind.i64.wrap ((i : Int) + 1) = (i : Int) + 1 := IntWalk.i64_in _ (by omega)
      have hgs : g < wr.heap.size := hR.lt
      have hsz := hB.size
      have HN := Lib.hid (show reachP b (p.take (i + 1)) (fun m => decide (m = s)) = stepP b p[i] (reachP b (p.take i) fun m => decide (m = s)) by rw [List.take_succ_eq_append_getElem hlt, reachP_snoc])
      clear hR hB
      go_wp2_with (at_make; refine wpList_make_full _ rfl _ _ 62 rfl wr.heap.size 4 i0 _ 1 Try.underlying62 hi hz0 hz1 _ _ _ _ (b.length + 1) rfl rfl (by omega) (by omega) (by rw [hz2]; omega) (by unfold maxLen; omega) (Nat.le_refl _) ?_; intro w3 hown hgrow)
      have hr3 := bools_made (by omega) hown
      have hb3 : Below wr.heap.size wr w3 := (Below.refl _ _).grown hgrow (Nat.le_refl _) (fun q e => by cases e)
      have HR3 := Lib.hid (HR.out.below hb3)
      have HB3 := Lib.hid (HB.out.trans (hb3.mono HB.out.size))
      have HN3 := Lib.hid (hr3.congr (f' := stepTo b p[i] (reachP b (p.take i) fun m => decide (m = s)) s) (fun m _ => (stepTo_zero (fun j hj => reach_ge hj)).symm))
      have hgn : g ≠ wr.heap.size := by omega
      have hnl : w.heap.size ≤ wr.heap.size := hsz
      clear hown hgrow hr3 hb3 hgs hsz
      generalize wr.heap.size = G at *
      generalize hf : reachP b (p.take i) (fun m => decide (m = s)) = f at *
      go_loopw [10] (fun nv wr => ∃ n : Nat, s ≤ n ∧ n ≤ b.length + 1 ∧ nv = .int .i64 (n : Nat) ∧ BRow wr g (b.length + 1) f ∧ BRow wr G (b.length + 1) (stepTo b p[i] f n) ∧ Below w.heap.size w wr) (fun nv _ => b.length + 1 - (intOf nv).toNat)
      case atStart => exact ⟨s, by omega, by omega, rfl, HR3.out, HN3.out, HB3.out⟩
      case round =>
        obtain ⟨n, hns, hnl2, rfl, hR, hN, hB⟩ := hrel
        have HR := Lib.hid hR
        have HN4 := Lib.hid hN
        have HB := Lib.hid hB
        by_cases hnt : n ≤ b.length
        · have n0 : (0 : Int) ≤ (n : Int) := by omega
          have n1 : (n : Int) ≤ (b.length : Int) := by omega
          have n2 : (n : Int) < (b.length : Int) + 1 := by omega
          have wn1 : IntKind.i64.wrap ((n : Int) + 1) = (n : Int) + 1 := IntWalk.i64_in _ (by omega)
          have cr := hR.cell (m := n) (by omega)
          obtain ⟨pg, po, hpa, hpg, d0, d1, d2, d3, d4, d5, d6⟩ := Pats.at (Row.below HP.out hB) hlt
          subst hpa
          cases hfn : f n
          · rw [hfn] at cr
            have HN5 := Lib.hid (hN.congr (f' := stepTo b p[i] f (n + 1)) (fun m _ => stepTo_no hfn))
            clear hR hN hB hfn
            go_wp2_with fail
            exact ⟨⟨n + 1, by omega, by omega, by go_num, HR.out, HN5.out, HB.out⟩, by simp [intOf]; omega⟩
          · rw [hfn] at cr
            have HFN := Lib.hid hfn
            cases hg0 : p[i].gap
            · rw [hg0] at d0
              have HG0 := Lib.hid hg0
              by_cases hnb : n < b.length
              · obtain ⟨bg, bo, hba, hbg, db⟩ := Bytes.at (Row.below HBy.out hB) hnb
                subst hba
                have n3 : (n : Int) < (b.length : Int) := by omega
                have hY : b[n].toNat < 256 := UInt8.toNat_lt _
                have C := Lib.hid (fun d os => has_r p[i].cls b[n].toNat hY (grow (redrawn wr d) os))
                unfold setV setC at C
                have q1 := fun d os => cell_regrown d1 d os
                have q2 := fun d os => cell_regrown d2 d os
                have q3 := fun d os => cell_regrown d3 d os
                have q4 := fun d os => cell_regrown d4 d os
                have q5 := fun d os => cell_regrown db d os
                have HF1 := Lib.hid (fun m => fit1_byte (m := m) hg0 (List.getElem?_eq_getElem hnb))
                generalize b[n].toNat = Y at *
                have hN' := hN
                clear hR hN hB hfn hg0
                cases hh : hasB p[i].cls Y
                · rw [hh] at C
                  have HN5 := Lib.hid (hN'.congr (f' := stepTo b p[i] f (n + 1)) (fun m _ => by
                    rw [Bool.eq_iff_iff, stepTo_yes HFN.out, HF1.out, hh]; simp))
                  clear hN' hh
                  go_wp2_with fail
                  refine wp_region_quiet_below (by kernel_rfl) (by kernel_rfl) ?_
                  repeat (go_big_quiet_step ((go_at_call 23; exact Calls.regrown_of (C.out _ _))))
                  refine wpQuiet_nil ?_
                  intro _ hw'
                  obtain ⟨⟨dq, osq⟩, hw''⟩ := hw'
                  subst hw''
                  have hbr := below_regrown wr dq osq
                  have HR6 := Lib.hid (HR.out.below hbr)
                  have HN6 := Lib.hid (HN5.out.below hbr)
                  have HB6 := Lib.hid (next HB.out hbr)
                  clear q1 q2 q3 q4 q5 C hbr d0 d1 d2 d3 d4 d5 d6 db cr
                  go_wp2_with fail
                  exact ⟨⟨n + 1, by omega, by omega, by go_num, HR6.out, HN6.out, HB6.out⟩, by simp [intOf]; omega⟩
                · rw [hh] at C
                  have HHH := Lib.hid hh
                  clear hN' hh
                  go_wp2_with fail
                  refine wp_region_quiet_below (by kernel_rfl) (by kernel_rfl) ?_
                  repeat (go_big_quiet_step ((go_at_call 23; exact Calls.regrown_of (C.out _ _))))
                  refine wpQuiet_nil ?_
                  intro _ hw'
                  obtain ⟨⟨dq, osq⟩, hw''⟩ := hw'
                  subst hw''
                  have hbr := below_regrown wr dq osq
                  have hR6 := HR.out.below hbr
                  have hN6 := HN4.out.below hbr
                  have hB6 := next HB.out hbr
                  have fr := hN6.free (n + 1)
                  have ce := hN6.cell (m := n + 1) (by omega)
                  have HR6 := Lib.hid (hR6.keep (Below.heap_setCell (Go.Sort.grow (redrawn wr dq) osq) ⟨G, n + 1, none⟩ (.bool true) g hgn))
                  have HN6 := Lib.hid ((hN6.set (n + 1)).congr (f' := stepTo b p[i] f (n + 1)) (fun m _ => by
                    rw [Bool.eq_iff_iff, stepTo_yes HFN.out, HF1.out, HHH.out]; simp [or_comm]))
                  have HB6 := Lib.hid (hB6.setCell (p := ⟨G, n + 1, none⟩) hnl (.bool true))
                  have n4 : (n : Int) + 1 < (b.length : Int) + 1 := by omega
                  clear q1 q2 q3 q4 q5 C hbr d0 d1 d2 d3 d4 d5 d6 db cr hR6 hN6 hB6
                  generalize Go.Sort.grow _ _ = w7 at *
                  go_wp2_with fail
                  exact ⟨⟨n + 1, by omega, by omega, by go_num, HR6.out, HN6.out, HB6.out⟩, by simp [intOf]; omega⟩
              · have n3 : decide ((n : Int) < (b.length : Int)) = false := decide_eq_false (by omega)
                have HN5 := Lib.hid (hN.congr (f' := stepTo b p[i] f (n + 1)) (fun m _ => by
                  rw [Bool.eq_iff_iff, stepTo_yes HFN.out]
                  have := fit1_none (m := m) hg0 (show b[n]? = none by rw [List.getElem?_eq_none]; omega)
                  simp [this]))
                clear hR hN hB hfn hg0
                go_wp2_with fail
                refine wp_region_quiet_below (by kernel_rfl) (by kernel_rfl) ?_
                repeat (go_big_quiet_step (fail))
                refine wpQuiet_nil ?_
                intro _ hw'
                obtain ⟨⟨dq, osq⟩, hw''⟩ := hw'
                subst hw''
                have hbr := below_regrown wr dq osq
                have HR6 := Lib.hid (HR.out.below hbr)
                have HN6 := Lib.hid (HN5.out.below hbr)
                have HB6 := Lib.hid (next HB.out hbr)
                clear hbr d0 d1 d2 d3 d4 d5 d6 cr
                go_wp2_with fail
                exact ⟨⟨n + 1, by omega, by omega, by go_num, HR6.out, HN6.out, HB6.out⟩, by simp [intOf]; omega⟩
            · rw [hg0] at d0
              have HG0 := Lib.hid hg0
              have hgg := HK.out.gap hlt hg0
              have b1 := hgg.2.1
              have b2 := hgg.2.2.1
              have b3 := hgg.2.2.2.1
              obtain ⟨lo, hlo⟩ : ∃ lo : Nat, p[i].low = lo := ⟨p[i].low.toNat, by omega⟩
              rw [hlo] at d5
              have HLo := Lib.hid hlo
              have HNs := Lib.hid (hN.congr (f' := gapTo p[i] (stepTo b p[i] f n) n lo) (fun m _ => (gapTo_low hlo.symm).symm))
              have b4 : (lo : Int) ≤ p[i].high := by omega
              clear hgg hR hN hfn hg0 hlo
              go_wp2_with fail
              clear d0 d1 d2 d3 d4 d5 d6 cr hB hpg
              go_loopw [11] (fun cv wr => ∃ c : Nat, lo ≤ c ∧ (c : Int) ≤ p[i].high + 1 ∧ cv = .int .i64 (c : Nat) ∧ BRow wr g (b.length + 1) f ∧ BRow wr G (b.length + 1) (gapTo p[i] (stepTo b p[i] f n) n c) ∧ Below w.heap.size w wr) (fun cv _ => 17 - (intOf cv).toNat)
              case atStart => exact ⟨lo, by omega, by omega, rfl, HR.out, HNs.out, HB.out⟩
              case round =>
                obtain ⟨c, hcl, hch, rfl, hR, hN, hB⟩ := hrel
                have HRc := Lib.hid hR
                have HBc := Lib.hid hB
                obtain ⟨_, d0, d1, d2, d3, d4, d5, d6⟩ := Pats.ats (Row.below HP.out hB) hlt
                have c0 : (0 : Int) ≤ (c : Int) := by omega
                have wc1 : IntKind.i64.wrap ((c : Int) + 1) = (c : Int) + 1 := IntWalk.i64_in _ (by omega)
                have wnc : IntKind.i64.wrap ((n : Int) + (c : Int)) = (n : Int) + (c : Int) := IntWalk.i64_in _ (by omega)
                by_cases h1 : (c : Int) ≤ p[i].high
                · by_cases h2 : (n : Int) + (c : Int) ≤ (b.length : Int)
                  · have fr := hN.free (n + c)
                    have ce := hN.cell (m := n + c) (by omega)
                    have h3 : (0 : Int) ≤ (n : Int) + (c : Int) := by omega
                    have h4 : (n : Int) + (c : Int) < (b.length : Int) + 1 := by omega
                    have HR6 := Lib.hid (hR.keep (Below.heap_setCell wr ⟨G, n + c, none⟩ (.bool true) g hgn))
                    have HN6 := Lib.hid ((hN.set (n + c)).congr (f' := gapTo p[i] (stepTo b p[i] f n) n (c + 1)) (fun m _ => (gapTo_next (by rw [HLo.out]; omega)).symm))
                    have HB6 := Lib.hid (hB.setCell (p := ⟨G, n + c, none⟩) hnl (.bool true))
                    clear hR hN hB
                    go_wp2_with fail
                    exact ⟨⟨c + 1, by omega, by omega, by go_num, HR6.out, HN6.out, HB6.out⟩, by simp [intOf]; omega⟩
                  · have HN6 := Lib.hid (hN.congr (f' := stepTo b p[i] f (n + 1)) (fun m hm => gapTo_end HG0.out (by omega) HFN.out hm (.inr ⟨by omega, by omega⟩)))
                    clear hR hN hB
                    go_wp2_with fail
                    exact ⟨⟨n + 1, by omega, by omega, by go_num, HRc.out, HN6.out, HBc.out⟩, by simp [intOf]; omega⟩
                · have HN6 := Lib.hid (hN.congr (f' := stepTo b p[i] f (n + 1)) (fun m hm => gapTo_end HG0.out (by omega) HFN.out hm (.inl (by omega))))
                  clear hR hN hB
                  go_wp2_with fail
                  exact ⟨⟨n + 1, by omega, by omega, by go_num, HRc.out, HN6.out, HBc.out⟩, by simp [intOf]; omega⟩
        · obtain rfl : n = b.length + 1 := by omega
          have n1 : ¬ ((b.length : Int) + 1 ≤ (b.length : Int)) := by omega
          have HN5 := Lib.hid (hN.congr (f' := reachP b (p.take (i + 1)) fun m => decide (m = s)) (fun m hm => by rw [HN.out, stepTo_end hm]))
          clear hR hN hB
          go_wp2_with fail
          exact ⟨⟨i + 1, by omega, by go_num, G, rfl, HN5.out, hnl, HB.out⟩, by simp [intOf]; omega⟩
    · obtain rfl : p.length = i := by omega
      have j1 : ¬ ((p.length : Int) < (p.length : Int)) := by omega
      rw [List.take_of_length_le (Nat.le_refl _)] at hR
      have HR := Lib.hid hR
      have HB := Lib.hid hB
      clear hR hB
      go_wp2_with fail
      go_ret
      exact show FromP _ _ _ _ _ from ⟨g, rfl, HR.out, hgl, HB.out⟩
end Go.Proofs.Ytllkohjmghoipaa
