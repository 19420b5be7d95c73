/- classes.Prefix, Parse. -/
import Derived.Test.YtooiegejchcbhaaDoorKPref
import Derived.Test.YtooiegejchcbhaaDoorKRange
import Derived.Test.YtooiegejchcbhaaDoorKNot
namespace Go.Proofs.YtooiegejchcbhaaDoor
open Go.RowKit

def PrefP (r : CSet × Nat × Int) (w : World) (e : Ending) (w' : World) : Prop := e = .returned (.tuple #[setV r.1, .int .i64 (r.2.1 : Int), .int .i64 r.2.2]) ∧ Below w.heap.size w w'
theorem range_e {x y : Nat} (hy : y < 256) : rangeE (x : Int) (y : Int) = if y < x then 7 else 0 := by
  unfold rangeE
  by_cases h : y < x
  · rw [if_pos (by omega), if_pos h]
  · rw [if_neg (by omega), if_neg h]

set_option maxRecDepth 100000 in
set_option maxHeartbeats 8000000 in
theorem prefix_p (t : List UInt8) (ht : t.length ≤ 1000000000) (w : World) : Calls Tryd.prog 12 #[.string (str t)] w (PrefP (prefixV t) w) := by
  have hst := size_str t
  have KC := Lib.hid (fun w => cut1_p t 91 ht w)
  have KH := Lib.hid (fun w => has1_p t.tail 94 (by simp; omega) w)
  have KR := Lib.hid (fun i hi w => read_p t i ht hi w)
  have KG := Lib.hid (fun l h w => range_p l h w)
  have KU := Lib.hid (fun a b w => union_p a b w)
  have KN := Lib.hid (fun a w => not_p a w)
  have HA0 := Lib.hid (SetAt.zero w)
  have HB0 := Lib.hid ((Below.refl w.heap.size w).alloc (Nat.le_refl _) (.cells #[.int .u64 0, .int .u64 0, .int .u64 0, .int .u64 0] 24))
  have fin : ∀ (S : CSet) (n : Nat) (e : Int) (W : World) (a : Act), SetAt W w.heap.size S → Below w.heap.size w W → a.tmps[2]?.getD undef = .pointer (some ⟨w.heap.size, 0, none⟩) → a.tmps[3]?.getD undef = .int .i64 (n : Int) → a.tmps[4]?.getD undef = .int .i64 e → a.defers = [] →
      bodyPost Tryd.prog Tryd.f12 (PrefP (S, n, e) w) .ret a W := by
    intro S n e W a hW hB h2 h3 h4 hd
    obtain ⟨q0, q1, q2, q3⟩ := hW.cells
    exact bodyPost_ret (v := .tuple #[setV S, .int .i64 (n : Int), .int .i64 e]) (by simp [results, Tryd.results12, go_sem, h2, h3, h4, q0, q1, q2, q3, setV, setC]) hd ⟨rfl, hB⟩
  have FIN := Lib.hid fin
  obtain ⟨V, hV⟩ : ∃ V, V = prefixV t := ⟨_, rfl⟩
  rw [← hV]
  unfold prefixV at hV
  clear fin
  cases hh : headB t 91 with
  | false =>
    rw [if_pos hh] at hV
    subst hV
    rw [hh] at KC
    clear hh
    obtain ⟨f0, f1, f2, f3⟩ := HA0.out.free
    go_enter Tryd.func12, Tryd.ntmps12
    go_wp2_with fail
    refine (KC.out _).mono ?_
    rintro e w1 ⟨rfl, rfl⟩
    go_wp2_with fail
    exact FIN.out 0#256 0 6 _ _ HA0.out HB0.out rfl rfl rfl rfl
  | true =>
    rw [if_neg (by rw [hh]; decide)] at hV
    rw [hh] at KC
    have hcut : cutV t 91 = t.tail := by unfold cutV; rw [if_pos hh]
    rw [hcut] at KC
    have hl1 : 1 ≤ t.length := by
      cases t with
      | nil => simp [headB] at hh
      | cons _ _ => simp
    clear hh hcut
    cases hno : headB t.tail 94 with
    | false =>
      rw [hno] at KH hV
      rw [if_neg (by decide : ¬ (false = true))] at hV
      clear hno
      have HV := Lib.hid hV
      clear hV
      go_enter Tryd.func12, Tryd.ntmps12
      go_wp2_with fail
      refine (KC.out _).mono ?_
      rintro e w1 ⟨rfl, rfl⟩
      go_wp2_with fail
      refine (KH.out _).mono ?_
      rintro e w1 ⟨rfl, rfl⟩
      go_wp2_with fail
      clear KC KH
      go_loopw [7] (fun iv wr => ∃ (i f : Nat) (s : CSet), iv = .int .i64 (i : Nat) ∧ SetAt wr w.heap.size s ∧ Below w.heap.size w wr ∧ i ≤ t.length ∧ t.length < i + f ∧ prefV t false f i s = V) (fun iv _ => t.length - (intOf iv).toNat)
      case atStart => exact ⟨1, t.length + 1, 0#256, rfl, HA0.out, HB0.out, by omega, by omega, HV.out.symm⟩
      case round =>
        clear HV HA0 HB0
        obtain ⟨i, f, s, rfl, hS, hB, hi, hf, hV⟩ := hrel
        obtain ⟨f, rfl⟩ : ∃ g, f = g + 1 := ⟨f - 1, by omega⟩
        rw [prefV] at hV
        have hg := fun (k : Nat) (h : k < (str t).size) => byt_at (t := t) h
        have g0 := hg i
        have i0 : (0 : Int) ≤ (i : Int) := by omega
        have HS := Lib.hid hS
        have HB := Lib.hid hB
        have hwz := hB.size
        have hlt := hS.lt
        obtain ⟨f0, f1, f2, f3⟩ := hS.free
        obtain ⟨d0, d1, d2, d3⟩ := hS.cells
        by_cases hc : t.length ≤ i
        · rw [if_neg (by omega), if_pos hc] at hV
          subst hV
          have j1 : (t.length : Int) ≤ (i : Int) := by omega
          clear hg g0 hS hB
          go_wp2_with fail
          show bodyPost _ _ _ _ _ (putSet wr w.heap.size 0#256)
          exact FIN.out 0#256 _ 6 _ _ (HS.out.put _) (below_put HB.out (Nat.le_refl _) _) rfl rfl rfl rfl
        · have j1 : (i : Int) < (t.length : Int) := by omega
          have hx := byt_lt t i
          have HR1 := Lib.hid (fun w => KR.out i (by omega) w)
          have HN1 := Lib.hid (read_next (t := t) (i := i) (by omega))
          by_cases hx : byt t i = 93
          · rw [if_neg (by omega), if_neg hc] at hV
            rw [hx] at g0
            subst hV
            clear hg hS hB
            go_wp2_with fail
            show bodyPost _ _ _ _ _ (putSet wr w.heap.size s)
            exact FIN.out s (i + 1) 0 _ _ (HS.out.put _) (below_put HB.out (Nat.le_refl _) _) rfl (by push_cast; rfl) rfl rfl
          · rw [if_pos ⟨by omega, hx⟩] at hV
            obtain ⟨x, hxe⟩ : ∃ x, x = byt t i := ⟨_, rfl⟩
            simp only [← hxe] at g0 hx
            have k1 : ((x : Int) != 93) = true := bne_iff_ne.2 (by omega)
            clear hxe
            generalize readV t i = R at *
            obtain ⟨a, n, ok⟩ := R
            simp only at hV HN1
            cases ok with
            | false =>
              rw [if_pos rfl] at hV
              subst hV
              clear hg hS hB HN1
              go_wp2_with fail
              refine (HR1.out _).mono ?_
              rintro e w1 ⟨rfl, rfl⟩
              go_wp2_with fail
              show bodyPost _ _ _ _ _ (putSet wr w.heap.size 0#256)
              exact FIN.out 0#256 _ 6 _ _ (HS.out.put _) (below_put HB.out (Nat.le_refl _) _) rfl rfl rfl rfl
            | true =>
              rw [if_neg (by decide)] at hV
              obtain ⟨n0, n1, n2⟩ := HN1.out rfl
              have hn0 : (0 : Int) ≤ (n : Int) := by omega
              have g1 := hg n
              have hy := byt_lt t n
              by_cases hd : n < t.length ∧ byt t n = 45
              · rw [if_pos hd] at hV
                obtain ⟨hd1, hd2⟩ := hd
                rw [hd2] at g1
                have k2 : (n : Int) < (t.length : Int) := by omega
                have HR2 := Lib.hid (fun w => KR.out (n + 1) (by omega) w)
                have HN2 := Lib.hid (fun h => read_next (t := t) (i := n + 1) h)
                obtain ⟨R2, hRR2⟩ : ∃ R2, readV t (n + 1) = R2 := ⟨_, rfl⟩
                rw [hRR2] at hV
                have HRR2 := Lib.hid hRR2
                replace HR2 := Lib.hid (show ∀ w, Calls Tryd.prog 45 #[.string (str t), .int .i64 ((n + 1 : Nat) : Int)] w (ReadP R2 w) from fun w => by rw [← HRR2.out]; exact HR2.out w)
                replace HN2 := Lib.hid (show n + 1 < t.length → R2.2.2 = true → n + 1 < R2.2.1 ∧ R2.2.1 ≤ t.length ∧ R2.1 < 256 from by rw [← hRR2]; exact HN2.out)
                obtain ⟨b, m, ok⟩ := R2
                simp only at hV
                cases ok with
                | false =>
                  rw [if_pos rfl] at hV
                  subst hV
                  clear hg hS hB HN1 HN2 hRR2
                  go_wp2_with fail
                  refine (HR1.out _).mono ?_
                  rintro e w1 ⟨rfl, rfl⟩
                  go_wp2_with fail
                  refine (HR2.out _).mono ?_
                  rintro e w1 ⟨rfl, rfl⟩
                  go_wp2_with fail
                  show bodyPost _ _ _ _ _ (putSet wr w.heap.size 0#256)
                  exact FIN.out 0#256 _ 6 _ _ (HS.out.put _) (below_put HB.out (Nat.le_refl _) _) rfl rfl rfl rfl
                | true =>
                  rw [if_neg (by simp)] at hV
                  have HG0 := Lib.hid (KG.out (a : Int) (b : Int))
                  have hnl : n + 1 < t.length := by
                    rcases Nat.lt_or_ge (n + 1) t.length with h | h
                    · exact h
                    · have h9 := hRR2
                      unfold readV at h9
                      rw [if_pos h] at h9
                      simp at h9
                  obtain ⟨m0, m1, m2⟩ := HN2.out hnl rfl
                  simp only at m0 m1 m2
                  have hm0 : (0 : Int) ≤ (m : Int) := by omega
                  by_cases hba : b < a
                  · rw [if_pos hba] at hV
                    subst hV
                    have e0 : rangeE (a : Int) (b : Int) = 7 := by rw [range_e m2, if_pos hba]
                    rw [e0] at HG0
                    have HG := HG0
                    clear hg hS hB HN1 HN2 KG KU HG0 hRR2
                    go_wp2_with fail
                    refine (HR1.out _).mono ?_
                    rintro e w1 ⟨rfl, rfl⟩
                    go_wp2_with fail
                    refine (HR2.out _).mono ?_
                    rintro e w1 ⟨rfl, rfl⟩
                    go_wp2_with fail
                    refine (HG.out _).mono ?_
                    rintro e w1 ⟨rfl, hb1⟩
                    have hs1 := (HS.out.below hb1 hlt).alloc (.cells (setC (rangeS (a : Int) (b : Int))) 24)
                    have hB1 := (next HB.out hb1).alloc (by have := hb1.size; omega) (.cells (setC (rangeS (a : Int) (b : Int))) 24)
                    unfold setC at hs1 hB1
                    have HS1 := Lib.hid hs1
                    have HB1 := Lib.hid hB1
                    obtain ⟨x0, x1, x2, x3⟩ := hs1.cells
                    obtain ⟨y0, y1, y2, y3⟩ := hs1.free
                    clear hb1 HS HB d0 d1 d2 d3 f0 f1 f2 f3 hs1 hB1
                    unfold setV setC
                    go_wp2_with fail
                    exact FIN.out 0#256 _ 6 _ _ (HS1.out.put 0#256) (below_put HB1.out (Nat.le_refl _) 0#256) rfl (by first | rfl | (push_cast; rfl)) rfl rfl
                  · rw [if_neg hba] at hV
                    have e0 : rangeE (a : Int) (b : Int) = 0 := by rw [range_e m2, if_neg hba]
                    rw [e0] at HG0
                    have HG := HG0
                    have KU2 := Lib.hid (KU.out s (rangeS (a : Int) (b : Int)))
                    clear hg hS hB HN1 HN2 KG KU HG0 hRR2
                    go_wp2_with fail
                    refine (HR1.out _).mono ?_
                    rintro e w1 ⟨rfl, rfl⟩
                    go_wp2_with fail
                    refine (HR2.out _).mono ?_
                    rintro e w1 ⟨rfl, rfl⟩
                    go_wp2_with fail
                    refine (HG.out _).mono ?_
                    rintro e w1 ⟨rfl, hb1⟩
                    have hs1 := (HS.out.below hb1 hlt).alloc (.cells (setC (rangeS (a : Int) (b : Int))) 24)
                    have hn1 := SetAt.new w1 (rangeS (a : Int) (b : Int))
                    have hB1 := (next HB.out hb1).alloc (by have := hb1.size; omega) (.cells (setC (rangeS (a : Int) (b : Int))) 24)
                    have hz1 := hb1.size
                    unfold setC at hs1 hn1 hB1
                    have HS1 := Lib.hid hs1
                    have HB1 := Lib.hid hB1
                    obtain ⟨x0, x1, x2, x3⟩ := hs1.cells
                    obtain ⟨y0, y1, y2, y3⟩ := hs1.free
                    obtain ⟨z0, z1, z2, z3⟩ := hn1.cells
                    clear hb1 HS HB d0 d1 d2 d3 f0 f1 f2 f3 hs1 hn1 hB1
                    unfold setV setC
                    go_wp2_with fail
                    refine (KU2.out _).mono ?_
                    rintro e w3 ⟨rfl, hb3⟩
                    have hs3 := HS1.out.below hb3 (by simp; omega)
                    have HB3 := Lib.hid (next HB1.out hb3)
                    have HS3 := Lib.hid hs3
                    obtain ⟨u0, u1, u2, u3⟩ := hs3.cells
                    obtain ⟨v0, v1, v2, v3⟩ := hs3.free
                    clear hb3 hs3 x0 x1 x2 x3 y0 y1 y2 y3 z0 z1 z2 z3 HS1 HB1
                    unfold setV setC
                    go_wp2_with fail
                    exact ⟨⟨m, f, s ||| (rangeS (a : Int) (b : Int)), by first | rfl | (push_cast; rfl), HS3.out.put _, below_put HB3.out (Nat.le_refl _) _, by omega, by omega, hV⟩, by simp [intOf]; omega⟩
              · rw [if_neg hd] at hV
                have q : ((n : Int) < (t.length : Int)) ∨ ¬ ((n : Int) < (t.length : Int)) := by omega
                have e0 : rangeE (a : Int) (a : Int) = 0 := by rw [range_e n2, if_neg (by omega)]
                have HG := Lib.hid (KG.out (a : Int) (a : Int))
                rw [e0] at HG
                have KU2 := Lib.hid (KU.out s (rangeS (a : Int) (a : Int)))
                rcases q with k2 | k2
                · obtain ⟨y, hye⟩ : ∃ y, y = byt t n := ⟨_, rfl⟩
                  have k3 : ((y : Int) == 45) = false := beq_eq_false_iff_ne.2 (by omega)
                  simp only [← hye] at g1
                  clear hye hd hg hS hB HN1 KG KU
                  go_wp2_with fail
                  refine (HR1.out _).mono ?_
                  rintro e w1 ⟨rfl, rfl⟩
                  go_wp2_with fail
                  refine (HG.out _).mono ?_
                  rintro e w1 ⟨rfl, hb1⟩
                  have hs1 := (HS.out.below hb1 hlt).alloc (.cells (setC (rangeS (a : Int) (a : Int))) 24)
                  have hn1 := SetAt.new w1 (rangeS (a : Int) (a : Int))
                  have hB1 := (next HB.out hb1).alloc (by have := hb1.size; omega) (.cells (setC (rangeS (a : Int) (a : Int))) 24)
                  have hz1 := hb1.size
                  unfold setC at hs1 hn1 hB1
                  have HS1 := Lib.hid hs1
                  have HB1 := Lib.hid hB1
                  obtain ⟨x0, x1, x2, x3⟩ := hs1.cells
                  obtain ⟨y0, y1, y2, y3⟩ := hs1.free
                  obtain ⟨z0, z1, z2, z3⟩ := hn1.cells
                  clear hb1 HS HB d0 d1 d2 d3 f0 f1 f2 f3 hs1 hn1 hB1
                  unfold setV setC
                  go_wp2_with fail
                  refine (KU2.out _).mono ?_
                  rintro e w3 ⟨rfl, hb3⟩
                  have hs3 := HS1.out.below hb3 (by simp; omega)
                  have HB3 := Lib.hid (next HB1.out hb3)
                  have HS3 := Lib.hid hs3
                  obtain ⟨u0, u1, u2, u3⟩ := hs3.cells
                  obtain ⟨v0, v1, v2, v3⟩ := hs3.free
                  clear hb3 hs3 x0 x1 x2 x3 y0 y1 y2 y3 z0 z1 z2 z3 HS1 HB1
                  unfold setV setC
                  go_wp2_with fail
                  exact ⟨⟨n, f, s ||| (rangeS (a : Int) (a : Int)), by first | rfl | (push_cast; rfl), HS3.out.put _, below_put HB3.out (Nat.le_refl _) _, by omega, by omega, hV⟩, by simp [intOf]; omega⟩
                · clear hd hg hS hB HN1 KG KU g1
                  go_wp2_with fail
                  refine (HR1.out _).mono ?_
                  rintro e w1 ⟨rfl, rfl⟩
                  go_wp2_with fail
                  refine (HG.out _).mono ?_
                  rintro e w1 ⟨rfl, hb1⟩
                  have hs1 := (HS.out.below hb1 hlt).alloc (.cells (setC (rangeS (a : Int) (a : Int))) 24)
                  have hn1 := SetAt.new w1 (rangeS (a : Int) (a : Int))
                  have hB1 := (next HB.out hb1).alloc (by have := hb1.size; omega) (.cells (setC (rangeS (a : Int) (a : Int))) 24)
                  have hz1 := hb1.size
                  unfold setC at hs1 hn1 hB1
                  have HS1 := Lib.hid hs1
                  have HB1 := Lib.hid hB1
                  obtain ⟨x0, x1, x2, x3⟩ := hs1.cells
                  obtain ⟨y0, y1, y2, y3⟩ := hs1.free
                  obtain ⟨z0, z1, z2, z3⟩ := hn1.cells
                  clear hb1 HS HB d0 d1 d2 d3 f0 f1 f2 f3 hs1 hn1 hB1
                  unfold setV setC
                  go_wp2_with fail
                  refine (KU2.out _).mono ?_
                  rintro e w3 ⟨rfl, hb3⟩
                  have hs3 := HS1.out.below hb3 (by simp; omega)
                  have HB3 := Lib.hid (next HB1.out hb3)
                  have HS3 := Lib.hid hs3
                  obtain ⟨u0, u1, u2, u3⟩ := hs3.cells
                  obtain ⟨v0, v1, v2, v3⟩ := hs3.free
                  clear hb3 hs3 x0 x1 x2 x3 y0 y1 y2 y3 z0 z1 z2 z3 HS1 HB1
                  unfold setV setC
                  go_wp2_with fail
                  exact ⟨⟨n, f, s ||| (rangeS (a : Int) (a : Int)), by first | rfl | (push_cast; rfl), HS3.out.put _, below_put HB3.out (Nat.le_refl _) _, by omega, by omega, hV⟩, by simp [intOf]; omega⟩
    | true =>
      rw [hno] at KH hV
      rw [if_pos (rfl : true = true)] at hV
      have hl2 : 2 ≤ t.length := by
        rcases t with _ | ⟨_, _ | ⟨_, _⟩⟩
        · simp [headB] at hno
        · simp [headB] at hno
        · simp
      clear hno
      have HV := Lib.hid hV
      clear hV
      go_enter Tryd.func12, Tryd.ntmps12
      go_wp2_with fail
      refine (KC.out _).mono ?_
      rintro e w1 ⟨rfl, rfl⟩
      go_wp2_with fail
      refine (KH.out _).mono ?_
      rintro e w1 ⟨rfl, rfl⟩
      go_wp2_with fail
      clear KC KH
      go_loopw [7] (fun iv wr => ∃ (i f : Nat) (s : CSet), iv = .int .i64 (i : Nat) ∧ SetAt wr w.heap.size s ∧ Below w.heap.size w wr ∧ i ≤ t.length ∧ t.length < i + f ∧ prefV t true f i s = V) (fun iv _ => t.length - (intOf iv).toNat)
      case atStart => exact ⟨2, t.length + 1, 0#256, rfl, HA0.out, HB0.out, hl2, by omega, HV.out.symm⟩
      case round =>
        clear HV HA0 HB0
        obtain ⟨i, f, s, rfl, hS, hB, hi, hf, hV⟩ := hrel
        obtain ⟨f, rfl⟩ : ∃ g, f = g + 1 := ⟨f - 1, by omega⟩
        rw [prefV] at hV
        have hg := fun (k : Nat) (h : k < (str t).size) => byt_at (t := t) h
        have g0 := hg i
        have i0 : (0 : Int) ≤ (i : Int) := by omega
        have HS := Lib.hid hS
        have HB := Lib.hid hB
        have hwz := hB.size
        have hlt := hS.lt
        obtain ⟨f0, f1, f2, f3⟩ := hS.free
        obtain ⟨d0, d1, d2, d3⟩ := hS.cells
        by_cases hc : t.length ≤ i
        · rw [if_neg (by omega), if_pos hc] at hV
          subst hV
          have j1 : (t.length : Int) ≤ (i : Int) := by omega
          clear hg g0 hS hB
          go_wp2_with fail
          show bodyPost _ _ _ _ _ (putSet wr w.heap.size 0#256)
          exact FIN.out 0#256 _ 6 _ _ (HS.out.put _) (below_put HB.out (Nat.le_refl _) _) rfl rfl rfl rfl
        · have j1 : (i : Int) < (t.length : Int) := by omega
          have hx := byt_lt t i
          have HR1 := Lib.hid (fun w => KR.out i (by omega) w)
          have HN1 := Lib.hid (read_next (t := t) (i := i) (by omega))
          by_cases hx : byt t i = 93
          · rw [if_neg (by omega), if_neg hc, if_pos (rfl : true = true)] at hV
            rw [hx] at g0
            subst hV
            clear hg hS hB
            go_wp2_with fail
            have HN := Lib.hid (KN.out s)
            clear KN
            generalize ~~~s = S at *
            refine (HN.out _).mono ?_
            rintro e w1 ⟨rfl, hb1⟩
            have HS1 := Lib.hid (HS.out.below hb1 hlt)
            have HB1 := Lib.hid (next HB.out hb1)
            obtain ⟨x0, x1, x2, x3⟩ := HS1.out.cells
            obtain ⟨y0, y1, y2, y3⟩ := HS1.out.free
            have hp := HS1.out.put S
            unfold putSet at hp
            obtain ⟨z0, z1, z2, z3⟩ := hp.cells
            obtain ⟨zf0, zf1, zf2, zf3⟩ := hp.free
            clear hb1 HS HB d0 d1 d2 d3 f0 f1 f2 f3 hp
            unfold setV setC
            go_wp2_with fail
            exact FIN.out S (i + 1) 0 _ _ ((HS1.out.put S).put S) (below_put (below_put HB1.out (Nat.le_refl _) S) (Nat.le_refl _) S) rfl (by push_cast; rfl) rfl rfl
          · rw [if_pos ⟨by omega, hx⟩] at hV
            obtain ⟨x, hxe⟩ : ∃ x, x = byt t i := ⟨_, rfl⟩
            simp only [← hxe] at g0 hx
            have k1 : ((x : Int) != 93) = true := bne_iff_ne.2 (by omega)
            clear hxe
            generalize readV t i = R at *
            obtain ⟨a, n, ok⟩ := R
            simp only at hV HN1
            cases ok with
            | false =>
              rw [if_pos rfl] at hV
              subst hV
              clear hg hS hB HN1
              go_wp2_with fail
              refine (HR1.out _).mono ?_
              rintro e w1 ⟨rfl, rfl⟩
              go_wp2_with fail
              show bodyPost _ _ _ _ _ (putSet wr w.heap.size 0#256)
              exact FIN.out 0#256 _ 6 _ _ (HS.out.put _) (below_put HB.out (Nat.le_refl _) _) rfl rfl rfl rfl
            | true =>
              rw [if_neg (by decide)] at hV
              obtain ⟨n0, n1, n2⟩ := HN1.out rfl
              have hn0 : (0 : Int) ≤ (n : Int) := by omega
              have g1 := hg n
              have hy := byt_lt t n
              by_cases hd : n < t.length ∧ byt t n = 45
              · rw [if_pos hd] at hV
                obtain ⟨hd1, hd2⟩ := hd
                rw [hd2] at g1
                have k2 : (n : Int) < (t.length : Int) := by omega
                have HR2 := Lib.hid (fun w => KR.out (n + 1) (by omega) w)
                have HN2 := Lib.hid (fun h => read_next (t := t) (i := n + 1) h)
                obtain ⟨R2, hRR2⟩ : ∃ R2, readV t (n + 1) = R2 := ⟨_, rfl⟩
                rw [hRR2] at hV
                have HRR2 := Lib.hid hRR2
                replace HR2 := Lib.hid (show ∀ w, Calls Tryd.prog 45 #[.string (str t), .int .i64 ((n + 1 : Nat) : Int)] w (ReadP R2 w) from fun w => by rw [← HRR2.out]; exact HR2.out w)
                replace HN2 := Lib.hid (show n + 1 < t.length → R2.2.2 = true → n + 1 < R2.2.1 ∧ R2.2.1 ≤ t.length ∧ R2.1 < 256 from by rw [← hRR2]; exact HN2.out)
                obtain ⟨b, m, ok⟩ := R2
                simp only at hV
                cases ok with
                | false =>
                  rw [if_pos rfl] at hV
                  subst hV
                  clear hg hS hB HN1 HN2 hRR2
                  go_wp2_with fail
                  refine (HR1.out _).mono ?_
                  rintro e w1 ⟨rfl, rfl⟩
                  go_wp2_with fail
                  refine (HR2.out _).mono ?_
                  rintro e w1 ⟨rfl, rfl⟩
                  go_wp2_with fail
                  show bodyPost _ _ _ _ _ (putSet wr w.heap.size 0#256)
                  exact FIN.out 0#256 _ 6 _ _ (HS.out.put _) (below_put HB.out (Nat.le_refl _) _) rfl rfl rfl rfl
                | true =>
                  rw [if_neg (by simp)] at hV
                  have HG0 := Lib.hid (KG.out (a : Int) (b : Int))
                  have hnl : n + 1 < t.length := by
                    rcases Nat.lt_or_ge (n + 1) t.length with h | h
                    · exact h
                    · have h9 := hRR2
                      unfold readV at h9
                      rw [if_pos h] at h9
                      simp at h9
                  obtain ⟨m0, m1, m2⟩ := HN2.out hnl rfl
                  simp only at m0 m1 m2
                  have hm0 : (0 : Int) ≤ (m : Int) := by omega
                  by_cases hba : b < a
                  · rw [if_pos hba] at hV
                    subst hV
                    have e0 : rangeE (a : Int) (b : Int) = 7 := by rw [range_e m2, if_pos hba]
                    rw [e0] at HG0
                    have HG := HG0
                    clear hg hS hB HN1 HN2 KG KU HG0 hRR2
                    go_wp2_with fail
                    refine (HR1.out _).mono ?_
                    rintro e w1 ⟨rfl, rfl⟩
                    go_wp2_with fail
                    refine (HR2.out _).mono ?_
                    rintro e w1 ⟨rfl, rfl⟩
                    go_wp2_with fail
                    refine (HG.out _).mono ?_
                    rintro e w1 ⟨rfl, hb1⟩
                    have hs1 := (HS.out.below hb1 hlt).alloc (.cells (setC (rangeS (a : Int) (b : Int))) 24)
                    have hB1 := (next HB.out hb1).alloc (by have := hb1.size; omega) (.cells (setC (rangeS (a : Int) (b : Int))) 24)
                    unfold setC at hs1 hB1
                    have HS1 := Lib.hid hs1
                    have HB1 := Lib.hid hB1
                    obtain ⟨x0, x1, x2, x3⟩ := hs1.cells
                    obtain ⟨y0, y1, y2, y3⟩ := hs1.free
                    clear hb1 HS HB d0 d1 d2 d3 f0 f1 f2 f3 hs1 hB1
                    unfold setV setC
                    go_wp2_with fail
                    exact FIN.out 0#256 _ 6 _ _ (HS1.out.put 0#256) (below_put HB1.out (Nat.le_refl _) 0#256) rfl (by first | rfl | (push_cast; rfl)) rfl rfl
                  · rw [if_neg hba] at hV
                    have e0 : rangeE (a : Int) (b : Int) = 0 := by rw [range_e m2, if_neg hba]
                    rw [e0] at HG0
                    have HG := HG0
                    have KU2 := Lib.hid (KU.out s (rangeS (a : Int) (b : Int)))
                    clear hg hS hB HN1 HN2 KG KU HG0 hRR2
                    go_wp2_with fail
                    refine (HR1.out _).mono ?_
                    rintro e w1 ⟨rfl, rfl⟩
                    go_wp2_with fail
                    refine (HR2.out _).mono ?_
                    rintro e w1 ⟨rfl, rfl⟩
                    go_wp2_with fail
                    refine (HG.out _).mono ?_
                    rintro e w1 ⟨rfl, hb1⟩
                    have hs1 := (HS.out.below hb1 hlt).alloc (.cells (setC (rangeS (a : Int) (b : Int))) 24)
                    have hn1 := SetAt.new w1 (rangeS (a : Int) (b : Int))
                    have hB1 := (next HB.out hb1).alloc (by have := hb1.size; omega) (.cells (setC (rangeS (a : Int) (b : Int))) 24)
                    have hz1 := hb1.size
                    unfold setC at hs1 hn1 hB1
                    have HS1 := Lib.hid hs1
                    have HB1 := Lib.hid hB1
                    obtain ⟨x0, x1, x2, x3⟩ := hs1.cells
                    obtain ⟨y0, y1, y2, y3⟩ := hs1.free
                    obtain ⟨z0, z1, z2, z3⟩ := hn1.cells
                    clear hb1 HS HB d0 d1 d2 d3 f0 f1 f2 f3 hs1 hn1 hB1
                    unfold setV setC
                    go_wp2_with fail
                    refine (KU2.out _).mono ?_
                    rintro e w3 ⟨rfl, hb3⟩
                    have hs3 := HS1.out.below hb3 (by simp; omega)
                    have HB3 := Lib.hid (next HB1.out hb3)
                    have HS3 := Lib.hid hs3
                    obtain ⟨u0, u1, u2, u3⟩ := hs3.cells
                    obtain ⟨v0, v1, v2, v3⟩ := hs3.free
                    clear hb3 hs3 x0 x1 x2 x3 y0 y1 y2 y3 z0 z1 z2 z3 HS1 HB1
                    unfold setV setC
                    go_wp2_with fail
                    exact ⟨⟨m, f, s ||| (rangeS (a : Int) (b : Int)), by first | rfl | (push_cast; rfl), HS3.out.put _, below_put HB3.out (Nat.le_refl _) _, by omega, by omega, hV⟩, by simp [intOf]; omega⟩
              · rw [if_neg hd] at hV
                have q : ((n : Int) < (t.length : Int)) ∨ ¬ ((n : Int) < (t.length : Int)) := by omega
                have e0 : rangeE (a : Int) (a : Int) = 0 := by rw [range_e n2, if_neg (by omega)]
                have HG := Lib.hid (KG.out (a : Int) (a : Int))
                rw [e0] at HG
                have KU2 := Lib.hid (KU.out s (rangeS (a : Int) (a : Int)))
                rcases q with k2 | k2
                · obtain ⟨y, hye⟩ : ∃ y, y = byt t n := ⟨_, rfl⟩
                  have k3 : ((y : Int) == 45) = false := beq_eq_false_iff_ne.2 (by omega)
                  simp only [← hye] at g1
                  clear hye hd hg hS hB HN1 KG KU
                  go_wp2_with fail
                  refine (HR1.out _).mono ?_
                  rintro e w1 ⟨rfl, rfl⟩
                  go_wp2_with fail
                  refine (HG.out _).mono ?_
                  rintro e w1 ⟨rfl, hb1⟩
                  have hs1 := (HS.out.below hb1 hlt).alloc (.cells (setC (rangeS (a : Int) (a : Int))) 24)
                  have hn1 := SetAt.new w1 (rangeS (a : Int) (a : Int))
                  have hB1 := (next HB.out hb1).alloc (by have := hb1.size; omega) (.cells (setC (rangeS (a : Int) (a : Int))) 24)
                  have hz1 := hb1.size
                  unfold setC at hs1 hn1 hB1
                  have HS1 := Lib.hid hs1
                  have HB1 := Lib.hid hB1
                  obtain ⟨x0, x1, x2, x3⟩ := hs1.cells
                  obtain ⟨y0, y1, y2, y3⟩ := hs1.free
                  obtain ⟨z0, z1, z2, z3⟩ := hn1.cells
                  clear hb1 HS HB d0 d1 d2 d3 f0 f1 f2 f3 hs1 hn1 hB1
                  unfold setV setC
                  go_wp2_with fail
                  refine (KU2.out _).mono ?_
                  rintro e w3 ⟨rfl, hb3⟩
                  have hs3 := HS1.out.below hb3 (by simp; omega)
                  have HB3 := Lib.hid (next HB1.out hb3)
                  have HS3 := Lib.hid hs3
                  obtain ⟨u0, u1, u2, u3⟩ := hs3.cells
                  obtain ⟨v0, v1, v2, v3⟩ := hs3.free
                  clear hb3 hs3 x0 x1 x2 x3 y0 y1 y2 y3 z0 z1 z2 z3 HS1 HB1
                  unfold setV setC
                  go_wp2_with fail
                  exact ⟨⟨n, f, s ||| (rangeS (a : Int) (a : Int)), by first | rfl | (push_cast; rfl), HS3.out.put _, below_put HB3.out (Nat.le_refl _) _, by omega, by omega, hV⟩, by simp [intOf]; omega⟩
                · clear hd hg hS hB HN1 KG KU g1
                  go_wp2_with fail
                  refine (HR1.out _).mono ?_
                  rintro e w1 ⟨rfl, rfl⟩
                  go_wp2_with fail
                  refine (HG.out _).mono ?_
                  rintro e w1 ⟨rfl, hb1⟩
                  have hs1 := (HS.out.below hb1 hlt).alloc (.cells (setC (rangeS (a : Int) (a : Int))) 24)
                  have hn1 := SetAt.new w1 (rangeS (a : Int) (a : Int))
                  have hB1 := (next HB.out hb1).alloc (by have := hb1.size; omega) (.cells (setC (rangeS (a : Int) (a : Int))) 24)
                  have hz1 := hb1.size
                  unfold setC at hs1 hn1 hB1
                  have HS1 := Lib.hid hs1
                  have HB1 := Lib.hid hB1
                  obtain ⟨x0, x1, x2, x3⟩ := hs1.cells
                  obtain ⟨y0, y1, y2, y3⟩ := hs1.free
                  obtain ⟨z0, z1, z2, z3⟩ := hn1.cells
                  clear hb1 HS HB d0 d1 d2 d3 f0 f1 f2 f3 hs1 hn1 hB1
                  unfold setV setC
                  go_wp2_with fail
                  refine (KU2.out _).mono ?_
                  rintro e w3 ⟨rfl, hb3⟩
                  have hs3 := HS1.out.below hb3 (by simp; omega)
                  have HB3 := Lib.hid (next HB1.out hb3)
                  have HS3 := Lib.hid hs3
                  obtain ⟨u0, u1, u2, u3⟩ := hs3.cells
                  obtain ⟨v0, v1, v2, v3⟩ := hs3.free
                  clear hb3 hs3 x0 x1 x2 x3 y0 y1 y2 y3 z0 z1 z2 z3 HS1 HB1
                  unfold setV setC
                  go_wp2_with fail
                  exact ⟨⟨n, f, s ||| (rangeS (a : Int) (a : Int)), by first | rfl | (push_cast; rfl), HS3.out.put _, below_put HB3.out (Nat.le_refl _) _, by omega, by omega, hV⟩, by simp [intOf]; omega⟩
end Go.Proofs.YtooiegejchcbhaaDoor
