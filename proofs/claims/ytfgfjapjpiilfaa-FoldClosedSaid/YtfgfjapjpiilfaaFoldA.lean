/- Layer 4's reference: All, Find, Ints, SameSets. -/
import Derived.Test.YtfgfjapjpiilfaaFoldC
namespace Go.Proofs.Ytfgfjapjpiilfaa
open Go.RowKit

def at4 (text s : List UInt8) (i : Nat) : Bool := alikeL ((text.drop i).take s.length) s
/-- the places below k -/
def allTo (text s : List UInt8) (k : Nat) : List Nat := (List.range k).filter (at4 text s)
theorem allTo_yes {text s : List UInt8} {k : Nat} (h : at4 text s k = true) : allTo text s (k + 1) = allTo text s k ++ [k] := by simp [allTo, List.range_succ, List.filter_append, h]
theorem allTo_no {text s : List UInt8} {k : Nat} (h : at4 text s k = false) : allTo text s (k + 1) = allTo text s k := by simp [allTo, List.range_succ, List.filter_append, h]
theorem allTo_le (text s : List UInt8) (k : Nat) : (allTo text s k).length ≤ k := by
  have := List.length_filter_le (at4 text s) (List.range k)
  simpa [allTo] using this
theorem allTo_mem {text s : List UInt8} {k i : Nat} (h : i ∈ allTo text s k) : i < k := by
  simp [allTo] at h; exact h.1
def far (text s : List UInt8) : Bool := decide (512 < s.length) || decide (4096 < text.length)
def allL (text s : List UInt8) : List Nat := if far text s = true then [] else allTo text s (text.length + 1 - s.length)
def allE (text s : List UInt8) : Int := if far text s = true then 3 else 0
def icells (l : List Nat) : List Value := l.map fun (n : Nat) => Value.int .i64 (n : Int)
theorem length_icells (l : List Nat) : (icells l).length = l.length := by simp [icells]
theorem icells_snoc (l : List Nat) (n : Nat) : icells (l ++ [n]) = icells l ++ [.int .i64 (n : Int)] := by simp [icells]
theorem infoInt : (Try.prog.info? 3).map (fun i => (i.zero, i.size, i.bytes)) = some (some (.int .i64 0), 1, 8) := by kernel_rfl
theorem piece (text : List UInt8) (i n : Nat) : (str text).extract i (i + n) = str ((text.drop i).take n) := by
  rw [extract_str, List.drop_take]; congr 2; omega

set_option maxRecDepth 100000 in
set_option maxHeartbeats 1000000 in
theorem all4 (text s : List UInt8) (w : World) (ht : text.length ≤ maxLen) (hs : s.length ≤ maxLen) :
    Calls Try.prog 15 #[.string (str text), .string (str s)] w fun e w' => ∃ v, e = .returned (.tuple #[v, .int .i64 (allE text s)]) ∧ w'.ownsRow w.heap.size 3 1 v (allL text s).length (icells (allL text s)) ∧ Below w.heap.size w w' := by
  have hst := size_str text
  have hss := size_str s
  unfold maxLen at ht hs
  by_cases h : far text s = true
  · have e1 : allE text s = 3 := if_pos h
    have e2 : allL text s = [] := if_pos h
    rw [e1, e2]; clear e1 e2
    by_cases h1 : 512 < s.length
    · have t1 : (512 : Int) < (s.length : Int) := by omega
      clear h
      go_enter Try.func15, Try.ntmps15
      go_wp2_with fail
      go_ret2
      exact ⟨_, rfl, World.ownsRow_nil _ _ _ _, Below.refl _ _⟩
    · have t1 : ¬ (512 : Int) < (s.length : Int) := by omega
      have t2 : (4096 : Int) < (text.length : Int) := by
        unfold far at h; simp at h; omega
      clear h
      go_enter Try.func15, Try.ntmps15
      go_wp2_with fail
      go_ret2
      exact ⟨_, rfl, World.ownsRow_nil _ _ _ _, Below.refl _ _⟩
  · have e1 : allE text s = 0 := if_neg h
    have e2 : allL text s = allTo text s (text.length + 1 - s.length) := if_neg h
    rw [e1, e2]; clear e1 e2
    have t1 : ¬ (512 : Int) < (s.length : Int) := by unfold far at h; simp at h; omega
    have t2 : ¬ (4096 : Int) < (text.length : Int) := by unfold far at h; simp at h; omega
    clear h
    obtain ⟨i0, hi0, hz0, hz1, hz2⟩ := info_parts infoInt
    go_enter Try.func15, Try.ntmps15
    go_wp2_with fail
    go_loopw [6, 7] (fun ov iv wr => ∃ k : Nat, k ≤ text.length + 1 - s.length ∧ iv = .int .i64 (k : Nat) ∧ wr.ownsRow w.heap.size 3 1 ov (allTo text s k).length (icells (allTo text s k)) ∧ Below w.heap.size w wr) (fun _ iv _ => text.length + 1 - s.length - (intOf iv).toNat)
    case atStart => exact ⟨0, by omega, rfl, World.ownsRow_nil _ _ _ _, Below.refl _ _⟩
    case round =>
      obtain ⟨k, hk, rfl, hown, hB⟩ := hrel
      by_cases hlt : k + s.length ≤ text.length
      · have i1 : (0 : Int) ≤ (k : Int) := by omega
        have i2 : (k : Int) + (s.length : Int) ≤ (text.length : Int) := by omega
        have i3 : (k : Int) ≤ (k : Int) + (s.length : Int) := by omega
        have i4 : ((k : Int) + (s.length : Int)).toNat = k + s.length := by omega
        have hp := piece text k s.length
        have hle := allTo_le text s k
        have hlen : ((text.drop k).take s.length).length ≤ maxLen := by unfold maxLen; simp; omega
        have hlen2 : s.length ≤ maxLen := by unfold maxLen; omega
        have HL := Lib.hid hlen
        have HL2 := Lib.hid hlen2
        clear hlen hlen2
        obtain ⟨D, hD⟩ : ∃ D, D = at4 text s k := ⟨_, rfl⟩
        have HD := Lib.hid hD
        clear hD
        go_wp2_with fail
        refine (alike4 ((text.drop k).take s.length) s _ HL.out HL2.out).mono ?_
        rintro e w1 ⟨rfl, hb1⟩
        rw [show alikeL ((text.drop k).take s.length) s = D from HD.out.symm]
        have hown1 := ownsRow_below hown hb1
        have hB1 := next hB hb1
        have hz := hB1.size
        clear hb1
        cases D with
        | true =>
          have HY := Lib.hid (allTo_yes HD.out.symm)
          go_wp2_with (at_builtin; refine wpList_append_own _ rfl _ _ 26 rfl w.heap.size 3 i0 _ 1 8 Try.underlying26 hi0 hz0 hz1 hz2 rfl (by decide) _ _ _ rfl (hown1.alloc _) ⟨w1.heap.size, 0, none⟩ 1 1 [.int .i64 (k : Nat)] rfl rfl (cells_new _ _ _) (by simp [Value.oneCell']) (by unfold maxLen; omega) (by omega) (by simp; omega) ?_; intro v' w2 hown' hgrow _)
          refine ⟨⟨k + 1, by omega, by go_num, by rw [HY.out, icells_snoc]; simpa using hown', ?_⟩, by simp [intOf]; omega⟩
          exact hB1.trans (((Below.refl _ w1).alloc (by omega) _).grown hgrow (by simp; omega) fun q e => (hown1.lt q e).1)
        | false =>
          have HY := Lib.hid (allTo_no HD.out.symm)
          go_wp2_with fail
          refine ⟨⟨k + 1, by omega, by go_num, by rw [HY.out]; exact hown1, hB1⟩, by simp [intOf]; omega⟩
      · have hK : k = text.length + 1 - s.length := by omega
        have i2 : ¬ ((k : Int) + (s.length : Int) ≤ (text.length : Int)) := by omega
        have HK := Lib.hid hK
        clear hK
        go_wp2_with fail
        go_ret2
        exact ⟨_, rfl, by rw [← HK.out]; exact hown, hB⟩

def findE (text s : List UInt8) : Int := if far text s = true then 3 else if (allL text s).length = 0 then 4 else 0
def findI (text s : List UInt8) : Nat := (allL text s).headD 0

theorem Row.intAt {w : World} {v : Value} {l : List Nat} (h : Row w 1 v l.length (icells l)) {k : Nat} (hk : k < l.length) :
    ∃ g o cap, v = .slice (some ⟨g, o, none⟩) l.length cap ∧ g < w.heap.size ∧ w.cell? ⟨g, o + k, none⟩ = some (.int .i64 (l[k] : Int)) := by
  obtain ⟨_, _, a, cap, rfl, _, h2⟩ := h
  rcases h2 with h0 | ⟨g, o, rfl, hc⟩
  · omega
  · have e := hc k (by omega)
    have e2 : (icells l)[k]? = some (.int .i64 (l[k] : Int)) := by
      unfold icells; rw [List.getElem?_map, List.getElem?_eq_getElem hk]; rfl
    exact ⟨g, o, cap, rfl, World.block_lt_of_cell? w _ (e.trans e2), e.trans e2⟩

set_option maxRecDepth 100000 in
set_option maxHeartbeats 1000000 in
theorem find4 (text s : List UInt8) (w : World) (ht : text.length ≤ maxLen) (hs : s.length ≤ maxLen) :
    Calls Try.prog 13 #[.string (str text), .string (str s)] w fun e w' => e = .returned (.tuple #[.int .i64 (findI text s), .int .i64 (findE text s)]) ∧ Below w.heap.size w w' := by
  have HT := Lib.hid ht
  have HS := Lib.hid hs
  clear ht hs
  go_enter Try.func13, Try.ntmps13
  go_wp2_with fail
  refine (all4 text s _ HT.out HS.out).mono ?_
  rintro e w1 ⟨v, rfl, hown, hb1⟩
  have HB1 := Lib.hid hb1
  have hR := Row.of_owns hown
  clear hb1 hown
  obtain ⟨a, cap, hv⟩ : ∃ a cap, v = .slice a (allL text s).length cap := by obtain ⟨_, _, a, cap, e, _⟩ := hR; exact ⟨a, cap, e⟩
  subst hv
  by_cases h : far text s = true
  · have e1 : allE text s = 3 := if_pos h
    have e2 : findE text s = 3 := if_pos h
    have e3 : findI text s = 0 := by unfold findI allL; rw [if_pos h]; rfl
    rw [e1]
    clear h hR
    go_wp2_with fail
    go_ret2
    exact ⟨by rw [e2, e3]; rfl, HB1.out⟩
  · have e1 : allE text s = 0 := if_neg h
    rw [e1]
    by_cases h0 : (allL text s).length = 0
    · have e2 : findE text s = 4 := by unfold findE; rw [if_neg h, if_pos h0]
      have e3 : findI text s = 0 := by unfold findI; rw [List.eq_nil_of_length_eq_zero h0]; rfl
      rw [h0]
      clear h hR h0
      go_wp2_with fail
      go_ret2
      exact ⟨by rw [e2, e3]; rfl, HB1.out⟩
    · have e2 : findE text s = 0 := by unfold findE; rw [if_neg h, if_neg h0]
      obtain ⟨g, o, cap', hv', hg, hc⟩ := Row.intAt hR (show 0 < (allL text s).length by omega)
      have e3 : (allL text s)[0]'(by omega) = findI text s := by
        unfold findI
        rw [List.headD_eq_head?_getD, List.head?_eq_getElem?, List.getElem?_eq_getElem (by omega)]
        rfl
      rw [e3, Nat.add_zero] at hc
      cases hv'
      have i1 : (0 : Int) < ((allL text s).length : Int) := by omega
      have i2 : ¬ ((allL text s).length : Int) = 0 := by omega
      clear h hR e3 h0
      generalize (allL text s).length = n at *
      go_wp2_with fail
      go_ret2
      exact ⟨by rw [e2]; rfl, HB1.out⟩

set_option maxRecDepth 100000 in
set_option maxHeartbeats 1000000 in
theorem ints4 (va vb : Value) (pa pb : List Nat) (w : World) (ha : Row w 1 va pa.length (icells pa)) (hb : Row w 1 vb pb.length (icells pb)) :
    Calls Try.prog 16 #[va, vb] w fun e w' => e = .returned (.bool (decide (pa = pb))) ∧ Below w.heap.size w w' := by
  obtain ⟨aa, capa, hva⟩ : ∃ a cap, va = .slice a pa.length cap := by obtain ⟨_, _, a, cap, e, _⟩ := ha; exact ⟨a, cap, e⟩
  obtain ⟨ab, capb, hvb⟩ : ∃ a cap, vb = .slice a pb.length cap := by obtain ⟨_, _, a, cap, e, _⟩ := hb; exact ⟨a, cap, e⟩
  subst hva hvb
  have hma := ha.2.1
  have hmb := hb.2.1
  unfold maxLen at hma hmb
  have HA := Lib.hid ha
  have HB := Lib.hid hb
  clear ha hb
  by_cases hl : pa.length = pb.length
  · have hle : pa.length ≤ pb.length := by omega
    have hge : pb.length ≤ pa.length := by omega
    have e2 : ((pa.length : Int) != (pb.length : Int)) = false := by simp [hl]
    clear hl
    go_enter Try.func16, Try.ntmps16
    go_wp2_with fail
    go_loopw [5] (fun iv wr => ∃ k : Nat, k ≤ pa.length ∧ iv = .int .i64 (k : Nat) ∧ pa.take k = pb.take k ∧ Below w.heap.size w wr) (fun iv _ => pa.length - (intOf iv).toNat)
    case atStart => exact ⟨0, by omega, rfl, rfl, Below.refl _ _⟩
    case round =>
      obtain ⟨k, hk, rfl, heq, hB⟩ := hrel
      have HE := Lib.hid heq
      clear heq
      by_cases hlt : k < pa.length
      · have hlt2 : k < pb.length := by omega
        obtain ⟨ga, oa, ca, hva, hga, hca⟩ := Row.intAt HA.out hlt
        obtain ⟨gb, ob, cb, hvb, hgb, hcb⟩ := Row.intAt HB.out hlt2
        cases hva
        cases hvb
        have d1 := (hB.cell (p := ⟨ga, oa + k, none⟩) hga).trans hca
        have d2 := (hB.cell (p := ⟨gb, ob + k, none⟩) hgb).trans hcb
        have i1 : (0 : Int) ≤ (k : Int) := by omega
        have i2 : (k : Int) < (pa.length : Int) := by omega
        have i3 : (k : Int) < (pb.length : Int) := by omega
        have HN := Lib.hid (fun (e : pa[k] = pb[k]) => show pa.take (k + 1) = pb.take (k + 1) by
          rw [List.take_succ_eq_append_getElem hlt, List.take_succ_eq_append_getElem hlt2, HE.out, e])
        have HX := Lib.hid (fun (e : ¬ pa[k] = pb[k]) => show decide (pa = pb) = false by
          rw [decide_eq_false_iff_not]; intro h; subst h; exact e rfl)
        clear hca hcb
        by_cases hxy : pa[k] = pb[k]
        · have hn := HN.out hxy
          have HN' := Lib.hid hn
          have hd : decide ((pa[k] : Int) ≠ (pb[k] : Int)) = false := by simp [hxy]
          have hd2 : decide (pa[k] ≠ pb[k]) = false := by simp [hxy]
          have hd3 : ((pa[k] : Int) != (pb[k] : Int)) = false := by simp [hxy]
          clear hn hxy
          generalize pa[k] = x at *
          generalize pb[k] = y at *
          go_wp2_with fail
          go_quiet (fail)
          go_wp2_with fail
          refine ⟨⟨k + 1, by omega, by go_num, HN'.out, hB.trans ⟨rfl, rfl, rfl, Nat.le_refl _, fun _ _ => rfl⟩⟩, by simp [intOf]; omega⟩
        · have hn := HX.out hxy
          have HN' := Lib.hid hn
          have hd : decide ((pa[k] : Int) ≠ (pb[k] : Int)) = true := by simp; omega
          have hd2 : decide (pa[k] ≠ pb[k]) = true := by simp [hxy]
          have hd3 : ((pa[k] : Int) != (pb[k] : Int)) = true := by rw [bne_iff_ne]; omega
          clear hn
          generalize pa[k] = x at *
          generalize pb[k] = y at *
          go_wp2_with fail
          go_quiet (fail)
          go_wp2_with fail
          go_ret
          exact ⟨by rw [HN'.out]; rfl, hB.trans ⟨rfl, rfl, rfl, Nat.le_refl _, fun _ _ => rfl⟩⟩
      · obtain rfl : pa.length = k := by omega
        have e : pa = pb := by
          have := HE.out
          rwa [List.take_length, List.take_of_length_le hge] at this
        go_wp2_with fail
        go_ret
        exact ⟨by simp [e], hB⟩
  · have hd : decide (pa = pb) = false := by
      rw [decide_eq_false_iff_not]; intro e; exact hl (by rw [e])
    have e2 : ((pa.length : Int) != (pb.length : Int)) = true := by rw [bne_iff_ne]; omega
    clear hl
    go_enter Try.func16, Try.ntmps16
    go_wp2_with fail
    go_ret
    exact ⟨by rw [hd]; rfl, Below.refl _ _⟩

theorem scells_at : ∀ (l : List CSet) (k : Nat) (hk : k < l.length), (scells l)[k * 4]? = some (.int .u64 (word l[k] 0 : Int)) ∧ (scells l)[k * 4 + 1]? = some (.int .u64 (word l[k] 1 : Int)) ∧ (scells l)[k * 4 + 2]? = some (.int .u64 (word l[k] 2 : Int)) ∧ (scells l)[k * 4 + 3]? = some (.int .u64 (word l[k] 3 : Int))
  | s :: l, 0, _ => ⟨rfl, rfl, rfl, rfl⟩
  | s :: l, k + 1, hk => by
    have ih := scells_at l k (by simpa using hk)
    have e : ∀ j, (scells (s :: l))[(k + 1) * 4 + j]? = (scells l)[k * 4 + j]? := by
      intro j
      show ((setC s).toList ++ scells l)[(k + 1) * 4 + j]? = _
      rw [List.getElem?_append_right (by simp [setC]; omega)]
      congr 1
      simp [setC]; omega
    have e0 := e 0
    rw [Nat.add_zero, Nat.add_zero] at e0
    rw [e0, e 1, e 2, e 3]
    exact ih
theorem Row.setAt {w : World} {v : Value} {l : List CSet} (h : Row w 4 v l.length (scells l)) {k : Nat} (hk : k < l.length) :
    ∃ g o cap, v = .slice (some ⟨g, o, none⟩) l.length cap ∧ g < w.heap.size ∧ w.cell? ⟨g, o + k * 4, none⟩ = some (.int .u64 (word l[k] 0 : Int)) ∧ w.cell? ⟨g, o + k * 4 + 1, none⟩ = some (.int .u64 (word l[k] 1 : Int)) ∧ w.cell? ⟨g, o + k * 4 + 2, none⟩ = some (.int .u64 (word l[k] 2 : Int)) ∧ w.cell? ⟨g, o + k * 4 + 3, none⟩ = some (.int .u64 (word l[k] 3 : Int)) := by
  obtain ⟨_, _, a, cap, rfl, _, h2⟩ := h
  rcases h2 with h0 | ⟨g, o, rfl, hc⟩
  · omega
  · obtain ⟨e0, e1, e2, e3⟩ := scells_at l k hk
    have c0 := (hc (k * 4) (by omega)).trans e0
    have c1 := (hc (k * 4 + 1) (by omega)).trans e1
    have c2 := (hc (k * 4 + 2) (by omega)).trans e2
    have c3 := (hc (k * 4 + 3) (by omega)).trans e3
    simp only [← Nat.add_assoc] at c1 c2 c3
    exact ⟨g, o, cap, rfl, World.block_lt_of_cell? w _ c0, c0, c1, c2, c3⟩
theorem ne_set (w : World) (s t : CSet) : (Op.equalIn 10000 36 (.agg #[.int .u64 (word s 0 : Int), .int .u64 (word s 1 : Int), .int .u64 (word s 2 : Int), .int .u64 (word s 3 : Int)]) (.agg #[.int .u64 (word t 0 : Int), .int .u64 (word t 1 : Int), .int .u64 (word t 2 : Int), .int .u64 (word t 3 : Int)])).run Try.prog w = .ok (decide (s = t)) w := eq_set w s t

set_option maxRecDepth 100000 in
set_option maxHeartbeats 1000000 in
theorem sameSets4 (va vb : Value) (pa pb : List CSet) (w : World) (ha : Row w 4 va pa.length (scells pa)) (hb : Row w 4 vb pb.length (scells pb)) :
    Calls Try.prog 42 #[va, vb] w fun e w' => e = .returned (.bool (decide (pa = pb))) ∧ Below w.heap.size w w' := by
  obtain ⟨aa, capa, hva⟩ : ∃ a cap, va = .slice a pa.length cap := by obtain ⟨_, _, a, cap, e, _⟩ := ha; exact ⟨a, cap, e⟩
  obtain ⟨ab, capb, hvb⟩ : ∃ a cap, vb = .slice a pb.length cap := by obtain ⟨_, _, a, cap, e, _⟩ := hb; exact ⟨a, cap, e⟩
  subst hva hvb
  have hma := ha.2.1
  have hmb := hb.2.1
  unfold maxLen at hma hmb
  have HA := Lib.hid ha
  have HB := Lib.hid hb
  clear ha hb
  by_cases hl : pa.length = pb.length
  · have hle : pa.length ≤ pb.length := by omega
    have hge : pb.length ≤ pa.length := by omega
    have e2 : ((pa.length : Int) != (pb.length : Int)) = false := by simp [hl]
    clear hl
    go_enter Try.func42, Try.ntmps42
    go_wp2_with fail
    go_loopw [5] (fun iv wr => ∃ k : Nat, k ≤ pa.length ∧ iv = .int .i64 (k : Nat) ∧ pa.take k = pb.take k ∧ Below w.heap.size w wr) (fun iv _ => pa.length - (intOf iv).toNat)
    case atStart => exact ⟨0, by omega, rfl, rfl, Below.refl _ _⟩
    case round =>
      obtain ⟨k, hk, rfl, heq, hB⟩ := hrel
      have HE := Lib.hid heq
      clear heq
      by_cases hlt : k < pa.length
      · have hlt2 : k < pb.length := by omega
        obtain ⟨ga, oa, ca, hva, hga, hca0, hca1, hca2, hca3⟩ := Row.setAt HA.out hlt
        obtain ⟨gb, ob, cb, hvb, hgb, hcb0, hcb1, hcb2, hcb3⟩ := Row.setAt HB.out hlt2
        cases hva
        cases hvb
        have da0 := (hB.cell (p := ⟨ga, oa + k * 4, none⟩) hga).trans hca0
        have da1 := (hB.cell (p := ⟨ga, oa + k * 4 + 1, none⟩) hga).trans hca1
        have da2 := (hB.cell (p := ⟨ga, oa + k * 4 + 2, none⟩) hga).trans hca2
        have da3 := (hB.cell (p := ⟨ga, oa + k * 4 + 3, none⟩) hga).trans hca3
        have db0 := (hB.cell (p := ⟨gb, ob + k * 4, none⟩) hgb).trans hcb0
        have db1 := (hB.cell (p := ⟨gb, ob + k * 4 + 1, none⟩) hgb).trans hcb1
        have db2 := (hB.cell (p := ⟨gb, ob + k * 4 + 2, none⟩) hgb).trans hcb2
        have db3 := (hB.cell (p := ⟨gb, ob + k * 4 + 3, none⟩) hgb).trans hcb3
        have i1 : (0 : Int) ≤ (k : Int) := by omega
        have i2 : (k : Int) < (pa.length : Int) := by omega
        have i3 : (k : Int) < (pb.length : Int) := by omega
        have HN := Lib.hid (fun (e : pa[k] = pb[k]) => show pa.take (k + 1) = pb.take (k + 1) by
          rw [List.take_succ_eq_append_getElem hlt, List.take_succ_eq_append_getElem hlt2, HE.out, e])
        have HX := Lib.hid (fun (e : ¬ pa[k] = pb[k]) => show decide (pa = pb) = false by
          rw [decide_eq_false_iff_not]; intro h; subst h; exact e rfl)
        clear hca0 hca1 hca2 hca3 hcb0 hcb1 hcb2 hcb3
        have hrun := fun w => ne_set w pa[k] pb[k]
        by_cases hxy : pa[k] = pb[k]
        · have hn := HN.out hxy
          have HN' := Lib.hid hn
          have hd : decide (pa[k] = pb[k]) = true := decide_eq_true hxy
          clear hn hxy
          generalize pa[k] = x at *
          generalize pb[k] = y at *
          go_wp2_with fail
          go_quiet (fail)
          go_wp2_with fail
          refine ⟨⟨k + 1, by omega, by go_num, HN'.out, hB.trans ⟨rfl, rfl, rfl, Nat.le_refl _, fun _ _ => rfl⟩⟩, by simp [intOf]; omega⟩
        · have hn := HX.out hxy
          have HN' := Lib.hid hn
          have hd : decide (pa[k] = pb[k]) = false := decide_eq_false hxy
          clear hn
          generalize pa[k] = x at *
          generalize pb[k] = y at *
          go_wp2_with fail
          go_quiet (fail)
          go_wp2_with fail
          go_ret
          exact ⟨by rw [HN'.out]; rfl, hB.trans ⟨rfl, rfl, rfl, Nat.le_refl _, fun _ _ => rfl⟩⟩
      · obtain rfl : pa.length = k := by omega
        have e : pa = pb := by
          have := HE.out
          rwa [List.take_length, List.take_of_length_le hge] at this
        go_wp2_with fail
        go_ret
        exact ⟨by simp [e], hB⟩
  · have hd : decide (pa = pb) = false := by
      rw [decide_eq_false_iff_not]; intro e; exact hl (by rw [e])
    have e2 : ((pa.length : Int) != (pb.length : Int)) = true := by rw [bne_iff_ne]; omega
    clear hl
    go_enter Try.func42, Try.ntmps42
    go_wp2_with fail
    go_ret
    exact ⟨by rw [hd]; rfl, Below.refl _ _⟩


end Go.Proofs.Ytfgfjapjpiilfaa
