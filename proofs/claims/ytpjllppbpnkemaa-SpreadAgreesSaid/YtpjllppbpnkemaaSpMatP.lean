/- Matches of the program: slices.EqualFunc with its closure. -/
import Derived.Test.YtpjllppbpnkemaaSpAgrV
import Derived.Test.YtpjllppbpnkemaaPaCut
import Derived.Test.YtpjllppbpnkemaaPaEnd
namespace Go.Proofs.Ytpjllppbpnkemaa
open Go.RowKit Go.Sort Go.Shelf

set_option maxRecDepth 100000 in
theorem match1_p (s : CSet) (y : UInt8) (w : World) :
    Calls Try.prog 37 #[setV s, .int .u8 (y.toNat : Int)] w fun e w' => e = .returned (.bool (hasB s y.toNat)) ∧ Below w.heap.size w w' := by
  have hb0 : Below w.heap.size w (w.alloc (.cells (setC s) 61)) := (Below.refl _ _).alloc (Nat.le_refl _) _
  have K := Lib.hid (has_p s y.toNat (UInt8.toNat_lt y) (w.alloc (.cells (setC s) 61)))
  have HB0 := Lib.hid hb0
  clear hb0
  unfold setV setC at *
  go_enter Try.func37, Try.ntmps37
  go_wp2_with fail
  with_reducible refine K.out.mono ?_
  rintro e w1 ⟨rfl, hb1⟩
  have HB1 := Lib.hid (next HB0.out hb1)
  clear hb1
  go_wp2_with fail
  go_ret
  exact ⟨rfl, HB1.out⟩
theorem lineM_drop {l : List CSet} {b : List UInt8} {i : Nat} (h1 : i < l.length) (h2 : i < b.length) : lineM (l.drop i) (b.drop i) = (hasB l[i] b[i].toNat && lineM (l.drop (i + 1)) (b.drop (i + 1))) := by
  rw [List.drop_eq_getElem_cons h1, List.drop_eq_getElem_cons h2]
  rfl
set_option maxRecDepth 100000 in
set_option maxHeartbeats 4000000 in
theorem equalFunc_p (lv bv : Value) (l : List CSet) (b : List UInt8) (w : World) (hl : Line w lv l) (hb : Bytes w bv b) :
    Calls Try.prog 36 #[lv, bv, .func (.func 37) #[] #[]] w fun e w' => e = .returned (.bool (lineM l b)) ∧ Below w.heap.size w w' := by
  have HL := Lib.hid hl
  have HY := Lib.hid hb
  have hmx : l.length ≤ 9223372036854775807 := hl.2.1
  obtain ⟨la, lc, rfl⟩ := hl.form
  obtain ⟨ba, bc, rfl⟩ := Row.form2 hb
  clear hl hb
  by_cases hlen : l.length = b.length
  · have tl : ((l.length : Int) != (b.length : Int)) = false := by rw [hlen]; exact bne_self_eq_false _
    have HLN := Lib.hid hlen
    clear hlen
    go_enter Try.func36, Try.ntmps36
    go_wp2_with fail
    go_loopw [17] (fun iv wr => ∃ i : Nat, i ≤ l.length ∧ iv = .int .i64 (i : Nat) ∧ lineM l b = lineM (l.drop i) (b.drop i) ∧ Below w.heap.size w wr) (fun iv _ => l.length - (intOf iv).toNat)
    case atStart => exact ⟨0, by omega, rfl, rfl, Below.refl _ _⟩
    case round =>
      obtain ⟨i, hi, rfl, he, hB⟩ := hrel
      have HE := Lib.hid he
      have HB := Lib.hid hB
      clear he hB
      by_cases hlt : i < l.length
      · have hlt2 : i < b.length := by have := HLN.out; omega
        have i1 : (0 : Int) ≤ (i : Int) := by omega
        have i2 : (i : Int) < (l.length : Int) := by omega
        have i3 : (i : Int) < (b.length : Int) := by omega
        have wi1 : IntKind.i64.wrap ((i : Int) + 1) = (i : Int) + 1 := IntWalk.i64_in _ (by omega)
        obtain ⟨g, o, hga, hg, c0, c1, c2, c3⟩ := Line.at (HL.out.below HB.out) hlt
        subst hga
        obtain ⟨g2, o2, hgb, hg2, d0⟩ := Bytes.at (Row.below HY.out HB.out) hlt2
        subst hgb
        have HST := Lib.hid (lineM_drop hlt hlt2)
        have HBA := Lib.hid (HB.out.alloc HB.out.size (.cells (scells l[i]) 61))
        have K := match1_p l[i] b[i] (wr.alloc (.cells (scells l[i]) 61))
        unfold setV setC at K
        have K := Lib.hid K
        unfold scells at HBA K
        generalize l[i] = s at *
        generalize b[i] = y at *
        go_wp2_with fail
        with_reducible refine K.out.mono ?_
        rintro e w1 ⟨rfl, hb1⟩
        have HB1 := Lib.hid (HBA.out.trans (hb1.mono HBA.out.size))
        clear hb1 K
        cases hh : hasB s y.toNat with
        | true =>
          have HX := Lib.hid (show lineM l b = lineM (l.drop (i + 1)) (b.drop (i + 1)) by rw [HE.out, HST.out, hh, Bool.true_and])
          go_wp2_with fail
          exact ⟨⟨i + 1, by omega, by go_num, HX.out, HB1.out⟩, by simp [intOf]; omega⟩
        | false =>
          have HX := Lib.hid (show lineM l b = false by rw [HE.out, HST.out, hh, Bool.false_and])
          go_wp2_with fail
          go_ret
          exact ⟨by rw [HX.out]; rfl, HB1.out⟩
      · obtain rfl : i = l.length := by omega
        have i2 : ¬ (l.length : Int) < (l.length : Int) := by omega
        have HX := Lib.hid (show lineM l b = true by
          rw [HE.out, List.drop_length, HLN.out, List.drop_length]; rfl)
        go_wp2_with fail
        go_ret
        exact ⟨by rw [HX.out]; rfl, HB.out⟩
  · have tl : ((l.length : Int) != (b.length : Int)) = true := bne_iff_ne.2 (by omega)
    have HX := Lib.hid (show lineM l b = false by
      cases h : lineM l b with
      | false => rfl
      | true => exact absurd (lineM_len h) hlen)
    clear hlen
    go_enter Try.func36, Try.ntmps36
    go_wp2_with fail
    go_ret
    exact ⟨by rw [HX.out]; rfl, Below.refl _ _⟩
set_option maxRecDepth 100000 in
theorem matchS_p (lv bv : Value) (l : List CSet) (b : List UInt8) (w : World) (hl : Line w lv l) (hb : Bytes w bv b) :
    Calls Try.prog 13 #[lv, bv] w fun e w' => e = .returned (.bool (lineM l b)) ∧ Below w.heap.size w w' := by
  have K := Lib.hid (equalFunc_p lv bv l b w hl hb)
  obtain ⟨la, lc, rfl⟩ := hl.form
  obtain ⟨ba, bc, rfl⟩ := Row.form2 hb
  clear hl hb
  go_enter Try.func13, Try.ntmps13
  go_wp2_with fail
  with_reducible refine K.out.mono ?_
  rintro e w1 ⟨rfl, hb1⟩
  have HB1 := Lib.hid hb1
  clear hb1
  go_wp2_with fail
  go_ret
  exact ⟨rfl, HB1.out⟩
set_option maxRecDepth 100000 in
set_option maxHeartbeats 4000000 in
theorem end1_p (lv : Value) (l : List CSet) (b : List UInt8) (n c9 c3 : Nat) (ba : Option Addr) (bc : Nat) (w : World) (hl : Line w lv l) (hb : Bytes w (.slice ba b.length bc) b) (hcap : b.length ≤ bc) (hn : n ≤ b.length)
    (h9 : w.cell? ⟨c9, 0, none⟩ = some (.int .i64 (n : Int))) (h3 : w.cell? ⟨c3, 0, none⟩ = some (.slice ba b.length bc)) :
    Calls Try.prog 45 #[lv, .pointer (some ⟨c9, 0, none⟩), .pointer (some ⟨c3, 0, none⟩)] w fun e w' => e = .returned (.bool (endM b n l)) ∧ Below w.heap.size w w' := by
  have hmx : b.length ≤ 9223372036854775807 := hb.2.1
  have HL := Lib.hid hl
  obtain ⟨la, lc, rfl⟩ := hl.form
  by_cases hle : l.length ≤ n
  · have q1 : (l.length : Int) ≤ (n : Int) := by omega
    have wl : IntKind.i64.wrap ((n : Int) - (l.length : Int)) = ((n - l.length : Nat) : Int) := by rw [show (n : Int) - (l.length : Int) = ((n - l.length : Nat) : Int) by omega]; exact IntWalk.i64_in _ (by omega)
    obtain ⟨a', cap', hcut, hbc⟩ := bytes_cut hb hcap (show n - l.length ≤ n by omega) hn ((n - l.length : Nat) : Int) (n : Int) rfl rfl
    have hln : ((b.take n).drop (n - l.length)).length = n - (n - l.length) := by rw [List.length_drop, List.length_take, Nat.min_eq_left hn]
    have K := Lib.hid (matchS_p (.slice la l.length lc) (.slice a' (n - (n - l.length)) cap') l ((b.take n).drop (n - l.length)) w hl hbc)
    have HE := Lib.hid (show endM b n l = lineM l ((b.take n).drop (n - l.length)) by unfold endM; rw [decide_eq_true hle, Bool.true_and])
    clear hl hb hln hbc hle
    generalize n - (n - l.length) = m at *
    generalize n - l.length = lo at *
    go_enter Try.func45, Try.ntmps45
    go_wp2_with fail
    with_reducible refine K.out.mono ?_
    rintro e w1 ⟨rfl, hb1⟩
    have HB1 := Lib.hid hb1
    clear hb1
    go_wp2_with fail
    go_ret
    exact ⟨by rw [HE.out]; rfl, HB1.out⟩
  · have q1 : ¬ (l.length : Int) ≤ (n : Int) := by omega
    have HE := Lib.hid (show endM b n l = false by unfold endM; rw [decide_eq_false hle, Bool.false_and])
    clear hl hb hle
    go_enter Try.func45, Try.ntmps45
    go_wp2_with fail
    go_ret
    exact ⟨by rw [HE.out]; rfl, Below.refl _ _⟩
set_option maxRecDepth 100000 in
set_option maxHeartbeats 4000000 in
theorem index_p (Lv : Value) (L : List (List CSet)) (b : List UInt8) (n c9 c3 : Nat) (ba : Option Addr) (bc : Nat) (w : World) (hl : Lines w Lv L) (hb : Bytes w (.slice ba b.length bc) b) (hcap : b.length ≤ bc) (hn : n ≤ b.length)
    (h9 : w.cell? ⟨c9, 0, none⟩ = some (.int .i64 (n : Int))) (h3 : w.cell? ⟨c3, 0, none⟩ = some (.slice ba b.length bc)) :
    Calls Try.prog 67 #[Lv, .func (.func 45) #[] #[.pointer (some ⟨c9, 0, none⟩), .pointer (some ⟨c3, 0, none⟩)]] w fun e w' => (∃ r : Int, e = .returned (.int .i64 r) ∧ decide (0 ≤ r) = L.any (endM b n)) ∧ Below w.heap.size w w' := by
  have HL := Lib.hid hl
  have hmx := hl.max
  obtain ⟨La, Lc, rfl⟩ := hl.form
  have K := Lib.hid (fun (wr : World) (hB : Below w.heap.size w wr) lv l (hx : Line wr lv l) => end1_p lv l b n c9 c3 ba bc wr hx (Row.below hb hB) hcap hn ((hB.cell (block_lt_of_cell h9)).trans h9) ((hB.cell (block_lt_of_cell h3)).trans h3))
  clear hl hb h9 h3
  go_enter Try.func67, Try.ntmps67
  go_wp2_with fail
  go_loopw [8] (fun iv wr => ∃ i : Nat, i ≤ L.length ∧ iv = .int .i64 (i : Nat) ∧ (L.take i).any (endM b n) = false ∧ Below w.heap.size w wr) (fun iv _ => L.length - (intOf iv).toNat)
  case atStart => exact ⟨0, by omega, rfl, rfl, Below.refl _ _⟩
  case round =>
    obtain ⟨i, hi, rfl, he, hB⟩ := hrel
    have HE := Lib.hid he
    have HB := Lib.hid hB
    clear he hB
    by_cases hlt : i < L.length
    · have i1 : (0 : Int) ≤ (i : Int) := by omega
      have i2 : (i : Int) < (L.length : Int) := by omega
      have wi1 : IntKind.i64.wrap ((i : Int) + 1) = (i : Int) + 1 := IntWalk.i64_in _ (by omega)
      obtain ⟨g, o, xa, xc, hga, hg, hc, hx⟩ := (HL.out.below HB.out).at hlt
      subst hga
      have K1 := Lib.hid (K.out wr HB.out _ _ hx)
      have HST := Lib.hid (show (L.take (i + 1)).any (endM b n) = ((L.take i).any (endM b n) || endM b n L[i]) by rw [List.take_succ_eq_append_getElem hlt, List.any_append]; simp)
      have HY := Lib.hid (fun (h : endM b n L[i] = true) => (show L.any (endM b n) = true from List.any_eq_true.2 ⟨L[i], List.getElem_mem _, h⟩))
      clear hx
      generalize L[i] = l at *
      go_wp2_with fail
      with_reducible refine K1.out.mono ?_
      rintro e w1 ⟨rfl, hb1⟩
      have HB1 := Lib.hid (next HB.out hb1)
      clear hb1 K1
      cases hh : endM b n l with
      | true =>
        have HX := Lib.hid (HY.out hh)
        clear hh
        go_wp2_with fail
        go_ret
        exact ⟨⟨_, rfl, by rw [HX.out]; exact decide_eq_true i1⟩, HB1.out⟩
      | false =>
        have HX := Lib.hid (show (L.take (i + 1)).any (endM b n) = false by rw [HST.out, HE.out, hh]; rfl)
        clear hh
        go_wp2_with fail
        exact ⟨⟨i + 1, by omega, by go_num, HX.out, HB1.out⟩, by simp [intOf]; omega⟩
    · obtain rfl : i = L.length := by omega
      have i2 : ¬ (L.length : Int) < (L.length : Int) := by omega
      rw [List.take_length] at HE
      go_wp2_with fail
      go_ret
      exact ⟨⟨_, rfl, by rw [HE.out]; rfl⟩, HB.out⟩
set_option maxRecDepth 100000 in
theorem contains_p (Lv : Value) (L : List (List CSet)) (b : List UInt8) (n c9 c3 : Nat) (ba : Option Addr) (bc : Nat) (w : World) (hl : Lines w Lv L) (hb : Bytes w (.slice ba b.length bc) b) (hcap : b.length ≤ bc) (hn : n ≤ b.length)
    (h9 : w.cell? ⟨c9, 0, none⟩ = some (.int .i64 (n : Int))) (h3 : w.cell? ⟨c3, 0, none⟩ = some (.slice ba b.length bc)) :
    Calls Try.prog 44 #[Lv, .func (.func 45) #[] #[.pointer (some ⟨c9, 0, none⟩), .pointer (some ⟨c3, 0, none⟩)]] w fun e w' => e = .returned (.bool (L.any (endM b n))) ∧ Below w.heap.size w w' := by
  have K := Lib.hid (index_p Lv L b n c9 c3 ba bc w hl hb hcap hn h9 h3)
  obtain ⟨La, Lc, rfl⟩ := hl.form
  clear hl hb h9 h3
  go_enter Try.func44, Try.ntmps44
  go_wp2_with fail
  with_reducible refine K.out.mono ?_
  rintro e w1 ⟨⟨r, rfl, hr⟩, hb1⟩
  have HB1 := Lib.hid hb1
  have HR := Lib.hid hr
  clear hb1 hr
  go_wp2_with fail
  go_ret
  exact ⟨by rw [← HR.out]; rfl, HB1.out⟩
end Go.Proofs.Ytpjllppbpnkemaa
