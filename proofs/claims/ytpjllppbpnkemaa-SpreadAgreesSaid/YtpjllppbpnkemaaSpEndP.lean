/- Ends of the program. -/
import Derived.Test.YtpjllppbpnkemaaSpMatP
namespace Go.Proofs.Ytpjllppbpnkemaa
open Go.RowKit Go.Sort Go.Shelf

theorem infoIntA : (Try.prog.info? 3).map (fun i => (i.zero, i.size, i.bytes)) = some (some (.int .i64 0), 1, 8) := by kernel_rfl
theorem app_nat {w : World} {base : Nat} {v : Value} {l : List Nat} (hown : w.ownsRow base 3 1 v l.length (ncells l)) (n : Nat) (hl : l.length ≤ 100000) (hbase : base ≤ w.heap.size) :
    ∃ a cap w', (Builtin.append_ #[34, 34] 34 #[v, .slice (some ⟨w.heap.size, 0, none⟩) 1 1]).run Try.prog (w.alloc (.cells #[.int .i64 (n : Int)] 3)) = .ok (.slice a (l ++ [n]).length cap) w' ∧ w'.ownsRow base 3 1 (.slice a (l ++ [n]).length cap) (l ++ [n]).length (ncells (l ++ [n])) ∧ Below base w w' := by
  obtain ⟨j0, hj, hy0, hy1, hy2⟩ := info_parts infoIntA
  have hr := Row.lit w 3 1 1 [.int .i64 (n : Int)] (by simp) (by unfold maxLen; omega)
  have ho := hown.alloc (.cells #[.int .i64 (n : Int)] 3)
  obtain ⟨v', w', h1, h2, h3⟩ := append_row (P := Try.prog) base 34 34 3 Try.underlying34 hj hy0 hy1 hy2 rfl (by decide) ho hr (by simp [Value.oneCell']) (by unfold maxLen; omega) (by omega) (by simp; omega)
  rw [show l.length + 1 = (l ++ [n]).length by simp, show ncells l ++ [Value.int .i64 (n : Int)] = ncells (l ++ [n]) by simp [ncells]] at h2
  obtain ⟨a, cap, rfl⟩ := Row.form2 (Row.of_owns h2)
  exact ⟨a, cap, w', h1, h2, ((Below.refl base w).alloc hbase _).grown h3 (by simp; omega) (fun q e => (ho.lt q e).1)⟩
/-- the ends among the first k places -/
def lendsTo (L : List (List CSet)) (b : List UInt8) (k : Nat) : List Nat := (List.range k).filter fun n => L.any (endM b n)
theorem lendsTo_yes {L : List (List CSet)} {b : List UInt8} {k : Nat} (h : L.any (endM b k) = true) : lendsTo L b (k + 1) = lendsTo L b k ++ [k] := by
  unfold lendsTo
  rw [List.range_succ, List.filter_append]
  simp [h]
theorem lendsTo_no {L : List (List CSet)} {b : List UInt8} {k : Nat} (h : L.any (endM b k) = false) : lendsTo L b (k + 1) = lendsTo L b k := by
  unfold lendsTo
  rw [List.range_succ, List.filter_append]
  simp [h]
theorem lendsTo_len (L : List (List CSet)) (b : List UInt8) (k : Nat) : (lendsTo L b k).length ≤ k := by
  have := List.length_filter_le (fun n => L.any (endM b n)) (List.range k)
  rwa [List.length_range] at this
set_option maxRecDepth 100000 in
set_option maxHeartbeats 8000000 in
theorem endsS_p (Lv : Value) (L : List (List CSet)) (b : List UInt8) (ba : Option Addr) (bc : Nat) (w : World) (hl : Lines w Lv L) (hb : Bytes w (.slice ba b.length bc) b) (hcap : b.length ≤ bc) (hpos : ∀ l ∈ L, 0 < l.length) (hb2 : b.length ≤ 4096) (hL : L.length ≤ 64) :
    Calls Try.prog 15 #[Lv, .slice ba b.length bc] w (EndP w (linesEnds L b) 0) := by
  have HLE := Lib.hid (show linesEnds L b = lendsTo L b (b.length + 1) from rfl)
  obtain ⟨La, Lc, rfl⟩ := hl.form
  have HL := Lib.hid hl
  have HY := Lib.hid hb
  have HPOS := Lib.hid hpos
  have hbw : Below w.heap.size w (w.alloc (.cells #[.slice ba b.length bc] 23)) := (Below.refl _ _).alloc (Nat.le_refl _) _
  have HBW := Lib.hid hbw
  have hs0 : (w.alloc (.cells #[.slice ba b.length bc] 23)).heap.size = w.heap.size + 1 := by simp
  have C3 := Lib.hid (show (w.alloc (.cells #[.slice ba b.length bc] 23)).cell? ⟨w.heap.size, 0, none⟩ = some (.slice ba b.length bc) from cell_in (heap_alloc_new w _) rfl)
  have l1 : ¬ (4096 : Int) < (b.length : Int) := by omega
  have l1d : decide ((4096 : Int) < (b.length : Int)) = false := decide_eq_false l1
  have l2 : ¬ (64 : Int) < (L.length : Int) := by omega
  have wl : IntKind.i64.wrap ((b.length : Int) + 1) = (b.length : Int) + 1 := IntWalk.i64_in _ (by omega)
  clear hl hb hpos hbw
  unfold EndP
  go_enter Try.func15, Try.ntmps15
  obtain ⟨W0, hW0⟩ : ∃ W0, w.alloc (.cells #[.slice ba b.length bc] 23) = W0 := ⟨_, rfl⟩
  have HW0 := Lib.hid hW0
  clear hW0
  go_wp2_with fail
  rw [HW0.out] at HBW C3 hs0 ⊢
  have hsW := HBW.out.size
  have HSW := Lib.hid hsW
  obtain ⟨B3, hB3e⟩ : ∃ B3, B3 = w.heap.size := ⟨_, rfl⟩
  rw [← hB3e] at C3 hs0 ⊢
  have c3 := C3.out
  clear hB3e hsW
  go_loopw [12] (fun iv wr => ∃ i : Nat, i ≤ L.length ∧ iv = .int .i64 (i : Nat) ∧ W0 = wr) (fun iv _ => L.length - (intOf iv).toNat)
  case atStart => exact ⟨0, by omega, rfl, rfl⟩
  case round =>
    obtain ⟨i, hi, rfl, rfl⟩ := hrel
    by_cases hlt : i < L.length
    · have i1 : (0 : Int) ≤ (i : Int) := by omega
      have i2 : (i : Int) < (L.length : Int) := by omega
      have wi1 : IntKind.i64.wrap ((i : Int) + 1) = (i : Int) + 1 := IntWalk.i64_in _ (by omega)
      obtain ⟨g, o, xa, xc, hga, hg, hc, hx⟩ := (HL.out.below HBW.out).at hlt
      subst hga
      have hp := HPOS.out L[i] (List.getElem_mem _)
      have t0 : ((L[i].length : Int) == 0) = false := beq_eq_false_iff_ne.2 (by omega)
      clear hx
      generalize L[i].length = m at *
      go_wp2_with fail
      exact ⟨⟨i + 1, by omega, by go_num, trivial⟩, by simp [intOf]; omega⟩
    · obtain rfl : i = L.length := by omega
      have i2 : ¬ (L.length : Int) < (L.length : Int) := by omega
      go_wp2_with fail
      go_loopw [8, 31] (fun ov nv wr => ∃ (n : Nat) (ow : Value), ow = ov ∧ n ≤ b.length + 1 ∧ nv = .int .i64 (n : Nat) ∧ wr.ownsRow W0.heap.size 3 1 ow (lendsTo L b n).length (ncells (lendsTo L b n)) ∧ Below W0.heap.size W0 wr) (fun _ nv _ => b.length + 1 - (intOf nv).toNat)
      case atStart => exact ⟨0, _, rfl, by omega, rfl, World.ownsRow_nil _ _ _ _, Below.refl _ _⟩
      case round =>
        obtain ⟨n, ow, rfl, hn, rfl, hown, hB⟩ := hrel
        have HB := Lib.hid hB
        have HO := Lib.hid hown
        have HBF := Lib.hid (next HBW.out hB)
        clear hown hB
        by_cases hlt : n < b.length + 1
        · have n1 : (n : Int) < (b.length : Int) + 1 := by omega
          have wn1 : IntKind.i64.wrap ((n : Int) + 1) = (n : Int) + 1 := IntWalk.i64_in _ (by omega)
          have HBA := Lib.hid (HB.out.alloc HB.out.size (.cells #[.int .i64 (n : Int)] 3))
          have HBAF := Lib.hid (next HBW.out HBA.out)
          have C9 := Lib.hid (show (wr.alloc (.cells #[.int .i64 (n : Int)] 3)).cell? ⟨wr.heap.size, 0, none⟩ = some (.int .i64 (n : Int)) from cell_in (heap_alloc_new wr _) rfl)
          have hB3 : B3 < W0.heap.size := by omega
          have K := Lib.hid (contains_p (.slice La L.length Lc) L b n wr.heap.size B3 ba bc (wr.alloc (.cells #[.int .i64 (n : Int)] 3)) (HL.out.below HBAF.out) (Row.below HY.out HBAF.out) hcap (by omega) C9.out ((HBA.out.cell (p := ⟨B3, 0, none⟩) hB3).trans C3.out))
          have HOA := Lib.hid (HO.out.alloc (.cells #[.int .i64 (n : Int)] 3))
          have hG : wr.heap.size < (wr.alloc (.cells #[.int .i64 (n : Int)] 3)).heap.size := by simp
          have HG := Lib.hid hG
          cases hh : L.any (endM b n) with
          | true =>
            have HST := Lib.hid (lendsTo_yes hh)
            rw [hh] at K
            clear hh hG
            go_wp2_with fail
            with_reducible refine K.out.mono ?_
            rintro e w1 ⟨rfl, hb1⟩
            have HB1 := Lib.hid (HBA.out.trans (hb1.mono HBA.out.size))
            have c9 := (hb1.cell (p := ⟨wr.heap.size, 0, none⟩) HG.out).trans C9.out
            have hlen := lendsTo_len L b n
            obtain ⟨aa, ac, w2, hra, hoa, hb2⟩ := app_nat (ownsRow_below HOA.out hb1) n (by omega) HB1.out.size
            rw [← HST.out] at hra hoa
            generalize Value.slice aa _ ac = va at hra hoa
            have HRA := Lib.hid hra
            have HO2 := Lib.hid hoa
            have HB2 := Lib.hid (HB1.out.trans hb2)
            clear hra hoa hb2 hb1 K hlen
            go_wp2_with (at_builtin; refine wpList_append_run rfl rfl rfl rfl HRA.out ?_)
            exact ⟨⟨n + 1, _, rfl, by omega, by go_num, HO2.out, HB2.out⟩, by simp [intOf]; omega⟩
          | false =>
            have HST := Lib.hid (lendsTo_no hh)
            rw [hh] at K
            clear hh hG
            go_wp2_with fail
            with_reducible refine K.out.mono ?_
            rintro e w1 ⟨rfl, hb1⟩
            have HB1 := Lib.hid (HBA.out.trans (hb1.mono HBA.out.size))
            have HO2 := Lib.hid (ownsRow_below HOA.out hb1)
            rw [← HST.out] at HO2
            clear hb1 K
            go_wp2_with fail
            exact ⟨⟨n + 1, _, rfl, by omega, by go_num, HO2.out, HB1.out⟩, by simp [intOf]; omega⟩
        · obtain rfl : n = b.length + 1 := by omega
          have n1 : ¬ ((b.length + 1 : Nat) : Int) < (b.length : Int) + 1 := by omega
          rw [← HLE.out] at HO
          go_wp2_with fail
          go_ret2
          exact ⟨_, rfl, ownsRow_base HO.out HSW.out, HBF.out⟩
end Go.Proofs.Ytpjllppbpnkemaa
