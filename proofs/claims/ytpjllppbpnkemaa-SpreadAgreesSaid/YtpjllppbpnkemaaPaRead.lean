/- A pattern that reads a byte. -/
import Derived.Test.YtpjllppbpnkemaaPaWalk
import Derived.Test.YtpjllppbpnkemaaMg1
namespace Go.Proofs.Ytpjllppbpnkemaa
open Go.RowKit Go.Sort Go.Maps

/-- behind some of the counts of a gap -/
def gapS (b : List UInt8) (p : List El) (s : Nat → Bool) (k i : Nat) (lo hi : Int) (L : List Nat) (j c : Nat) : Bool :=
  if j = i then L.any fun n => decide (n + 1 = c) && decide ((n : Int) < hi)
  else part b p s k (i + 1) j c || ((L.any fun n => decide ((n : Int) < hi) && decide (lo ≤ (n : Int) + 1)) && (decide (c = 0) && decide (j = i + 1)))
theorem any_snoc {α : Type} {f : α → Bool} {l : List α} {x : α} : (l ++ [x]).any f = (l.any f || f x) := by simp
theorem gapS_end {b : List UInt8} {p : List El} {s : Nat → Bool} {k i : Nat} (h : OkP p) (hi : i < p.length) (hg : p[i].gap = true) {L : List Nat} (hL : ∀ c, c ∈ L ↔ part b p s k (i + 1) i c = true) (j c : Nat) :
    gapS b p s k i p[i].low p[i].high L j c = part b p s k i j c := by
  rw [← part_gap h hi hg]
  obtain ⟨_, g1, g2, g3, _⟩ := h.gap hi hg
  unfold gapS
  by_cases e : j = i
  · rw [if_pos e, if_pos e, Bool.eq_iff_iff]
    simp only [List.any_eq_true, Bool.and_eq_true, decide_eq_true_eq]
    constructor
    · rintro ⟨n, hn, rfl, h2⟩
      exact ⟨⟨by omega, by omega⟩, by rw [Nat.add_sub_cancel]; exact (hL n).1 hn⟩
    · rintro ⟨⟨h1, h2⟩, h3⟩
      exact ⟨c - 1, (hL _).2 h3, by omega, by omega⟩
  · rw [if_neg e, if_neg e]
    congr 1
    congr 1
    rw [Bool.eq_iff_iff]
    unfold thru
    rw [List.getElem?_eq_getElem hi]
    simp only [List.any_eq_true, Bool.and_eq_true, decide_eq_true_eq, List.mem_range]
    have hsee : ∀ n, part b p s k (i + 1) i n = sees b p s k i n := fun n => by unfold part; rw [if_pos (by omega)]
    constructor
    · rintro ⟨n, hn, h1, h2⟩
      have h3 := (hL n).1 hn
      rw [hsee, sees_gap h hi hg] at h3
      simp only [Bool.and_eq_true, decide_eq_true_eq] at h3
      exact ⟨n + 1, by omega, ⟨⟨⟨by omega, by omega⟩, by omega⟩, by omega⟩, by rw [show k + 1 - (n + 1) = k - n by omega]; exact h3.2⟩
    · rintro ⟨c, h0, ⟨⟨⟨h1, h2⟩, h3⟩, h4⟩, h5⟩
      refine ⟨c - 1, (hL _).2 ?_, by omega, by omega⟩
      rw [hsee, sees_gap h hi hg]
      simp only [Bool.and_eq_true, decide_eq_true_eq]
      exact ⟨⟨by omega, by omega⟩, by rw [show k - (c - 1) = k + 1 - c by omega]; exact h5⟩
set_option maxRecDepth 100000 in
set_option maxHeartbeats 40000000 in
theorem read_p {w0 w : World} {W : Nat} {pv : Value} {p : List El} {A : Nat} {ms : List Nat} {b : List UInt8} {s : Nat → Bool} {k : Nat} (h : WalkIn w0 w W pv p A ms (part b p s k p.length)) (hok : OkP p) (y : UInt8) (hb : b[k]? = some y) :
    Calls Try.prog 42 #[.pointer (some ⟨W, 0, none⟩), .int .u8 (y.toNat : Int)] w (EnterP w0 w W pv p A ms (part b p s k 0)) := by
  have hs := hok.le
  have HK := Lib.hid hok
  have HBy := Lib.hid hb
  have HW := Lib.hid h
  obtain ⟨c0, c1⟩ := h.cells
  have hps := h.pats
  obtain ⟨a, cap, rfl⟩ := Row.form2 hps
  have hy : y.toNat < 256 := UInt8.toNat_lt y
  have KH := Lib.hid (fun s w => has_p s y.toNat hy w)
  generalize hYe : y.toNat = Y at *
  have HYE := Lib.hid hYe
  clear hYe
  clear h hps hb hok
  go_enter Try.func42, Try.ntmps42
  have w1 : IntKind.i64.wrap ((p.length : Int) - 1) = (p.length : Int) - 1 := IntWalk.i64_in _ (by omega)
  go_wp2_with fail
  go_loopw [4] (fun iv wr => ∃ m : Nat, m ≤ p.length ∧ iv = .int .i64 ((m : Int) - 1) ∧ WalkIn w0 wr W (.slice a p.length cap) p A ms (part b p s k m) ∧ Only ms w wr) (fun iv _ => (intOf iv + 1).toNat)
  case atStart => exact ⟨p.length, by omega, rfl, HW.out, Only.of_below (Below.refl _ _)⟩
  case round =>
    obtain ⟨m, hm, rfl, hWr, hO⟩ := hrel
    have HWr := Lib.hid hWr
    have HO := Lib.hid hO
    obtain ⟨d0, d1⟩ := hWr.cells
    by_cases hm0 : m = 0
    · subst hm0
      have t0 : ¬ (0 : Int) ≤ ((0 : Nat) : Int) - 1 := by omega
      have HF := Lib.hid hWr
      have HON := Lib.hid hO
      clear hWr hO d0 d1 c0 c1
      go_wp2_with fail
      refine bodyPost_end (v := .tuple #[]) (by simp [results, Try.results42, go_sem]) rfl ⟨rfl, HF.out, HON.out⟩
    · obtain ⟨i, rfl⟩ : ∃ i, m = i + 1 := ⟨m - 1, by omega⟩
      rw [show (((i + 1 : Nat) : Int) - 1) = (i : Int) by omega]
      have hi : i < p.length := by omega
      have hps : Pats wr (.slice a p.length cap) p := Row.below hWr.pats hWr.b
      obtain ⟨g, o, hga, hgl, e0, e1, e2, e3, e4, e5, e6⟩ := Pats.at hps hi
      subst hga
      have i0 : (0 : Int) ≤ (i : Int) := by omega
      have i2 : (i : Int) < (p.length : Int) := by omega
      have wi1 : IntKind.i64.wrap ((i : Int) + 1) = (i : Int) + 1 := IntWalk.i64_in _ (by omega)
      have wi2 : IntKind.i64.wrap ((i : Int) - 1) = (i : Int) - 1 := IntWalk.i64_in _ (by omega)
      have hal : (wr.alloc (.cells #[.bool p[i].gap, .int .u64 (word p[i].cls 0 : Int), .int .u64 (word p[i].cls 1 : Int), .int .u64 (word p[i].cls 2 : Int), .int .u64 (word p[i].cls 3 : Int), .int .i64 p[i].low, .int .i64 p[i].high] 64)).heap[wr.heap.size]? = _ := heap_alloc_new _ _
      have hba := (Below.refl wr.heap.size wr).alloc (Nat.le_refl _) (.cells #[.bool p[i].gap, .int .u64 (word p[i].cls 0 : Int), .int .u64 (word p[i].cls 1 : Int), .int .u64 (word p[i].cls 2 : Int), .int .u64 (word p[i].cls 3 : Int), .int .i64 p[i].low, .int .i64 p[i].high] 64)
      have hW1 := hWr.below hba
      have HO1 := Lib.hid (hO.trans (Only.of_below hba))
      cases hg : p[i].gap
      · rw [hg] at e0 hal hba hW1 HO1
        obtain ⟨f0, f1⟩ := hW1.cells
        obtain ⟨bm, hbm, cm, hm⟩ := hW1.map (i := i) (by omega)
        have hlk := hm.look 0 (by omega)
        rw [show part b p s k (i + 1) i 0 = pre b p s i k by unfold part; rw [if_pos (by omega), sees_zero]] at hlk
        have hlk2 : (Instr.lookup 96 (.map (some bm)) (.int .i64 0) false).run Try.prog (wr.alloc (.cells #[.bool false, .int .u64 (word p[i].cls 0 : Int), .int .u64 (word p[i].cls 1 : Int), .int .u64 (word p[i].cls 2 : Int), .int .u64 (word p[i].cls 3 : Int), .int .i64 p[i].low, .int .i64 p[i].high] 64)) = .ok (.bool (pre b p s i k)) (wr.alloc (.cells #[.bool false, .int .u64 (word p[i].cls 0 : Int), .int .u64 (word p[i].cls 1 : Int), .int .u64 (word p[i].cls 2 : Int), .int .u64 (word p[i].cls 3 : Int), .int .i64 p[i].low, .int .i64 p[i].high] 64)) := hlk
        have g0 := cell_in (i := 1) hal rfl
        have g1 := cell_in (i := 2) hal rfl
        have g2 := cell_in (i := 3) hal rfl
        have g3 := cell_in (i := 4) hal rfl
        have HW1 := Lib.hid hW1
        have K1 := Lib.hid (KH.out p[i].cls (wr.alloc (.cells #[.bool false, .int .u64 (word p[i].cls 0 : Int), .int .u64 (word p[i].cls 1 : Int), .int .u64 (word p[i].cls 2 : Int), .int .u64 (word p[i].cls 3 : Int), .int .i64 p[i].low, .int .i64 p[i].high] 64)))
        unfold setV setC at K1
        clear hWr hO hps hW1 hal hba hlk hm
        cases he : pre b p s i k
        · have HE := Lib.hid he
          rw [he] at hlk2
          have hW1 := HW1.out
          obtain ⟨bm2, hbm2, cm2, hm2⟩ := hW1.map (i := i) (by omega)
          obtain rfl : bm2 = bm := by
            obtain ⟨_, e1⟩ := hbm
            obtain ⟨_, e2⟩ := hbm2
            rw [← e1, ← e2]
          obtain ⟨q0, q1⟩ := hW1.cells
          obtain ⟨vd, hdel, hmd, hgd⟩ := hm2.drop 0 (by omega) 0
          have hdel2 : (Builtin.delete_ #[96, 3] 0 #[.map (some bm2), .int .i64 0]).run Try.prog (wr.alloc (.cells #[.bool false, .int .u64 (word p[i].cls 0 : Int), .int .u64 (word p[i].cls 1 : Int), .int .u64 (word p[i].cls 2 : Int), .int .u64 (word p[i].cls 3 : Int), .int .i64 p[i].low, .int .i64 p[i].high] 64)) = .ok (.tuple #[]) vd := hdel
          have hfin := (hW1.turn hbm2 hmd hgd).congr (st' := part b p s k i) (fun j c _ => by
            rw [← part_byte HK.out hi hg HBy.out false (by rw [HE.out]; try rfl) j c]
            skip
            by_cases e : j = i
            · subst e; simp [Bool.and_comm, Bool.or_comm]
            · simp [e])
          have HF := Lib.hid hfin
          have HON := Lib.hid (HO1.out.trans (Only.grown hgd hbm2))
          clear hW1 hm2 hdel hmd hgd hfin he
          go_wp2_with fail
          exact ⟨⟨i, by omega, rfl, HF.out, HON.out⟩, by simp [intOf]⟩
        · have HE := Lib.hid he
          rw [he] at hlk2
          cases hh : hasB p[i].cls Y
          · rw [hh] at K1
            have HY := Lib.hid hh
            clear he hh
            go_wp2_with fail
            refine K1.out.mono ?_
            rintro e w2 ⟨rfl, hb2⟩
            have hW2 := HW1.out.below hb2
            have HO2 := Lib.hid (HO1.out.trans (Only.of_below hb2))
            obtain ⟨bm2, hbm2, cm2, hm2⟩ := hW2.map (i := i) (by omega)
            obtain ⟨q0, q1⟩ := hW2.cells
            obtain ⟨vd, hdel, hmd, hgd⟩ := hm2.drop 0 (by omega) 0
            have hdel2 : (Builtin.delete_ #[96, 3] 0 #[.map (some bm2), .int .i64 0]).run Try.prog w2 = .ok (.tuple #[]) vd := hdel
            have hfin := (hW2.turn hbm2 hmd hgd).congr (st' := part b p s k i) (fun j c _ => by
              rw [← part_byte HK.out hi hg HBy.out false (by rw [HYE.out, HY.out, HE.out]; try rfl) j c]
              skip
              by_cases e : j = i
              · subst e; simp [Bool.and_comm, Bool.or_comm]
              · simp [e])
            have HF := Lib.hid hfin
            have HON := Lib.hid (HO2.out.trans (Only.grown hgd hbm2))
            clear hW2 hm2 hdel hmd hgd hfin hb2
            go_wp2_with fail
            exact ⟨⟨i, by omega, rfl, HF.out, HON.out⟩, by simp [intOf]⟩
          · rw [hh] at K1
            have HY := Lib.hid hh
            clear he hh
            go_wp2_with fail
            refine K1.out.mono ?_
            rintro e w2 ⟨rfl, hb2⟩
            have hW2 := HW1.out.below hb2
            have HO2 := Lib.hid (HO1.out.trans (Only.of_below hb2))
            have K2 := Lib.hid (enter_p hW2 HK.out (i + 1) (by omega))
            rw [show ((i + 1 : Nat) : Int) = (i : Int) + 1 by omega] at K2
            obtain ⟨q0, q1⟩ := hW2.cells
            clear hW2 hb2
            go_wp2_with fail
            refine K2.out.mono ?_
            rintro e w3 ⟨rfl, hW3, hO3⟩
            obtain ⟨bm2, hbm2, cm2, hm2⟩ := hW3.map (i := i) (by omega)
            obtain ⟨q0, q1⟩ := hW3.cells
            obtain ⟨vd, hdel, hmd, hgd⟩ := hm2.drop 0 (by omega) 0
            have hdel2 : (Builtin.delete_ #[96, 3] 0 #[.map (some bm2), .int .i64 0]).run Try.prog w3 = .ok (.tuple #[]) vd := hdel
            have hfin := (hW3.turn hbm2 hmd hgd).congr (st' := part b p s k i) (fun j c _ => by
              rw [← part_byte HK.out hi hg HBy.out true (by rw [HYE.out, HY.out, HE.out]; try rfl) j c]
              unfold enterS
              by_cases e : j = i
              · subst e; simp [Bool.and_comm, Bool.or_comm]
              · simp [e])
            have HF := Lib.hid hfin
            have HON := Lib.hid ((HO2.out.trans hO3).trans (Only.grown hgd hbm2))
            clear hW3 hO3 hm2 hdel hmd hgd hfin
            go_wp2_with fail
            exact ⟨⟨i, by omega, rfl, HF.out, HON.out⟩, by simp [intOf]⟩
      · rw [hg] at e0 hal hba hW1 HO1
        obtain ⟨hn1, hgn⟩ := HK.out.gap_next (by rw [gapAt_some hi]; exact hg)
        have hgg := HK.out.gap hi hg
        have b1 := hgg.2.1
        have b2 := hgg.2.2.1
        have b3 := hgg.2.2.2.1
        clear hgg
        have HG := Lib.hid hg
        have HN1 := Lib.hid hn1
        have HGN := Lib.hid hgn
        obtain ⟨f0, f1⟩ := hW1.cells
        obtain ⟨bm, hbm, cm, hm⟩ := hW1.map (i := i) (by omega)
        have HAL := Lib.hid hal
        have HW1 := Lib.hid hW1
        have hXm : wr.heap.size ∉ ms := fun hm => by
          obtain ⟨j, hj, he⟩ := List.getElem_of_mem hm
          have := (hWr.m j hj).lt
          rw [he] at this
          omega
        have HXM := Lib.hid hXm
        have HBM := Lib.hid hbm
        have HMl := Lib.hid (fun q (hq : q ∈ ms) => show q < wr.heap.size from by
          obtain ⟨j, hj, he⟩ := List.getElem_of_mem hq
          have := (hWr.m j hj).lt
          rw [he] at this
          exact this)
        have HXl := Lib.hid (show wr.heap.size < (wr.alloc (.cells #[.bool true, .int .u64 (word p[i].cls 0 : Int), .int .u64 (word p[i].cls 1 : Int), .int .u64 (word p[i].cls 2 : Int), .int .u64 (word p[i].cls 3 : Int), .int .i64 p[i].low, .int .i64 p[i].high] 64)).heap.size by simp)
        clear hWr hO hps hW1 hal hba hm hXm hbm hgn hn1
        go_wp2_with fail
        refine (keys_c bm _).mono ?_
        rintro e w2 ⟨rfl, rfl⟩
        generalize hw1 : wr.alloc (.cells #[.bool true, .int .u64 (word p[i].cls 0 : Int), .int .u64 (word p[i].cls 1 : Int), .int .u64 (word p[i].cls 2 : Int), .int .u64 (word p[i].cls 3 : Int), .int .i64 p[i].low, .int .i64 p[i].high] 64) = w1' at *
        clear hw1
        have hba2 := (Below.refl w1'.heap.size w1').alloc (Nat.le_refl _) (.cells #[.map (some bm)] 96)
        have hW2 := HW1.out.below hba2
        have hm2 : MapIs (w1'.alloc (.cells #[.map (some bm)] 96)) bm (part b p s k (i + 1) i) := by
          obtain ⟨hj, he⟩ := HBM.out
          have h := hW2.m i hj
          rw [he] at h
          exact h
        have KS := Lib.hid (sorted_c hm2 w1'.heap.size (cell_in (heap_alloc_new _ _) rfl))
        have HW2 := Lib.hid hW2
        have HM2 := Lib.hid hm2
        have HO2 := Lib.hid (HO1.out.trans (Only.of_below hba2))
        have HB2 := Lib.hid hba2
        clear hba2 hW2 hm2 f0 f1 cm
        go_wp2_with fail
        refine KS.out.mono ?_
        rintro e w3 ⟨v, L, rfl, hR, hL, hvb, hb3⟩
        obtain ⟨va, vcap, rfl⟩ := Row.form2 hR
        have hW3 := HW2.out.below hb3
        obtain ⟨f0, f1⟩ := hW3.cells
        obtain ⟨bm2, hbm2, cm2, hm3⟩ := hW3.map (i := i) (by omega)
        obtain ⟨w4, hcl, hm4, hg4⟩ := hm3.clear 0
        have hcl2 : (Builtin.clear_ #[96] 0 #[.map (some bm2)]).run Try.prog w3 = .ok (.tuple #[]) w4 := hcl
        have hW4 := (hW3.turn hbm2 hm4 hg4).congr (st' := gapS b p s k i p[i].low p[i].high (L.take 0)) (fun j c _ => by
          unfold gapS
          by_cases e : j = i
          · simp [e]
          · simp [e])
        have hO4 : Only ms w3 w4 := Only.grown hg4 hbm2
        have hvm : ∀ a m c, Value.slice va L.length vcap = .slice (some a) m c → a.block ∉ ms := fun a m c he hin => by
          have h1 := hvb a m c he
          have h2 := HMl.out _ hin
          have h3 := HXl.out
          have h4 := HB2.out.size
          omega
        have hR4 := hO4.row hR hvm
        have hX4 : w4.heap[wr.heap.size]? = some (.cells #[.bool true, .int .u64 (word p[i].cls 0 : Int), .int .u64 (word p[i].cls 1 : Int), .int .u64 (word p[i].cls 2 : Int), .int .u64 (word p[i].cls 3 : Int), .int .i64 p[i].low, .int .i64 p[i].high] 64) :=
          ((hO4.block _ (Nat.lt_of_lt_of_le HXl.out (Nat.le_trans HB2.out.size hb3.size)) HXM.out).trans ((hb3.block _ (Nat.lt_of_lt_of_le HXl.out HB2.out.size)).trans (HB2.out.block _ HXl.out))).trans HAL.out
        have hX4l : wr.heap.size < w4.heap.size := (Array.getElem?_eq_some_iff.1 hX4).1
        have HW4 := Lib.hid hW4
        have HR4 := Lib.hid hR4
        have HX4 := Lib.hid hX4
        have HX4l := Lib.hid hX4l
        have HL := Lib.hid hL
        have HVM := Lib.hid hvm
        have HO4 := Lib.hid ((HO2.out.trans (Only.of_below hb3)).trans hO4)
        have hLm : L.length ≤ 9223372036854775807 := by have := hR.2.1; unfold maxLen at this; omega
        have HLe := Lib.hid (fun n (hn : n ∈ L) => show n ≤ 16 from HM2.out.le ((hL n).1 hn))
        clear hR hL hvb hb3 hW3 hm3 hcl hm4 hg4 hW4 hO4 hvm hR4 hX4 hX4l
        generalize wr.heap.size = X at *
        go_wp2_with fail
        go_loopw [72] (fun qv wr => ∃ q : Nat, q ≤ L.length ∧ qv = .int .i64 (q : Nat) ∧ WalkIn w0 wr W (.slice (some ⟨g, o, none⟩) p.length cap) p A ms (gapS b p s k i p[i].low p[i].high (L.take q)) ∧ Only ms w4 wr) (fun qv _ => L.length - (intOf qv).toNat)
        case atStart => exact ⟨0, by omega, rfl, HW4.out, Only.of_below (Below.refl _ _)⟩
        case round =>
          obtain ⟨q, hq, rfl, hWq, hOq⟩ := hrel
          have HWq := Lib.hid hWq
          have HOq := Lib.hid hOq
          by_cases hqt : q < L.length
          · have hRq : Nats wr (.slice va L.length vcap) L := hOq.row HR4.out HVM.out
            obtain ⟨g2, o2, cp2, he2, hg2, hc2⟩ := Row.cellAt2 hRq hqt (by omega)
            cases he2
            have dn : wr.cell? ⟨g2, o2 + q, none⟩ = some (.int .i64 (L[q] : Int)) := by
              have := hc2 0 (by omega)
              rw [Nat.mul_one, Nat.add_zero] at this
              rw [this]
              simp [ncells, List.getElem?_eq_getElem hqt]
            have hXq : wr.heap[X]? = _ := (hOq.block _ HX4l.out HXM.out).trans HX4.out
            have xl := cell_in (i := 5) hXq rfl
            have xh := cell_in (i := 6) hXq rfl
            obtain ⟨r0, r1⟩ := hWq.cells
            obtain ⟨bq, hbq, cq, hmq⟩ := hWq.map (i := i) (by omega)
            have hn16 := HLe.out L[q] (List.getElem_mem hqt)
            have htk : L.take (q + 1) = L.take q ++ [L[q]] := List.take_succ_eq_append_getElem hqt
            have HTK := Lib.hid htk
            have j0 : (0 : Int) ≤ (q : Int) := by omega
            have j1 : (q : Int) < (L.length : Int) := by omega
            have wq1 : IntKind.i64.wrap ((q : Int) + 1) = (q : Int) + 1 := IntWalk.i64_in _ (by omega)
            clear hRq hc2 hXq hWq hOq htk
            generalize L[q] = n at *
            have wn1 : IntKind.i64.wrap ((n : Int) + 1) = (n : Int) + 1 := IntWalk.i64_in _ (by omega)
            by_cases hh : (n : Int) < p[i].high
            · obtain ⟨w5, hst, hm5, hg5⟩ := hmq.store (n + 1) (by omega)
              have hst2 : (Instr.mapUpdate 96 (.map (some bq)) (.int .i64 ((n : Int) + 1)) (.bool true)).run Try.prog wr = .ok () w5 := hst
              have hW5 := HWq.out.turn hbq hm5 hg5
              have hO5 : Only ms wr w5 := Only.grown hg5 hbq
              have hX5 : w5.heap[X]? = _ := (hO5.block _ (Nat.lt_of_lt_of_le HX4l.out HOq.out.size) HXM.out).trans ((HOq.out.block _ HX4l.out HXM.out).trans HX4.out)
              have yl := cell_in (i := 5) hX5 rfl
              obtain ⟨s0, s1⟩ := hW5.cells
              by_cases hl : p[i].low ≤ (n : Int) + 1
              · have K5 := Lib.hid (enter_p hW5 HK.out (i + 1) (by omega))
                rw [show ((i + 1 : Nat) : Int) = (i : Int) + 1 by omega] at K5
                have HC := Lib.hid (show ∀ j c, enterS p (fun j c => if j = i then (decide (c = n + 1) || gapS b p s k i p[i].low p[i].high (L.take q) i c) else gapS b p s k i p[i].low p[i].high (L.take q) j c) (i + 1) j c = gapS b p s k i p[i].low p[i].high (L.take (q + 1)) j c from fun j c => by
                  rw [HTK.out]
                  unfold enterS gapS
                  rw [gap0_gap HGN.out]
                  by_cases e : j = i
                  · subst e
                    simp [hh, Bool.or_comm, eq_comm]
                  · simp [e, hh, hl]
                    generalize ((List.take q L).any fun n => decide ((n : Int) < p[i].high) && decide (p[i].low ≤ (n : Int) + 1)) = T
                    cases T <;> cases part b p s k (i + 1) j c <;> simp)
                have HO5 := Lib.hid (HOq.out.trans hO5)
                clear hst hm5 hg5 hW5 hO5 hX5 hmq
                go_wp2_with fail
                refine K5.out.mono ?_
                rintro e w6 ⟨rfl, hW6, hO6⟩
                have HW6 := Lib.hid (hW6.congr (fun j c _ => HC.out j c))
                have HO6 := Lib.hid (HO5.out.trans hO6)
                clear hW6 hO6
                go_wp2_with fail
                exact ⟨⟨q + 1, by omega, by go_num, HW6.out, HO6.out⟩, by simp [intOf]; omega⟩
              · have HC := Lib.hid (hW5.congr (st' := gapS b p s k i p[i].low p[i].high (L.take (q + 1))) (fun j c _ => by
                  rw [HTK.out]
                  unfold gapS
                  by_cases e : j = i
                  · subst e
                    simp [hh, Bool.or_comm, eq_comm]
                  · simp [e, hh, hl]))
                have HO5 := Lib.hid (HOq.out.trans hO5)
                clear hst hm5 hg5 hW5 hO5 hX5 hmq
                go_wp2_with fail
                exact ⟨⟨q + 1, by omega, by go_num, HC.out, HO5.out⟩, by simp [intOf]; omega⟩
            · have HC := Lib.hid (HWq.out.congr (st' := gapS b p s k i p[i].low p[i].high (L.take (q + 1))) (fun j c _ => by
                rw [HTK.out]
                unfold gapS
                by_cases e : j = i
                · subst e
                  simp [hh]
                · simp [e, hh]))
              clear hmq
              go_wp2_with fail
              exact ⟨⟨q + 1, by omega, by go_num, HC.out, HOq.out⟩, by simp [intOf]; omega⟩
          · obtain rfl : L.length = q := by omega
            have j1 : ¬ ((L.length : Int) < (L.length : Int)) := by omega
            have HF := Lib.hid (HWq.out.congr (st' := part b p s k i) (fun j c _ => by
              rw [List.take_of_length_le (Nat.le_refl _)]
              exact gapS_end HK.out hi HG.out HL.out j c))
            have HON := Lib.hid (HO4.out.trans HOq.out)
            clear hWq hOq
            go_wp2_with fail
            exact ⟨⟨i, by omega, rfl, HF.out, HON.out⟩, by simp [intOf]⟩
end Go.Proofs.Ytpjllppbpnkemaa
