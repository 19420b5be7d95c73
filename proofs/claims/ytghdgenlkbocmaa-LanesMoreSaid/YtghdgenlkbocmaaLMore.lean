/- LanesMore: the law returns true: with one more byte in the class of a position its bit is set in the row of this byte. No conditions. -/
import Derived.Test.YtghdgenlkbocmaaLArg
import Derived.Test.YtghdgenlkbocmaaLShown
import Derived.Test.YtghdgenlkbocmaaLMoreW
import Derived.Test.YtghdgenlkbocmaaLPlan
import Derived.Test.YtghdgenlkbocmaaLSetB
namespace Go.Proofs.Ytghdgenlkbocmaa.lanesMore
open Go.ChangeShapes Go.WideShapes Go.ChangeAt Go.RowKit

structure MM (w : World) (a0 a1 a2 : Int) (P : Nat) (W : Int) (v : Value) (l : List Ln) (wr : World) : Prop where
  box : wr.heap[w.heap.size]? = some (.cells #[.int .u8 a0, .int .u8 a1, .int .u8 a2] 45 (0, 0))
  plan : PAt wr P (.int .i64 W) v
  lanes : Lanes wr v l
  bel : Below w.heap.size w wr
theorem MM.keep {w wr w' : World} {a0 a1 a2 : Int} {P N : Nat} {W : Int} {v : Value} {l : List Ln} (h : MM w a0 a1 a2 P W v l wr) (hb : Below N wr w') (hN : N = wr.heap.size) : MM w a0 a1 a2 P W v l w' := by
  subst hN
  exact ⟨(hb.block _ (Array.getElem?_eq_some_iff.1 h.box).1).trans h.box, h.plan.below hb h.plan.lt, h.lanes.below hb, h.bel.trans (hb.mono h.bel.size)⟩
theorem MM.cells {w wr : World} {a0 a1 a2 : Int} {P : Nat} {W : Int} {v : Value} {l : List Ln} (h : MM w a0 a1 a2 P W v l wr) :
    wr.cell? ⟨w.heap.size, 0, none⟩ = some (.int .u8 a0) ∧ wr.cell? ⟨w.heap.size, 1, none⟩ = some (.int .u8 a1) ∧ wr.cell? ⟨w.heap.size, 2, none⟩ = some (.int .u8 a2) := by simp [World.cell?, h.box]

theorem rowV_good {PW Pi : Int} {PL : List Ln} {R : List (List (List CSet))} {b : Nat} (h1 : packV R = (PW, PL, Pi, 0)) (h2 : checkV PW PL = (0, 0)) :
    rowV PW PL R b = (PW.toNat, ofI (spotsTo R.flatten.flatten b R.flatten.flatten.length), 0) := by
  unfold rowV
  rw [h2, h1]
  simp
theorem hasB_xor (s t : CSet) (b : Nat) : hasB (s ^^^ t) b = (hasB s b ^^ hasB t b) := by simp [hasB]
theorem setBit_or (s : CSet) (X : Nat) (hX : X < 256) : setBit s X true = s ||| bit X := by
  unfold setBit
  apply set_ext
  intro c hc
  split
  · rename_i h
    rw [hasB_or, hasB_bit X c hX]
    by_cases e : X = c
    · subst e; rw [h]; rfl
    · simp [e]
  · rename_i h
    rw [hasB_or, hasB_xor, hasB_bit X c hX]
    by_cases e : X = c
    · subst e
      cases hh : hasB s X with
      | true => exact absurd hh h
      | false => simp
    · simp [e]
theorem more {PW Pi : Int} {PL : List Ln} {R : List (List (List CSet))} {i k m b : Nat} (hi : i < R.length) (hk : k < R[i].length) (hm : m < R[i][k].length) (hb : b < 256) (h1 : packV (chg R i k m (R[i][k][m] ||| bit b)) = (PW, PL, Pi, 0)) (h2 : checkV PW PL = (0, 0))
    (hN : R.flatten.flatten.length ≤ 256) : rowV PW PL (chg R i k m (R[i][k][m] ||| bit b)) b = (PW.toNat, setBit (ofI (spotsTo R.flatten.flatten b R.flatten.flatten.length)) (nAt R i k R.length 0 + m) true, 0) ∧ nAt R i k R.length 0 + m < R.flatten.flatten.length := by
  have hat := flat_at hi hk hm
  have hpos : (R.take i).flatten.flatten.length + ((R[i].take k).flatten.length + m) < R.flatten.flatten.length := (List.getElem?_eq_some_iff.1 hat).1
  have hget := (List.getElem?_eq_some_iff.1 hat).2
  rw [nAt_end hi, getD_at hi, Nat.add_assoc]
  refine ⟨?_, hpos⟩
  rw [rowV_good h1 h2, chg_flat hi hk hm, setBit_or _ _ (by omega), ← spots_more hpos hN hb, hget]

set_option maxRecDepth 100000 in
set_option maxHeartbeats 16000000 in
theorem walkN (u : Value) (R : List (List (List CSet))) (a0 a1 a2 b : Nat) (w : World) (hu : Rules3 w u R) (h0 : a0 < 256) (h1 : a1 < 256) (h2 : a2 < 256) (hb256 : b < 256) :
    Calls Try.prog 7 #[u, .agg #[.int .u8 (a0 : Int), .int .u8 (a1 : Int), .int .u8 (a2 : Int)], .int .u8 (b : Int)] w fun e w' => e = .returned (.bool true) ∧ Below w.heap.size w w' := by
  have A0 := Lib.hid (fun w h => wide_r u R w h)
  have A1 := Lib.hid (fun w h hn => pack_p u R w h hn)
  have HU := Lib.hid hu
  have hmu := hu.max
  obtain ⟨ua, uc, rfl⟩ := hu.form
  have HPV := Lib.hid (fun h => packV_is (R := R) h)
  have HPF := Lib.hid (fun h => packV_full (R := R) h)
  have HPC := Lib.hid (fun h => pack_check (R := R) h)
  have HSH := Lib.hid (fun i k m s => packV_shape (chg_shape R i k m s))
  generalize hpv : packV R = pv at *
  have HPVE := Lib.hid hpv
  obtain ⟨PW, PL, Pi, Pe⟩ := pv
  have bx0 := heap_alloc_new w (.cells #[.int .u8 (a0 : Int), .int .u8 (a1 : Int), .int .u8 (a2 : Int)] 45)
  have HBX := Lib.hid bx0
  have HB0 := Lib.hid (al w (.cells #[.int .u8 (a0 : Int), .int .u8 (a1 : Int), .int .u8 (a2 : Int)] 45))
  clear hu hpv bx0
  go_enter Try.func7, Try.ntmps7
  go_wp2_with fail
  have K := A0.out _ (HU.out.below HB0.out)
  with_reducible refine K.mono ?_
  clear K
  rintro e w1 ⟨z, rfl, hz, rfl⟩
  cases z with
  | true =>
    go_wp2_with fail
    refine (shown_r _).mono ?_
    rintro e w2 ⟨rfl, hb⟩
    have HB := Lib.hid (next HB0.out hb)
    clear hb
    go_wp2_with fail
    go_ret
    exact ⟨rfl, HB.out⟩
  | false =>
    have HN := Lib.hid (hz rfl)
    clear hz
    go_wp2_with fail
    have K := A1.out _ (HU.out.below HB0.out) HN.out
    with_reducible refine K.mono ?_
    clear K
    rintro e w2 ⟨vp, rfl, hL, hb⟩
    obtain ⟨pa, pc, rfl⟩ := hL.form
    have HM : Hid (MM w a0 a1 a2 w2.heap.size PW (.slice pa PL.length pc) PL (w2.alloc (.cells #[.int .i64 PW, .slice pa PL.length pc] 27))) := Lib.hid
      ⟨((next hb (al _ _)).block _ (by simp)).trans HBX.out, PAt.new _ _ _, hL.below (al _ _), next (next HB0.out hb) (al _ _)⟩
    have hlt2 : w.heap.size < w2.heap.size := by have := hb.size; simp only [World.size_alloc] at this; omega
    clear hL hb
    by_cases hPe : Pe = 0
    · subst hPe
      obtain ⟨hpv, hR16⟩ := HPV.out rfl
      obtain ⟨hfull, hN256, hRpos⟩ := HPF.out rfl
      have HCK := Lib.hid (HPC.out rfl)
      have HF := Lib.hid hfull
      have hWl : PL = lanesG R 0 0 := congrArg (fun x => x.2.1) hpv
      obtain ⟨i, hi⟩ : ∃ i, i = a0 % R.length := ⟨_, rfl⟩
      have hiR : i < R.length := by rw [hi]; exact Nat.mod_lt _ hRpos
      obtain ⟨hLne, hLl⟩ := hfull R[i] (List.getElem_mem hiR)
      have hLpos : 0 < R[i].length := List.length_pos_iff.2 hLne
      obtain ⟨k, hk⟩ : ∃ k, k = a1 % R[i].length := ⟨_, rfl⟩
      have hkL : k < R[i].length := by rw [hk]; exact Nat.mod_lt _ hLpos
      have hlpos : 1 ≤ R[i][k].length := hLl _ (List.getElem_mem hkL)
      obtain ⟨m, hm⟩ : ∃ m, m = a2 % R[i][k].length := ⟨_, rfl⟩
      have hml : m < R[i][k].length := by rw [hm]; exact Nat.mod_lt _ (by omega)
      have e10 : (a0 : Int) % (R.length : Int) = (i : Int) := by rw [hi]; norm_cast
      have e11 : (a1 : Int) % (R[i].length : Int) = (k : Int) := by rw [hk]; norm_cast
      have e12 : (a2 : Int) % (R[i][k].length : Int) = (m : Int) := by rw [hm]; norm_cast
      have t0 : ((R.length : Int) == 0) = false := beq_eq_false_iff_ne.2 (by omega)
      have t1 : ((R[i].length : Int) == 0) = false := beq_eq_false_iff_ne.2 (by omega)
      have t2 : ((R[i][k].length : Int) == 0) = false := beq_eq_false_iff_ne.2 (by omega)
      obtain ⟨g, o, b1, c1, rfl, hg, hc, hL⟩ := HU.out.at hiR
      obtain ⟨g2, o2, b2, c2, rfl, hg2, hc2, hl⟩ := hL.at hkL
      have d0 := (HM.out.bel.cell (p := ⟨g, o + i, none⟩) hg).trans hc
      have d1 := (HM.out.bel.cell (p := ⟨g2, o2 + k, none⟩) hg2).trans hc2
      obtain ⟨x0, x1, x2⟩ := HM.out.cells
      have n0 : (0 : Int) ≤ (i : Int) := by omega
      have n1 : (i : Int) < (R.length : Int) := by omega
      have n2 : (0 : Int) ≤ (k : Int) := by omega
      have n3 : (k : Int) < (R[i].length : Int) := by omega
      have nL := hL.max
      have nl := Row.max hl
      have HI := Lib.hid (And.intro hiR (And.intro hkL hml))
      have m0 : (0 : Int) ≤ (a0 : Int) ∧ (0 : Int) ≤ (a1 : Int) ∧ (0 : Int) ≤ (a2 : Int) := by omega
      obtain ⟨m0, m1, m2⟩ := m0
      clear hc hc2 hL hl hfull hLne hLl hpv hWl hi hk hm hRpos hLpos hlpos
      go_wp2_with fail
      go_quiet (fail)
      go_wp2_with fail
      go_quiet (fail)
      go_wp2_with fail
      rw [e10, e11, e12]
      obtain ⟨hiR, hkL, hml⟩ := HI.out
      obtain ⟨s', hs'⟩ : ∃ s', s' = R[i][k][m] ||| bit b := ⟨_, rfl⟩
      obtain ⟨R', hR'⟩ : ∃ R', R' = chg R i k m s' := ⟨_, rfl⟩
      have HS' := Lib.hid hs'
      have HR' := Lib.hid hR'
      have hRl : R'.length = R.length := by rw [hR', chg_len]
      have HRl := Lib.hid hRl
      have HGE := Lib.hid (fun x (hx : x < R.length) => show R'.getD x [] = if x = i then R[x].set k ((R[x].getD k []).set m s') else R[x] by
        have hx' : x < R'.length := by omega
        rw [getD_at hx']
        have := chg_row (k := k) (m := m) (s := s') hx (by rw [chg_len]; exact hx) (i := i)
        simp only [hR']
        exact this)
      obtain ⟨tc, ht, ht0, ht1, ht2⟩ := info_parts infoCl
      obtain ⟨tj, hj, hj0, hj1, hj2⟩ := info_parts infoLine
      obtain ⟨tk, hk, hk0, hk1, hk2⟩ := info_parts infoLines
      have HZ : Hid (nAt R i k 0 0 = 0) := Lib.hid (nAt_zero R i k)
      clear hs' hR' hRl t0 t1 t2 e10 e11 e12 d0 d1 x0 x1 x2
      go_loopw [13, 14, 15] (fun ov nv xv wr => ∃ (x : Nat) (o : Value) (n : Nat), o = ov ∧ x ≤ R.length ∧ xv = .int .i64 (x : Nat) ∧ nv = .int .i64 (n : Nat) ∧ n = nAt R i k x 0 ∧ TRules wr (w2.heap.size + 1) o (R'.take x) ∧ Below (w2.heap.size + 1) (w2.alloc (.cells #[.int .i64 PW, .slice pa PL.length pc] 27)) wr) (fun _ _ xv _ => R.length - (intOf xv).toNat)
      case atStart => exact ⟨0, _, 0, rfl, by omega, rfl, rfl, HZ.out.symm, TRules.nil _ _, below_drewN (below_drewN (Below.refl _ _) _) _⟩
      case round =>
        obtain ⟨x, ov, n, rfl, hx, rfl, rfl, hn, hT, hB2⟩ := hrel
        have hM := HM.out.keep hB2 (by simp)
        have hsz := hB2.size
        simp only [World.size_alloc] at hsz
        have HB2 := Lib.hid hB2
        clear hB2
        have HT := Lib.hid hT
        have HMx := Lib.hid hM
        have HNx := Lib.hid hn
        have x0 : (0 : Int) ≤ (x : Int) := by omega
        clear hT hn
        by_cases hlt : x < R.length
        · have x1 : (x : Int) < (R.length : Int) := by omega
          obtain ⟨g3, o3, b3, c3, e3, hg3, hc3, hL3⟩ := HU.out.at hlt
          cases e3
          have c3' := (hM.bel.cell (p := ⟨g, o + x, none⟩) hg).trans hc3
          have HL3 := Lib.hid hL3
          have HC3 := Lib.hid hc3
          have nL3 := hL3.max
          obtain ⟨L70, L300⟩ := HN.out.2 x hlt
          have HL300 := Lib.hid L300
          clear hL3 hc3 hM L300
          go_wp2_with fail
          obtain ⟨wo, rfl⟩ : ∃ wo : World, wo = wr := ⟨_, rfl⟩
          go_loopw [14, 16, 17] (fun nv lv yv wr => ∃ (y : Nat) (lo : Value) (n : Nat), lo = lv ∧ y ≤ R[x].length ∧ yv = .int .i64 (y : Nat) ∧ nv = .int .i64 (n : Nat) ∧ n = nAt R i k x y ∧ TLines wr wo.heap.size lo ((R'.getD x []).take y) ∧ MM w a0 a1 a2 w2.heap.size PW (.slice pa PL.length pc) PL wr ∧ Below wo.heap.size wo wr) (fun _ _ yv _ => R[x].length - (intOf yv).toNat)
          case atStart => exact ⟨0, _, n, rfl, by omega, rfl, rfl, HNx.out, TLines.nil _ _, HMx.out, Below.refl _ _⟩
          case round =>
            clear HNx
            obtain ⟨y, lo, n, rfl, hy, rfl, rfl, hn, hT, hM, hB⟩ := hrel
            have HTL := Lib.hid hT
            have HMy := Lib.hid hM
            have HBy := Lib.hid hB
            have HNy := Lib.hid hn
            have y0 : (0 : Int) ≤ (y : Int) := by omega
            have hBs := hB.size
            have c3' := (hM.bel.cell (p := ⟨g, o + x, none⟩) hg).trans HC3.out
            clear hT hn hB
            by_cases hly : y < R[x].length
            · obtain ⟨g4, o4, b4, c4, rfl, hg4, hc4, hl4⟩ := HL3.out.at hly
              have c4' := (hM.bel.cell (p := ⟨g4, o4 + y, none⟩) hg4).trans hc4
              have y1 : (y : Int) < (R[x].length : Int) := by omega
              have lg : g < wr.heap.size := Nat.lt_of_lt_of_le hg hM.bel.size
              have lg4 : g4 < wr.heap.size := Nat.lt_of_lt_of_le hg4 hM.bel.size
              have hl300 := HL300.out y hly
              have o0 : (wr.alloc (.cells #[] 50)).ownsRow wr.heap.size 50 4 (.slice (some ⟨wr.heap.size, 0, none⟩) 0 0) 0 [] := World.ownsRow_lit wr #[] 0 (Nat.le_refl _) (by decide) rfl
              have alr := al wr (.cells #[] 50)
              obtain ⟨va, wa, hra, hoa, hga⟩ := append_row (P := Try.prog) wr.heap.size 47 47 50 Try.underlying47 ht ht0 ht1 ht2 rfl (by decide) o0 (Row.below (Row.below hl4 hM.bel) alr) (ccells_one _) (by unfold maxLen; omega) (by omega) (by simp)
              rw [Nat.zero_add, List.nil_append] at hoa
              have ala : Below wr.heap.size wr wa := alr.grown hga (by simp) (fun k e => by simp [Value.ownBlock] at e; omega)
              have HRA := Lib.hid hra
              have HLA := Lib.hid (show TLine wa wr.heap.size va R[x][y] from hoa)
              have HBA := Lib.hid ala
              have hlpos : 1 ≤ R[x][y].length := (HF.out R[x] (List.getElem_mem hlt)).2 _ (List.getElem_mem hly)
              have HRg := Lib.hid (HGE.out x hlt)
              have hnb : nAt R i k x y ≤ 256 := Nat.le_trans (nAt_le hlt hiR) hN256
              have hn256 : n ≤ 256 := by have := HNy.out; omega
              have HNA := Lib.hid (fun h => nAt_add (i := i) (k := k) hlt hly h)
              have HNS := Lib.hid (fun h => nAt_stay (R := R) (i := i) (k := k) (x := x) (y := y) h)
              have HC4 := Lib.hid hc4
              clear o0 alr hga hra hoa ala hl4 hc4 hM hnb
              by_cases hxy : x = i ∧ y = k
              · obtain rfl : i = x := hxy.1.symm
                obtain rfl : k = y := hxy.2.symm
                have hml := HI.out.2.2
                have hTK : (R'.getD i []).take (k + 1) = (R'.getD i []).take k ++ [R[i][k].set m s'] := by
                  have hly' : k < (R'.getD i []).length := by rw [HRg.out, if_pos rfl, List.length_set]; exact hly
                  rw [List.take_succ_eq_append_getElem hly']
                  congr 2
                  simp only [HRg.out, if_pos]
                  rw [chg_line hly, if_pos rfl]
                have HTK := Lib.hid hTK
                obtain ⟨gl, cl, rfl, hgl, hgl2, ⟨p0, p1, p2, p3⟩, _, _⟩ := HLA.out.put hml
                have HC := Lib.hid (show ¬ (i < i ∨ (i = i ∧ k < k)) by omega)
                have hlen : ((R'.getD i []).take k).length = k := by
                  rw [List.length_take, HRg.out, if_pos rfl, List.length_set]; omega
                have hlen2 : ((R'.getD i []).take k).length ≤ 70 := by omega
                have hwa := HBA.out.size
                have m0' : (0 : Int) ≤ (m : Int) := by omega
                have m1' : (m : Int) < (R[i][k].length : Int) := by omega
                clear hTK hlen hxy
                have tok1 : True := trivial
                go_wp2_with (first | (at_builtin; have _t := tok1; refine wpList_append_run rfl rfl rfl rfl HRA.out ?_; clear tok1 _t))
                refine (add_r R[i][k][m] b hb256 _).mono ?_
                rintro e wb ⟨rfl, hbb⟩
                have hbz := hbb.size
                obtain ⟨gb, cb, eb, _, hgb2, ⟨q0, q1, q2, q3⟩, ⟨r0, r1, r2, r3⟩, hpt⟩ := (HLA.out.below hbb).put hml
                cases eb
                have HBB := Lib.hid (HBA.out.trans (hbb.mono hwa))
                have hpt2 := hpt s'
                rw [HS'.out] at hpt2
                have HPT := Lib.hid hpt2
                obtain ⟨hs, hh1, hh2⟩ := HTL.out.below (below_put4 HBB.out hgl (m * 4) (R[i][k][m] ||| bit b))
                have HH1 := Lib.hid hh1
                have HH2 := Lib.hid hh2
                have HB4 := Lib.hid (below_put4 HBB.out hgl (m * 4) (R[i][k][m] ||| bit b))
                clear hpt hpt2 hh1 hh2 hbb p0 p1 p2 p3
                have hwz : (put4 wb gl (m * 4) (R[i][k][m] ||| bit b)).heap.size = wb.heap.size := by simp [put4]
                have hcn := cells_new (put4 wb gl (m * 4) (R[i][k][m] ||| bit b)) [.slice (some ⟨gl, 0, none⟩) R[i][k].length cl] 47
                rw [hwz] at hcn
                have HCN := Lib.hid hcn
                have HH1A := Lib.hid (HH1.out.alloc (.cells #[.slice (some ⟨gl, 0, none⟩) R[i][k].length cl] 47))
                clear hwz hcn
                unfold setV setC
                go_wp2_with (at_builtin; refine wpList_append_own _ rfl _ _ 46 rfl wo.heap.size 47 tj _ 1 24 Try.underlying46 hj hj0 hj1 hj2 rfl (by decide) _ _ _ rfl HH1A.out ⟨wb.heap.size, 0, none⟩ 1 1 [.slice (some ⟨gl, 0, none⟩) R[i][k].length cl] rfl rfl HCN.out (by simp [Value.oneCell']) (by unfold maxLen; omega) (by omega) (by simp; omega) ?_; intro v9 w9 hown9 hgrow9 _; have HO9 := Lib.hid hown9; have HG9 := Lib.hid hgrow9; clear hown9 hgrow9)
                have hwz : (put4 wb gl (m * 4) (R[i][k][m] ||| bit b)).heap.size = wb.heap.size := by simp [put4]
                have HP := TLines.push (HH1.out.alloc (.cells #[.slice (some ⟨gl, 0, none⟩) R[i][k].length cl] 47)) (fun j hj => by obtain ⟨u, e, hu⟩ := HH2.out j hj; exact ⟨u, e, hu.below (al _ _)⟩) (((HPT.out.below (al _ _))).mono hBs) HO9.out HG9.out
                have hb9 : Below wo.heap.size wo w9 := HBy.out.trans (((HB4.out.mono hBs).alloc (by omega) _).grown HG9.out (by simp; omega) (fun q e => (HH1.out.lt q e).1))
                exact ⟨⟨k + 1, _, n, rfl, by omega, by go_num, by go_num, by rw [HNS.out HC.out, ← HNy.out], by rw [HTK.out, HS'.out]; exact HP, HMx.out.keep hb9 rfl, hb9⟩, by simp [intOf]; omega⟩
              · have hTK : (R'.getD x []).take (y + 1) = (R'.getD x []).take y ++ [R[x][y]] := by
                  have hly' : y < (R'.getD x []).length := by
                    rw [HRg.out]
                    split
                    · rw [List.length_set]; exact hly
                    · exact hly
                  rw [List.take_succ_eq_append_getElem hly']
                  congr 2
                  simp only [HRg.out]
                  split
                  · rename_i e
                    rw [chg_line hly, if_neg (fun h => hxy ⟨e, h⟩)]
                  · rfl
                have HTK := Lib.hid hTK
                obtain ⟨gl, cl, rfl, hgl, hgl2, _, _, _⟩ := HLA.out.put (m := 0) (by omega)
                obtain ⟨hs, hh1, hh2⟩ := HTL.out.below HBA.out
                have HH1 := Lib.hid hh1
                have HH2 := Lib.hid hh2
                have hlen : ((R'.getD x []).take y).length = y := by
                  rw [List.length_take, HRg.out]
                  split
                  · rw [List.length_set]; omega
                  · omega
                have hlen2 : ((R'.getD x []).take y).length ≤ 70 := by omega
                have hwa := HBA.out.size
                clear hh1 hh2 hlen hTK
                rcases (show x < i ∨ (x = i ∧ y < k) ∨ (x = i ∧ k < y) ∨ i < x by omega) with h | ⟨h, h'⟩ | ⟨h, h'⟩ | h
                · have f1 : ((x : Int) == (i : Int)) = false := beq_eq_false_iff_ne.2 (by omega)
                  have f1n : (x == i) = false := beq_eq_false_iff_ne.2 (by omega)
                  have f1p : ¬ x = i := by omega
                  have f2 : (x : Int) < (i : Int) := by omega
                  have f2n : x < i := by omega
                  have HC := Lib.hid (show x < i ∨ (x = i ∧ y < k) from .inl h)
                  clear h hxy
                  have tok1 : True := trivial
                  go_wp2_with (first | (at_builtin; have _t := tok1; refine wpList_append_run rfl rfl rfl rfl HRA.out ?_; clear tok1 _t) | (at_builtin; refine wpList_append_own _ rfl _ _ 46 rfl wo.heap.size 47 tj _ 1 24 Try.underlying46 hj hj0 hj1 hj2 rfl (by decide) _ _ _ rfl (HH1.out.alloc _) ⟨wa.heap.size, 0, none⟩ 1 1 [.slice (some ⟨gl, 0, none⟩) R[x][y].length cl] rfl rfl (cells_new _ _ _) (by simp [Value.oneCell']) (by unfold maxLen; omega) (by omega) (by simp; omega) ?_; intro v9 w9 hown9 hgrow9 _; have HO9 := Lib.hid hown9; have HG9 := Lib.hid hgrow9; clear hown9 hgrow9))
                  have HP := TLines.push (HH1.out.alloc (.cells #[.slice (some ⟨gl, 0, none⟩) R[x][y].length cl] 47)) (fun j hj => by obtain ⟨u, e, hu⟩ := HH2.out j hj; exact ⟨u, e, hu.below (al _ _)⟩) ((HLA.out.below (al _ _)).mono hBs) HO9.out HG9.out
                  have hb9 : Below wo.heap.size wo w9 := HBy.out.trans (((HBA.out.mono hBs).alloc (by omega) _).grown HG9.out (by simp; omega) (fun q e => (HH1.out.lt q e).1))
                  exact ⟨⟨y + 1, _, n + R[x][y].length, rfl, by omega, by go_num, by go_num, by rw [HNA.out HC.out, ← HNy.out], by rw [HTK.out]; exact HP, HMx.out.keep hb9 rfl, hb9⟩, by simp [intOf]; omega⟩
                · have f1 : ((x : Int) == (i : Int)) = true := beq_iff_eq.2 (by omega)
                  have f1n : (x == i) = true := beq_iff_eq.2 (by omega)
                  have f2n : ¬ x < i := by omega
                  have f2 : ¬ (x : Int) < (i : Int) := by omega
                  have f3 : ((y : Int) == (k : Int)) = false := beq_eq_false_iff_ne.2 (by omega)
                  have f3n : (y == k) = false := beq_eq_false_iff_ne.2 (by omega)
                  have f3p : ¬ y = k := by omega
                  have f4 : (y : Int) < (k : Int) := by omega
                  have f4n : y < k := by omega
                  have HC := Lib.hid (show x < i ∨ (x = i ∧ y < k) from .inr ⟨h, h'⟩)
                  clear h h' hxy
                  have tok1 : True := trivial
                  go_wp2_with (first | (at_builtin; have _t := tok1; refine wpList_append_run rfl rfl rfl rfl HRA.out ?_; clear tok1 _t) | (at_builtin; refine wpList_append_own _ rfl _ _ 46 rfl wo.heap.size 47 tj _ 1 24 Try.underlying46 hj hj0 hj1 hj2 rfl (by decide) _ _ _ rfl (HH1.out.alloc _) ⟨wa.heap.size, 0, none⟩ 1 1 [.slice (some ⟨gl, 0, none⟩) R[x][y].length cl] rfl rfl (cells_new _ _ _) (by simp [Value.oneCell']) (by unfold maxLen; omega) (by omega) (by simp; omega) ?_; intro v9 w9 hown9 hgrow9 _; have HO9 := Lib.hid hown9; have HG9 := Lib.hid hgrow9; clear hown9 hgrow9))
                  have HP := TLines.push (HH1.out.alloc (.cells #[.slice (some ⟨gl, 0, none⟩) R[x][y].length cl] 47)) (fun j hj => by obtain ⟨u, e, hu⟩ := HH2.out j hj; exact ⟨u, e, hu.below (al _ _)⟩) ((HLA.out.below (al _ _)).mono hBs) HO9.out HG9.out
                  have hb9 : Below wo.heap.size wo w9 := HBy.out.trans (((HBA.out.mono hBs).alloc (by omega) _).grown HG9.out (by simp; omega) (fun q e => (HH1.out.lt q e).1))
                  exact ⟨⟨y + 1, _, n + R[x][y].length, rfl, by omega, by go_num, by go_num, by rw [HNA.out HC.out, ← HNy.out], by rw [HTK.out]; exact HP, HMx.out.keep hb9 rfl, hb9⟩, by simp [intOf]; omega⟩
                · have f1 : ((x : Int) == (i : Int)) = true := beq_iff_eq.2 (by omega)
                  have f1n : (x == i) = true := beq_iff_eq.2 (by omega)
                  have f2n : ¬ x < i := by omega
                  have f2 : ¬ (x : Int) < (i : Int) := by omega
                  have f3 : ((y : Int) == (k : Int)) = false := beq_eq_false_iff_ne.2 (by omega)
                  have f3n : (y == k) = false := beq_eq_false_iff_ne.2 (by omega)
                  have f3p : ¬ y = k := by omega
                  have f4 : ¬ (y : Int) < (k : Int) := by omega
                  have f4n : ¬ y < k := by omega
                  have HC := Lib.hid (show ¬ (x < i ∨ (x = i ∧ y < k)) by omega)
                  clear h h' hxy
                  have tok1 : True := trivial
                  go_wp2_with (first | (at_builtin; have _t := tok1; refine wpList_append_run rfl rfl rfl rfl HRA.out ?_; clear tok1 _t) | (at_builtin; refine wpList_append_own _ rfl _ _ 46 rfl wo.heap.size 47 tj _ 1 24 Try.underlying46 hj hj0 hj1 hj2 rfl (by decide) _ _ _ rfl (HH1.out.alloc _) ⟨wa.heap.size, 0, none⟩ 1 1 [.slice (some ⟨gl, 0, none⟩) R[x][y].length cl] rfl rfl (cells_new _ _ _) (by simp [Value.oneCell']) (by unfold maxLen; omega) (by omega) (by simp; omega) ?_; intro v9 w9 hown9 hgrow9 _; have HO9 := Lib.hid hown9; have HG9 := Lib.hid hgrow9; clear hown9 hgrow9))
                  have HP := TLines.push (HH1.out.alloc (.cells #[.slice (some ⟨gl, 0, none⟩) R[x][y].length cl] 47)) (fun j hj => by obtain ⟨u, e, hu⟩ := HH2.out j hj; exact ⟨u, e, hu.below (al _ _)⟩) ((HLA.out.below (al _ _)).mono hBs) HO9.out HG9.out
                  have hb9 : Below wo.heap.size wo w9 := HBy.out.trans (((HBA.out.mono hBs).alloc (by omega) _).grown HG9.out (by simp; omega) (fun q e => (HH1.out.lt q e).1))
                  exact ⟨⟨y + 1, _, n, rfl, by omega, by go_num, by go_num, by rw [HNS.out HC.out, ← HNy.out], by rw [HTK.out]; exact HP, HMx.out.keep hb9 rfl, hb9⟩, by simp [intOf]; omega⟩
                · have f1 : ((x : Int) == (i : Int)) = false := beq_eq_false_iff_ne.2 (by omega)
                  have f1n : (x == i) = false := beq_eq_false_iff_ne.2 (by omega)
                  have f1p : ¬ x = i := by omega
                  have f2 : ¬ (x : Int) < (i : Int) := by omega
                  have f2n : ¬ x < i := by omega
                  have HC := Lib.hid (show ¬ (x < i ∨ (x = i ∧ y < k)) by omega)
                  clear h hxy
                  have tok1 : True := trivial
                  go_wp2_with (first | (at_builtin; have _t := tok1; refine wpList_append_run rfl rfl rfl rfl HRA.out ?_; clear tok1 _t) | (at_builtin; refine wpList_append_own _ rfl _ _ 46 rfl wo.heap.size 47 tj _ 1 24 Try.underlying46 hj hj0 hj1 hj2 rfl (by decide) _ _ _ rfl (HH1.out.alloc _) ⟨wa.heap.size, 0, none⟩ 1 1 [.slice (some ⟨gl, 0, none⟩) R[x][y].length cl] rfl rfl (cells_new _ _ _) (by simp [Value.oneCell']) (by unfold maxLen; omega) (by omega) (by simp; omega) ?_; intro v9 w9 hown9 hgrow9 _; have HO9 := Lib.hid hown9; have HG9 := Lib.hid hgrow9; clear hown9 hgrow9))
                  have HP := TLines.push (HH1.out.alloc (.cells #[.slice (some ⟨gl, 0, none⟩) R[x][y].length cl] 47)) (fun j hj => by obtain ⟨u, e, hu⟩ := HH2.out j hj; exact ⟨u, e, hu.below (al _ _)⟩) ((HLA.out.below (al _ _)).mono hBs) HO9.out HG9.out
                  have hb9 : Below wo.heap.size wo w9 := HBy.out.trans (((HBA.out.mono hBs).alloc (by omega) _).grown HG9.out (by simp; omega) (fun q e => (HH1.out.lt q e).1))
                  exact ⟨⟨y + 1, _, n, rfl, by omega, by go_num, by go_num, by rw [HNS.out HC.out, ← HNy.out], by rw [HTK.out]; exact HP, HMx.out.keep hb9 rfl, hb9⟩, by simp [intOf]; omega⟩
            · have y1 : ¬ (y : Int) < (R[x].length : Int) := by omega
              obtain rfl : y = R[x].length := by omega
              have hfull' : (R'.getD x []).take R[x].length = R'.getD x [] := by
                apply List.take_of_length_le
                rw [HGE.out x hlt]
                split
                · rw [List.length_set]; omega
                · omega
              have hTK : R'.take (x + 1) = R'.take x ++ [R'.getD x []] := by
                have hx' : x < R'.length := by have := HRl.out; omega
                rw [List.take_succ_eq_append_getElem hx', getD_at hx']
              have HTK := Lib.hid hTK
              have hT2 := HTL.out
              rw [hfull'] at hT2
              have HTL2 := Lib.hid hT2
              obtain ⟨la, lc, rfl⟩ := hT2.lines.form
              obtain ⟨hs, hh1, hh2⟩ := HT.out.below HBy.out
              have HH1 := Lib.hid hh1
              have HH2 := Lib.hid hh2
              have hlen : (R'.take x).length = x := by rw [List.length_take, HRl.out]; omega
              have HLEN := Lib.hid hlen
              have hxx : (R'.take x).length ≤ 16 := by omega
              have HNx2 := Lib.hid (nAt_next (k := k) hlt hiR hkL)
              have HNend := HNy
              clear hfull' hTK hT2 hh1 hh2 hlen hM
              go_wp2_with (at_builtin; refine wpList_append_own _ rfl _ _ 22 rfl (w2.heap.size + 1) 46 tk _ 1 24 Try.underlying22 hk hk0 hk1 hk2 rfl (by decide) _ _ _ rfl (HH1.out.alloc _) ⟨wr.heap.size, 0, none⟩ 1 1 [.slice la (R'.getD x []).length lc] rfl rfl (cells_new _ _ _) (by simp [Value.oneCell']) (by unfold maxLen; omega) (by omega) (by simp; omega) ?_; intro v9 w9 hown9 hgrow9 _; have HO9 := Lib.hid hown9; have HG9 := Lib.hid hgrow9; clear hown9 hgrow9)
              have HP := TRules.push (HH1.out.alloc (.cells #[.slice la (R'.getD x []).length lc] 46)) (fun j hj => by obtain ⟨u, e, hu⟩ := HH2.out j hj; exact ⟨u, e, hu.below (al _ _)⟩) ((HTL2.out.below (al _ _)).mono (by omega)) HO9.out HG9.out
              have hb9 : Below (w2.heap.size + 1) wo w9 := (((HBy.out.mono (by omega)).alloc (by omega) _).grown HG9.out (by simp; omega) (fun q e => (HH1.out.lt q e).1))
              exact ⟨⟨x + 1, _, n, rfl, by omega, by go_num, rfl, by rw [HNx2.out, ← HNend.out], by rw [HTK.out]; exact HP, HB2.out.trans hb9⟩, by simp [intOf]; omega⟩
        · have x1 : ¬ (x : Int) < (R.length : Int) := by omega
          obtain rfl : x = R.length := by omega
          have hT2 := HT.out
          rw [List.take_of_length_le (by have := HRl.out; omega), HR'.out, HS'.out] at hT2
          have HTR := Lib.hid hT2
          obtain ⟨ta, tc2, rfl⟩ := hT2.rules.form
          obtain ⟨hmr, hmp⟩ := more (b := b) hiR hkL hml hb256 (HSH.out i k m _) HCK.out hN256
          have hr1 := rowV_good (b := b) HPVE.out HCK.out
          have HMR := Lib.hid hmr
          have HR1 := Lib.hid hr1
          have hpw : PW = wordsV (R.flatten.flatten.length : Int) := congrArg (fun x => x.1) (HPV.out trivial).1
          obtain ⟨v1, v2, v3⟩ := wordsV_bd (n := (R.flatten.flatten.length : Int)) (by omega) (by omega)
          rw [← hpw] at v1 v2 v3
          have hn256 : n + m < 64 * PW.toNat := by rw [HNx.out]; omega
          have HNN := Lib.hid (narrow_shape (chg_shape R i k m (R[i][k][m] ||| bit b)).symm HN.out)
          obtain ⟨ca, cb⟩ := hM.plan.cells
          have hn2 : n ≤ 256 := by rw [HNx.out]; omega
          have hm2 : m ≤ 256 := by omega
          have HK1 := Lib.hid (show 1 ≤ PW.toNat ∧ PW.toNat ≤ 4 by omega)
          have HNM := Lib.hid hn256
          have HNx3 := Lib.hid (show nAt R i k R.length 0 = n from HNx.out.symm)
          clear hT2 hmr hmp hr1 hpw v1 v2 v3 HNx
          go_wp2_with fail
          have K := row_p PW _ _ _ R b _ HMx.out.lanes (HU.out.below HMx.out.bel) HN.out hb256
          rw [HR1.out] at K
          with_reducible refine K.mono ?_
          clear K
          rintro e w4 ⟨x1, rfl, hU, hb⟩
          have Hx1 := Lib.hid hU
          have HM4 := Lib.hid (HMx.out.keep hb rfl)
          have HT4 := Lib.hid (HTR.out.below hb)
          clear hU hb ca cb hM
          obtain ⟨ca, cb⟩ := HM4.out.plan.cells
          go_wp2_with fail
          have K := row_p PW _ _ _ (chg R i k m (R[i][k][m] ||| bit b)) b _ HM4.out.lanes HT4.out.rules HNN.out hb256
          rw [HMR.out, HNx3.out] at K
          with_reducible refine K.mono ?_
          clear K
          rintro e w5 ⟨x2, rfl, hU, hb⟩
          have Hx2 := Lib.hid hU
          replace Hx1 := Lib.hid (Hx1.out.below hb)
          have HB5 := Lib.hid (next HM4.out.bel hb)
          clear hU hb ca cb
          go_wp2_with fail
          rw [show ((n : Int) + (m : Int)) = ((n + m : Nat) : Int) by omega]
          have K := setB_p PW.toNat _ _ (n + m) true _ Hx1.out HNM.out HK1.out.1 HK1.out.2
          with_reducible refine K.mono ?_
          clear K
          rintro e w6 ⟨x3, rfl, hU, hb⟩
          have Hx3 := Lib.hid hU
          replace Hx2 := Lib.hid (Hx2.out.below hb)
          replace HB5 := Lib.hid (next HB5.out hb)
          clear hU hb
          go_wp2_with fail
          refine (sameRow_r _ _ _ _ _ Hx2.out Hx3.out).mono ?_
          rintro e w7 ⟨rfl, hb⟩
          replace HB5 := Lib.hid (next HB5.out hb)
          clear hb
          go_wp2_with fail
          refine (shown_r _).mono ?_
          rintro e w8 ⟨rfl, hb⟩
          replace HB5 := Lib.hid (next HB5.out hb)
          clear hb
          go_wp2_with fail
          go_ret
          exact ⟨rfl, HB5.out⟩
    · have e1 : (Pe != 0) = true := bne_iff_ne.2 hPe
      clear hPe
      go_wp2_with fail
      refine (shown_r _).mono ?_
      rintro e w3 ⟨rfl, hb⟩
      have HB := Lib.hid (next HM.out.bel hb)
      clear hb
      go_wp2_with fail
      go_ret
      exact ⟨rfl, HB.out⟩

theorem cells3 {cs : Array Value} {a b c : TypeId} (h : cs.size = [a, b, c].length) : ∃ x y z, cs = #[x, y, z] := by
  obtain ⟨l⟩ := cs
  match l, h with
  | [x, y, z], _ => exact ⟨x, y, z, rfl⟩
theorem walk {H : Type} {enc : TypeId × Value → H} {d : DataW H} {p : List MemPlace} {base : Nat} (u : Value) (cs : Array Value) (b : Int) (w : World)
    (hk2 : DataW.Trod enc Try.prog w 0 (fun _ => true) true 22 u d p) (hv2 : Value.okWide Try.prog w .any base 22 u)
    (hz : cs.size = [5, 5, 5].length)
    (hc : ∀ (i : Nat) (u : TypeId) (x : Value), [5, 5, 5][i]? = some u → cs[i]? = some x → Cell.okWide Try.prog w .any base u x) (hb : IntKind.u8.has b) :
    Calls Try.prog 7 #[u, .agg cs, .int .u8 b] w fun e w' => e = .returned (.bool true) ∧ Below w.heap.size w w' := by
  obtain ⟨m, hm⟩ := hk2
  obtain ⟨a, len, cap, rfl⟩ := okWide_slice Try.underlying22 hv2
  obtain ⟨R, hR⟩ := rules_of hm
  obtain ⟨b0, b1⟩ := has_u8 hb
  obtain ⟨b, rfl⟩ : ∃ n : Nat, b = n := ⟨b.toNat, by omega⟩
  obtain ⟨x0, x1, x2, rfl⟩ := cells3 hz
  obtain ⟨a0, rfl, g0⟩ := cell_int Try.underlying5 (hc 0 _ _ rfl rfl)
  obtain ⟨a1, rfl, g1⟩ := cell_int Try.underlying5 (hc 1 _ _ rfl rfl)
  obtain ⟨a2, rfl, g2⟩ := cell_int Try.underlying5 (hc 2 _ _ rfl rfl)
  have g0 := has_u8 g0
  have g1 := has_u8 g1
  have g2 := has_u8 g2
  obtain ⟨a0, rfl⟩ : ∃ n : Nat, a0 = n := ⟨a0.toNat, by omega⟩
  obtain ⟨a1, rfl⟩ : ∃ n : Nat, a1 = n := ⟨a1.toNat, by omega⟩
  obtain ⟨a2, rfl⟩ : ∃ n : Nat, a2 = n := ⟨a2.toNat, by omega⟩
  exact walkN _ R a0 a1 a2 b w hR (by omega) (by omega) (by omega) (by omega)

theorem own : ownKnob Try.prog.godebug = none := by kernel_rfl
theorem laidOut : laidOutB Try.prog = true := by kernel_rfl

set_option maxRecDepth 100000 in
theorem lifted (os : Os) (started : os.Started) (H : Type) (enc : TypeId × Value → H) :
    ReturnsInHanded {} Try.checked os 7 .any (Rows.lanesMoreSpec.pre6 enc Try.prog Try.f7 Rows.lanesMoreRow.domain false) (Rows.lanesMoreSpec.post enc Try.prog Try.f7 false true false false) := by
  refine returnsInHanded_of_change (C := Try.checked) own started (by kernel_rfl) Try.func7
    (ChangeSpec.witness6 (enc := enc) (C := Try.checked) false ⟨#[], #[.slice none 0 0, .agg #[.int .u8 0, .int .u8 0, .int .u8 0], .int .u8 0], []⟩ 8 (by kernel_rfl) (by kernel_rfl) (by kernel_rfl) (by kernel_rfl)) ?_
  intro W base args ds gs before hval0 hW hcnd _
  have hval : ∀ (j : Nat) t v, Try.f7.params[j]? = some t → args[j]? = some v → Value.okWide Try.prog W .any base t v := hval0
  have hW' := hW
  obtain ⟨p, q, hA0, hV, rfl, hfz, hnd⟩ := hW
  have hA : DataW.TrodAll enc Try.prog W 0 (fun _ => true) true Try.f7.params.toList args.toList ds p := hA0
  rw [Try.params7] at hA hval
  obtain ⟨v0, vs0, d0, ds0, p0, q0, hargs, rfl, rfl, k0, r0⟩ := trodAll_cons hA
  obtain ⟨v1, vs1, d1, ds1, p1, q1, rfl, rfl, rfl, k1, r1⟩ := trodAll_cons r0
  obtain ⟨v2, vs2, d2, ds2, p2, q2, rfl, rfl, rfl, k2, r2⟩ := trodAll_cons r1
  obtain ⟨rfl, rfl, rfl⟩ := trodAll_nil r2
  obtain rfl : args = #[v0, v1, v2] := by cases args; simp_all
  obtain ⟨rfl, rfl⟩ := trodVars_none hV
  have lt0 : ∀ x ∈ p0, x.block < W.heap.size := by obtain ⟨m, hm⟩ := k0; exact DataW.trod_lt m _ _ _ hm
  have lt1 : ∀ x ∈ p1, x.block < W.heap.size := by obtain ⟨m, hm⟩ := k1; exact DataW.trod_lt m _ _ _ hm
  have lt2 : ∀ x ∈ p2, x.block < W.heap.size := by obtain ⟨m, hm⟩ := k2; exact DataW.trod_lt m _ _ _ hm
  obtain ⟨c1, rfl, z1, g1⟩ := arg_agg (ts := [5, 5, 5]) (by kernel_rfl) (by kernel_rfl) (by kernel_rfl) (hval 1 45 v1 rfl rfl)
  obtain ⟨a2, rfl, w2⟩ := arg_int Try.underlying5 (hval 2 5 v2 rfl rfl)
  clear hA0 hval0
  refine (walk v0 c1 a2 W k0 (hval 0 22 v0 rfl rfl) z1 g1 w2).mono fun e W' ⟨he, bel⟩ => ?_
  subst he
  exact ⟨_, rfl, _, _, _, [], _, [], hW', trodAll_mk1 (shut_bool Try.underlying4 _), (trodAll_cons_mk (Below.trod laidOut (by kernel_rfl) (of_decide_eq_true (by kernel_rfl)) k0 bel lt0) (trodAll_cons_mk (Below.trod laidOut (by kernel_rfl) (of_decide_eq_true (by kernel_rfl)) k1 bel lt1) (trodAll_cons_mk (Below.trod laidOut (by kernel_rfl) (of_decide_eq_true (by kernel_rfl)) k2 bel lt2) trodAll_mk0))), rfl, bel.frame _, fun h => by cases h⟩

theorem over : Rows.lanesMoreRow.holds Try.pinned (OpenSpec.ofChange Rows.lanesMoreSpec) :=
  OpenClaim.holds_of_wide 7 Try.f7 rfl rfl rfl rfl rfl rfl rfl ⟨rfl, rfl, rfl, rfl, rfl⟩ rfl rfl rfl rfl rfl (by kernel_rfl) Try.func7 (by kernel_rfl)
    (of_decide_eq_true (by kernel_rfl)) (by unfold Func.isWrapper; first | (rw [if_pos (by decide +kernel)]; kernel_rfl) | (rw [if_neg (by decide +kernel)]; exact ⟨rfl, rfl⟩))
    (fun os started H enc _ => lifted os started H enc)

theorem proved : Rows.LanesMoreSaid := over
#print axioms proved
end Go.Proofs.Ytghdgenlkbocmaa.lanesMore
