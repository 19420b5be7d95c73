/- CostLengths: the law returns true: the steps are the lengths of the traces. No conditions. -/
import Derived.Test.YtdfofojlnkhjjaaCLenA
import Derived.Test.YtdfofojlnkhjjaaCArgP
import Derived.Lib.SmallJoins
namespace Go.Proofs.Ytdfofojlnkhjjaa.costLengths
open Go.ChangeShapes Go.WideShapes Go.ChangeAt Go.RowKit

set_option maxRecDepth 100000 in
set_option maxHeartbeats 2000000 in
theorem walk_bad (b k l s r x : Int) (v : Value) (w : World) (x0 : 0 ≤ x) (x1 : x ≤ 255) (hz : ¬ slotOk b k l s r = true) :
    Calls Try.prog 8 #[cfgV b k l, shpV s r, .agg #[.int .u8 x, v]] w fun e w' => e = .returned (.bool true) ∧ Below w.heap.size w w' := by
  have K1 := Lib.hid (fun w => open_p b k l s r w)
  rw [show slotE b k l s r = 7 by unfold slotE; rw [if_neg hz], show openV b k l s r = 0 by unfold openV; rw [if_neg hz]] at K1
  have K2 := Lib.hid (fun w => open30_bad b k l s r hz w)
  have HP := Lib.hid (Ask.start w b k l s r x v)
  clear hz
  obtain ⟨⟨d0, d1, d2⟩, ⟨d3, d4⟩, ⟨d5, d6⟩⟩ := HP.out.cells
  unfold cfgV shpV at *
  go_enter Try.func8, Try.ntmps8
  go_wp2_with fail
  refine (K1.out _).mono ?_
  rintro e w1 ⟨rfl, hb⟩
  replace HP := Lib.hid (HP.out.keep hb rfl)
  clear d0 d1 d2 d3 d4 d5 d6 hb
  obtain ⟨⟨d0, d1, d2⟩, ⟨d3, d4⟩, ⟨d5, d6⟩⟩ := HP.out.cells
  go_wp2_with fail
  refine (K2.out _).mono ?_
  rintro e w2 ⟨rfl, hb⟩
  replace HP := Lib.hid (HP.out.keep hb rfl)
  clear d0 d1 d2 d3 d4 d5 d6 hb
  go_wp2_with fail
  refine (awake_p _).mono ?_
  rintro e w9 ⟨rfl, hb⟩
  replace HP := Lib.hid (HP.out.keep hb rfl)
  clear hb
  go_wp2_with fail
  go_ret
  exact ⟨rfl, HP.out.bel⟩

def Far (l : Int) (L : List (Int × Int)) (w : World) (e : Ending) (w' : World) : Prop := ∃ z : Bool, e = .returned (.bool z) ∧ (z = false → L.length ≤ 210 ∧ farS l L 0 0 ≤ 40) ∧ Below w.heap.size w w'

set_option maxRecDepth 100000 in
set_option maxHeartbeats 8000000 in
theorem walk_ok (b k l s r x : Int) (v : Value) (L : List (Int × Int)) (w : World) (hv : Pairs w v L) (x0 : 0 ≤ x) (x1 : x ≤ 255) (hz : slotOk b k l s r = true) :
    Calls Try.prog 8 #[cfgV b k l, shpV s r, .agg #[.int .u8 x, v]] w fun e w' => e = .returned (.bool true) ∧ Below w.heap.size w w' := by
  have F := fine hz
  obtain ⟨G, hG⟩ : ∃ G : Int → Nat, ∀ n, (G n : Int) = fdV b k l s r n := ⟨fun n => (fdV b k l s r n).toNat, fun n => Int.toNat_of_nonneg (fdV_bd b k l s r n).1⟩
  have hGN : ∀ n, (fdV b k l s r n).toNat = G n := fun n => by rw [← hG]; rfl
  have hGB : ∀ n, 0 ≤ (G n : Int) ∧ (G n : Int) ≤ 100001000 := fun n => by rw [hG]; exact fdV_bd b k l s r n
  obtain ⟨O, hO⟩ : ∃ O : Nat, (O : Int) = openV b k l s r := ⟨(openV b k l s r).toNat, Int.toNat_of_nonneg (by
    unfold openV; rw [if_pos hz]
    have h1 : 0 ≤ r * s := Int.mul_nonneg (by have := F.r1; omega) (by have := F.s1; omega)
    have := F.s1
    omega)⟩
  have hO2 : (O : Int) ≤ 2000 := by
    rw [hO]; unfold openV; rw [if_pos hz]
    have h2 : r * s ≤ 16 * 4 := Int.mul_le_mul F.r2 F.s2 (by have := F.s1; omega) (by omega)
    have := F.s2
    omega
  have hON : (openV b k l s r).toNat = O := by rw [← hO]; rfl
  have K0 := Lib.hid (fun w => open_p b k l s r w)
  rw [show slotE b k l s r = 0 by unfold slotE; rw [if_pos hz], ← hO] at K0
  have K1 := Lib.hid (fun w => open30 b k l s r hz w)
  rw [hON] at K1
  have K2 := Lib.hid (fun n (h0 : 0 ≤ n) (h1 : n ≤ 24) w => feed_p b k l s r n w)
  have hfe : ∀ n, 0 ≤ n → n ≤ 24 → fdE b k l s r n = 0 := fun n h0 h1 => by unfold fdE; rw [if_pos hz]; exact (few_ok hz h0 (by omega)).1
  replace K2 : Hid (∀ (n : Int) (h0 : 0 ≤ n) (h1 : n ≤ 24) (w : World), Calls Try.prog 16 #[cfgV b k l, shpV s r, .int .i64 n] w fun e w' => e = .returned (.tuple #[.int .i64 (G n : Nat), .int .i64 0]) ∧ Below w.heap.size w w') :=
    Lib.hid fun n h0 h1 w => by have := K2.out n h0 h1 w; rw [hfe n h0 h1, ← hG] at this; exact this
  have K3 : Hid (∀ (n : Int) (h0 : 0 ≤ n) (h1 : n ≤ 24) (w : World), Calls Try.prog 30 #[cfgV b k l, shpV s r, .int .i64 n] w fun e w' => ∃ a cap, e = .returned (.tuple #[.slice a (G n) cap, .int .i64 0]) ∧ Below w.heap.size w w') :=
    Lib.hid fun n h0 h1 w => by have := feed30 b k l s r n hz (few_ok hz h0 (by omega)).1 (few_ok hz h0 (by omega)).2 w; rw [hGN] at this; exact this
  have K4 := Lib.hid (fun w => blockPub_p b k l s r w)
  rw [show slotE b k l s r = 0 by unfold slotE; rw [if_pos hz], blk_is hz, ← hG, ← hG] at K4
  have K5 : Hid (∀ (v : Value) (w : World), Pairs w v L → Calls Try.prog 31 #[cfgV b k l, v] w (Far l L w)) := Lib.hid fun v w h => far_r b k l v L w F.l1 F.l2 h
  have K6 := Lib.hid (fun v w (h : Pairs w v L) => total_p b k l s r v L w h)
  have K7 := Lib.hid (fun v w (h : Pairs w v L) (hL : shapesE L = 0) (hF : farS l L 0 0 ≤ 40) => calls30_ok b k l s r v L w h hz hL hF)
  have K8 := Lib.hid (fun v w (h : Pairs w v L) (hL : ¬ shapesE L = 0) => calls30_bad b k l s r v L w h hz hL)
  unfold totE totV at K6
  rw [if_pos hz] at K6
  have HSUM : Hid (shapesE L = 0 → tot l s (fun n => fdV b k l s r n) L (openV b k l s r) 0 = O + (lens l s (fun n => fdV b k l s r n) L 0 false).sum) := Lib.hid fun h => by
    rw [hO]
    refine tot_lens l s _ L _ _ ?_
    unfold shapesE at h
    split at h
    · omega
    · exact h
  have HBD : Hid (∀ i : Nat, 0 ≤ (lens l s (fun n => fdV b k l s r n) L 0 false).getD i 0 ∧ (lens l s (fun n => fdV b k l s r n) L 0 false).getD i 0 ≤ 100001000) := Lib.hid fun i => getD_bd (lens_bd (fun y => fdV_bd b k l s r y) F.s1 F.s2 L 0 false) (by omega) i
  have HLEN : Hid ((lens l s (fun n => fdV b k l s r n) L 0 false).length = L.length) := Lib.hid (length_lens _ _ _ _ _ _)
  have hG1 := hGB 1
  have hG0 := hGB 0
  have hGx := Lib.hid hGB
  have HP := Lib.hid (Ask.start w b k l s r x v)
  have HV := Lib.hid hv
  have HZ := Lib.hid hz
  clear hG hGN hGB hO hON hfe F hv hz
  generalize lens l s (fun n => fdV b k l s r n) L 0 false = All at *
  generalize tot l s (fun n => fdV b k l s r n) L (openV b k l s r) 0 = T at *
  obtain ⟨⟨d0, d1, d2⟩, ⟨d3, d4⟩, ⟨d5, d6⟩⟩ := HP.out.cells
  unfold cfgV shpV at *
  go_enter Try.func8, Try.ntmps8
  go_wp2_with fail
  refine (K0.out _).mono ?_
  rintro e w1 ⟨rfl, hb⟩
  replace HP := Lib.hid (HP.out.keep hb rfl)
  clear d0 d1 d2 d3 d4 d5 d6 hb
  obtain ⟨⟨d0, d1, d2⟩, ⟨d3, d4⟩, ⟨d5, d6⟩⟩ := HP.out.cells
  go_wp2_with fail
  refine (K1.out _).mono ?_
  rintro e w2 ⟨a1, c1, rfl, hb⟩
  replace HP := Lib.hid (HP.out.keep hb rfl)
  clear d0 d1 d2 d3 d4 d5 d6 hb
  obtain ⟨⟨d0, d1, d2⟩, ⟨d3, d4⟩, ⟨d5, d6⟩⟩ := HP.out.cells
  have n0 : 0 ≤ x % 25 := by omega
  have n1 : x % 25 ≤ 24 := by omega
  have hGn := hGx.out (x % 25)
  go_wp2_with fail
  refine (K2.out _ (by omega) (by omega) _).mono ?_
  rintro e w3 ⟨rfl, hb⟩
  replace HP := Lib.hid (HP.out.keep hb rfl)
  clear d0 d1 d2 d3 d4 d5 d6 hb
  obtain ⟨⟨d0, d1, d2⟩, ⟨d3, d4⟩, ⟨d5, d6⟩⟩ := HP.out.cells
  go_wp2_with fail
  refine (K3.out _ (by omega) (by omega) _).mono ?_
  rintro e w4 ⟨a2, c2, rfl, hb⟩
  replace HP := Lib.hid (HP.out.keep hb rfl)
  clear d0 d1 d2 d3 d4 d5 d6 hb
  obtain ⟨⟨d0, d1, d2⟩, ⟨d3, d4⟩, ⟨d5, d6⟩⟩ := HP.out.cells
  go_wp2_with fail
  refine (K4.out _).mono ?_
  rintro e w5 ⟨rfl, hb⟩
  replace HP := Lib.hid (HP.out.keep hb rfl)
  clear d0 d1 d2 d3 d4 d5 d6 hb
  obtain ⟨⟨d0, d1, d2⟩, ⟨d3, d4⟩, ⟨d5, d6⟩⟩ := HP.out.cells
  go_wp2_with fail
  refine (K3.out _ (by omega) (by omega) _).mono ?_
  rintro e w6 ⟨a3, c3, rfl, hb⟩
  replace HP := Lib.hid (HP.out.keep hb rfl)
  clear d0 d1 d2 d3 d4 d5 d6 hb
  obtain ⟨⟨d0, d1, d2⟩, ⟨d3, d4⟩, ⟨d5, d6⟩⟩ := HP.out.cells
  go_wp2_with fail
  refine (K3.out _ (by omega) (by omega) _).mono ?_
  rintro e w7 ⟨a4, c4, rfl, hb⟩
  replace HP := Lib.hid (HP.out.keep hb rfl)
  clear d0 d1 d2 d3 d4 d5 d6 hb
  obtain ⟨⟨d0, d1, d2⟩, ⟨d3, d4⟩, ⟨d5, d6⟩⟩ := HP.out.cells
  go_wp2_with fail
  refine (K5.out _ _ (HV.out.below HP.out.bel)).mono ?_
  rintro e w8 ⟨z, rfl, hfar, hb⟩
  have HFR := Lib.hid hfar
  replace HP := Lib.hid (HP.out.keep hb rfl)
  clear d0 d1 d2 d3 d4 d5 d6 hb hfar
  obtain ⟨⟨d0, d1, d2⟩, ⟨d3, d4⟩, ⟨d5, d6⟩⟩ := HP.out.cells
  cases z with
  | true =>
    go_wp2_with fail
    refine (awake_p _).mono ?_
    rintro e w9 ⟨rfl, hb⟩
    replace HP := Lib.hid (HP.out.keep hb rfl)
    clear hb
    go_wp2_with fail
    go_ret
    exact ⟨rfl, HP.out.bel⟩
  | false =>
    obtain ⟨h210, h40⟩ := HFR.out rfl
    by_cases hs : shapesE L = 0
    · rw [if_pos ⟨HZ.out, hs⟩, hs] at K6
      have HS := Lib.hid hs
      have hT := HSUM.out hs
      have HT := Lib.hid hT
      have H40 := Lib.hid h40
      clear hs hT h40
      go_wp2_with fail
      refine (K6.out _ _ (HV.out.below HP.out.bel)).mono ?_
      rintro e w9 ⟨rfl, hb⟩
      replace HP := Lib.hid (HP.out.keep hb rfl)
      clear d0 d1 d2 d3 d4 d5 d6 hb
      obtain ⟨⟨d0, d1, d2⟩, ⟨d3, d4⟩, ⟨d5, d6⟩⟩ := HP.out.cells
      go_wp2_with fail
      refine (K7.out _ _ (HV.out.below HP.out.bel) HS.out H40.out).mono ?_
      rintro e w10 ⟨hE, hb⟩
      replace HP := Lib.hid (HP.out.keep hb rfl)
      clear d0 d1 d2 d3 d4 d5 d6 hb
      rcases hE with rfl | ⟨g, cap, rfl, hg⟩
      · go_wp2_with fail
        refine (awake_p _).mono ?_
        rintro e w11 ⟨rfl, hb⟩
        replace HP := Lib.hid (HP.out.keep hb rfl)
        clear hb
        go_wp2_with fail
        go_ret
        exact ⟨rfl, HP.out.bel⟩
      · have HG := Lib.hid hg
        clear hg
        go_wp2_with fail
        go_loop [19, 20] (fun sv iv => ∃ (i : Nat) (sum : Int), i ≤ L.length ∧ iv = .int .i64 (i : Nat) ∧ sv = .int .i64 sum ∧ 0 ≤ sum ∧ sum ≤ 2000 + (i : Nat) * 100001000 ∧ sum = O + (All.take i).sum) (fun _ iv => L.length - (intOf iv).toNat)
        case atStart => exact ⟨0, O, by omega, rfl, rfl, by omega, by omega, by simp⟩
        case round =>
          obtain ⟨i, sum, hi, rfl, rfl, s0, s1, hsum⟩ := hrel
          have HSS := Lib.hid hsum
          clear hsum
          have i0 : (0 : Int) ≤ (i : Int) := by omega
          by_cases hlt : i < L.length
          · obtain ⟨gg, a, c, rfl, hgg, hc⟩ := HG.out i hlt
            obtain ⟨e0, e1⟩ := HBD.out i
            have hst := take_step All i
            generalize All.getD i 0 = E at *
            obtain ⟨M, hM⟩ : ∃ M : Nat, (M : Int) = E := ⟨E.toNat, Int.toNat_of_nonneg e0⟩
            rw [show E.toNat = M by omega] at hc
            have HST := Lib.hid hst
            have HM := Lib.hid hM
            have hM2 : (M : Int) ≤ 100001000 := by omega
            have i1 : (i : Int) < (L.length : Int) := by omega
            clear hst hM e0 e1
            go_wp2_with fail
            exact ⟨⟨i + 1, sum + M, by omega, by go_num, rfl, by omega, by omega, by rw [HST.out, HSS.out, HM.out]; omega⟩, by simp [intOf]; omega⟩
          · obtain rfl : i = L.length := by omega
            have i1 : ¬ (L.length : Int) < (L.length : Int) := by omega
            have hsT : sum = T := by rw [HSS.out, HT.out, List.take_of_length_le (Nat.le_of_eq HLEN.out)]
            subst hsT
            go_wp2_with fail
            refine (awake_p _).mono ?_
            rintro e w11 ⟨rfl, hb⟩
            replace HP := Lib.hid (HP.out.keep hb rfl)
            clear hb
            go_wp2_with fail
            go_ret
            exact ⟨rfl, HP.out.bel⟩
    · rw [if_neg (fun h => hs h.2)] at K6
      have HS := Lib.hid hs
      have hE : (shapesE L != 0) = true := bne_iff_ne.2 hs
      have hE2 : (shapesE L == 0) = false := by simpa using hs
      clear hs h40 HSUM
      generalize shapesE L = E at *
      go_wp2_with fail
      refine (K6.out _ _ (HV.out.below HP.out.bel)).mono ?_
      rintro e w9 ⟨rfl, hb⟩
      replace HP := Lib.hid (HP.out.keep hb rfl)
      clear d0 d1 d2 d3 d4 d5 d6 hb
      obtain ⟨⟨d0, d1, d2⟩, ⟨d3, d4⟩, ⟨d5, d6⟩⟩ := HP.out.cells
      go_wp2_with fail
      refine (K8.out _ _ (HV.out.below HP.out.bel) HS.out).mono ?_
      rintro e w10 ⟨rfl, hb⟩
      replace HP := Lib.hid (HP.out.keep hb rfl)
      clear d0 d1 d2 d3 d4 d5 d6 hb
      go_wp2_with fail
      refine (awake_p _).mono ?_
      rintro e w11 ⟨rfl, hb⟩
      replace HP := Lib.hid (HP.out.keep hb rfl)
      clear hb
      go_wp2_with fail
      go_ret
      exact ⟨rfl, HP.out.bel⟩

theorem cells3 {cs : Array Value} (h : cs.size = 3) : ∃ a b c, cs = #[a, b, c] :=
  ⟨cs[0], cs[1], cs[2], by apply Array.ext <;> simp [h]; intro i h1 h2; match i, h2 with | 0, _ => rfl | 1, _ => rfl | 2, _ => rfl⟩
theorem cells2 {cs : Array Value} (h : cs.size = 2) : ∃ a b, cs = #[a, b] :=
  ⟨cs[0], cs[1], by apply Array.ext <;> simp [h]; intro i h1 h2; match i, h2 with | 0, _ => rfl | 1, _ => rfl⟩

set_option maxRecDepth 100000 in
theorem walk {H : Type} {enc : TypeId × Value → H} {d : DataW H} {p : List MemPlace} {base : Nat} (cs ds : Array Value) (v : Value) (w : World) (hz : cs.size = [3, 3, 2].length)
    (hc : ∀ (i : Nat) (u : TypeId) (x : Value), [3, 3, 2][i]? = some u → cs[i]? = some x → Cell.okWide Try.prog w .any base u x)
    (hy : ds.size = [3, 3].length)
    (hd : ∀ (i : Nat) (u : TypeId) (x : Value), [3, 3][i]? = some u → ds[i]? = some x → Cell.okWide Try.prog w .any base u x)
    (hk : DataW.Trod enc Try.prog w 0 (fun _ => true) true 42 v d p) (hv : Value.okWide Try.prog w .any base 42 v) :
    Calls Try.prog 8 #[.agg cs, .agg ds, v] w fun e w' => e = .returned (.bool true) ∧ Below w.heap.size w w' := by
  obtain ⟨x0, x1, x2, rfl⟩ := cells3 hz
  obtain ⟨y0, y1, rfl⟩ := cells2 hy
  obtain ⟨b, rfl, _⟩ := cell_int Try.underlying3 (hc 0 _ _ rfl rfl)
  obtain ⟨k, rfl, _⟩ := cell_int Try.underlying3 (hc 1 _ _ rfl rfl)
  obtain ⟨l, rfl, _⟩ := cell_int Try.underlying2 (hc 2 _ _ rfl rfl)
  obtain ⟨s, rfl, _⟩ := cell_int Try.underlying3 (hd 0 _ _ rfl rfl)
  obtain ⟨r, rfl, _⟩ := cell_int Try.underlying3 (hd 1 _ _ rfl rfl)
  obtain ⟨v0, v1, t0, t1, n, rfl, -, -, q0, q1⟩ := Go.Joins.open_agg2 Try.underlying42 (by kernel_rfl) (by kernel_rfl) hv hk
  obtain ⟨cc, e, hsz, hcc⟩ := arg_agg (ts := [5, 38]) (by kernel_rfl) (by kernel_rfl) (by kernel_rfl) hv
  obtain rfl : #[v0, v1] = cc := by injection e
  obtain ⟨x, rfl, hx⟩ := cell_int Try.underlying5 (hcc 0 _ _ rfl rfl)
  have hs : ∃ a len cap, v1 = .slice a len cap := by
    have := hcc 1 _ _ rfl rfl
    simp only [Try.underlying38, Cell.okWide] at this
    cases v1 <;> simp_all [Cell.ok]
  obtain ⟨L, hL⟩ := pairs_of (enc := enc) (fuel := n) (x := t1) hs (by obtain ⟨a, len, cap, rfl⟩ := hs; exact q1)
  obtain ⟨h0, h1⟩ := has_u8 hx
  by_cases hz : slotOk b k l s r = true
  · exact walk_ok b k l s r x v1 L w hL h0 h1 hz
  · exact walk_bad b k l s r x v1 w h0 h1 hz

theorem own : ownKnob Try.prog.godebug = none := by kernel_rfl
theorem laidOut : laidOutB Try.prog = true := by kernel_rfl

set_option maxRecDepth 100000 in
theorem lifted (os : Os) (started : os.Started) (H : Type) (enc : TypeId × Value → H) :
    ReturnsInHanded {} Try.checked os 8 .any (Rows.costLengthsSpec.pre6 enc Try.prog Try.f8 Rows.costLengthsRow.domain false) (Rows.costLengthsSpec.post enc Try.prog Try.f8 false true false false) := by
  refine returnsInHanded_of_change (C := Try.checked) own started (by kernel_rfl) Try.func8
    (ChangeSpec.witness6 (enc := enc) (C := Try.checked) false ⟨#[], #[.agg #[.int .i64 0, .int .i64 0, .int .i64 0], .agg #[.int .i64 0, .int .i64 0], .agg #[.int .u8 0, .slice none 0 0]], []⟩ 8 (by kernel_rfl) (by kernel_rfl) (by kernel_rfl) (by kernel_rfl)) ?_
  intro W base args ds gs before hval0 hW hcnd _
  have hval : ∀ (j : Nat) t v, Try.f8.params[j]? = some t → args[j]? = some v → Value.okWide Try.prog W .any base t v := hval0
  have hW' := hW
  obtain ⟨p, q, hA0, hV, rfl, hfz, hnd⟩ := hW
  have hA : DataW.TrodAll enc Try.prog W 0 (fun _ => true) true Try.f8.params.toList args.toList ds p := hA0
  rw [Try.params8] at hA hval
  obtain ⟨v0, vs0, d0, ds0, p0, q0, hargs, rfl, rfl, k0, r0⟩ := trodAll_cons hA
  obtain ⟨v1, vs1, d1, ds1, p1, q1, rfl, rfl, rfl, k1, r1⟩ := trodAll_cons r0
  obtain ⟨v2, vs2, d2, ds2, p2, q2, rfl, rfl, rfl, k2, r2⟩ := trodAll_cons r1
  obtain ⟨rfl, rfl, rfl⟩ := trodAll_nil r2
  obtain rfl : args = #[v0, v1, v2] := by cases args; simp_all
  obtain ⟨rfl, rfl⟩ := trodVars_none hV
  have lt0 : ∀ x ∈ p0, x.block < W.heap.size := by obtain ⟨m, hm⟩ := k0; exact DataW.trod_lt m _ _ _ hm
  have lt1 : ∀ x ∈ p1, x.block < W.heap.size := by obtain ⟨m, hm⟩ := k1; exact DataW.trod_lt m _ _ _ hm
  have lt2 : ∀ x ∈ p2, x.block < W.heap.size := by obtain ⟨m, hm⟩ := k2; exact DataW.trod_lt m _ _ _ hm
  obtain ⟨c0, rfl, z0, g0⟩ := arg_agg (ts := [3, 3, 2]) (by kernel_rfl) (by kernel_rfl) (by kernel_rfl) (hval 0 23 v0 rfl rfl)
  obtain ⟨c1, rfl, z1, g1⟩ := arg_agg (ts := [3, 3]) (by kernel_rfl) (by kernel_rfl) (by kernel_rfl) (hval 1 25 v1 rfl rfl)
  clear hA0 hval0
  refine (walk c0 c1 v2 W z0 g0 z1 g1 k2 (hval 2 42 v2 rfl rfl)).mono fun e W' ⟨he, bel⟩ => ?_
  subst he
  exact ⟨_, rfl, _, _, _, [], _, [], hW', trodAll_mk1 (shut_bool Try.underlying4 _), (trodAll_cons_mk (Below.trod laidOut (by kernel_rfl) (of_decide_eq_true (by kernel_rfl)) k0 bel lt0) (trodAll_cons_mk (Below.trod laidOut (by kernel_rfl) (of_decide_eq_true (by kernel_rfl)) k1 bel lt1) (trodAll_cons_mk (Below.trod laidOut (by kernel_rfl) (of_decide_eq_true (by kernel_rfl)) k2 bel lt2) trodAll_mk0))), rfl, bel.frame _, fun h => by cases h⟩

theorem over : Rows.costLengthsRow.holds Try.pinned (OpenSpec.ofChange Rows.costLengthsSpec) :=
  OpenClaim.holds_of_wide 8 Try.f8 rfl rfl rfl rfl rfl rfl rfl ⟨rfl, rfl, rfl, rfl, rfl⟩ rfl rfl rfl rfl rfl (by kernel_rfl) Try.func8 (by kernel_rfl)
    (of_decide_eq_true (by kernel_rfl)) (by unfold Func.isWrapper; first | (rw [if_pos (by decide +kernel)]; kernel_rfl) | (rw [if_neg (by decide +kernel)]; exact ⟨rfl, rfl⟩))
    (fun os started H enc _ => lifted os started H enc)

theorem proved : Rows.CostLengthsSaid := over
#print axioms proved
end Go.Proofs.Ytdfofojlnkhjjaa.costLengths
