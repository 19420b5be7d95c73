/- Layer 31: Total: the cases of an error; the reference's Total. -/
import Derived.Test.YtdfofojlnkhjjaaCTot
namespace Go.Proofs.Ytdfofojlnkhjjaa
open Go.RowKit Go.Shelf

set_option maxRecDepth 100000 in
set_option maxHeartbeats 2000000 in
theorem total_p (b k l s r : Int) (v : Value) (L : List (Int × Int)) (w : World) (hv : Pairs w v L) :
    Calls Try.prog 27 #[cfgV b k l, shpV s r, v] w fun e w' => e = .returned (.tuple #[.int .i64 (totV b k l s r L), .int .i64 (totE b k l s r L)]) ∧ Below w.heap.size w w' := by
  by_cases hz : slotOk b k l s r = true
  · by_cases hL : shapesE L = 0
    · unfold totV totE
      rw [if_pos ⟨hz, hL⟩, if_pos hz, hL]
      exact total_ok b k l s r v L w hv hz hL
    · unfold totV totE
      rw [if_neg (fun h => hL h.2), if_pos hz]
      have K1 := Lib.hid (fun w => open_p b k l s r w)
      have K2 := Lib.hid (fun w (h : Pairs w v L) => shapes_p v L w h)
      rw [show slotE b k l s r = 0 by unfold slotE; rw [if_pos hz]] at K1
      have HP := Lib.hid (Plain.start w b k l s r)
      obtain ⟨_, av, capv, rfl, _⟩ := id hv
      have HV := Lib.hid hv
      generalize openV b k l s r = O at *
      generalize shapesE L = E at *
      have hE : (E != 0) = true := bne_iff_ne.2 hL
      clear hv hz hL
      obtain ⟨⟨d0, d1, d2⟩, ⟨d3, d4⟩, _⟩ := HP.out.cells
      unfold cfgV shpV at *
      go_enter Try.func27, Try.ntmps27
      go_wp2_with fail
      refine (K1.out _).mono ?_
      rintro e w1 ⟨rfl, hb⟩
      have P1 := Lib.hid (HP.out.keep hb rfl)
      clear d0 d1 d2 d3 d4 hb
      go_wp2_with fail
      refine (K2.out _ (HV.out.below P1.out.bel)).mono ?_
      rintro e w2 ⟨rfl, hb⟩
      have P2 := Lib.hid (P1.out.keep hb rfl)
      clear hb
      go_wp2_with fail
      go_ret2
      exact ⟨rfl, P2.out.bel⟩
  · unfold totV totE
    rw [if_neg (fun h => hz h.1), if_neg hz]
    have K1 := Lib.hid (fun w => open_p b k l s r w)
    rw [show slotE b k l s r = 7 by unfold slotE; rw [if_neg hz]] at K1
    have HP := Lib.hid (Plain.start w b k l s r)
    generalize openV b k l s r = O at *
    clear hv hz
    obtain ⟨⟨d0, d1, d2⟩, ⟨d3, d4⟩, _⟩ := HP.out.cells
    unfold cfgV shpV at *
    go_enter Try.func27, Try.ntmps27
    go_wp2_with fail
    refine (K1.out _).mono ?_
    rintro e w1 ⟨rfl, hb⟩
    have P1 := Lib.hid (HP.out.keep hb rfl)
    clear d0 d1 d2 d3 d4 hb
    go_wp2_with fail
    go_ret2
    exact ⟨rfl, P1.out.bel⟩

theorem feedAny_r {b k l s r : Int} (hz : slotOk b k l s r = true) {n : Int} (h1 : 0 ≤ n) (h2 : n ≤ 1000) (w : World) :
    Calls Try.prog 17 #[cfgV b k l, shpV s r, .int .i64 n] w fun e w' => e = .returned (.tuple #[.int .i64 (fdV b k l s r n), .int .i64 0]) ∧ Below w.heap.size w w' := by
  have hb : okB b = true := by rcases (fine hz).bb with rfl | rfl | rfl | rfl | rfl <;> rfl
  have := feed_r b k l s r n w
  rwa [show fdE b k l s r n = 0 by unfold fdE; rw [if_pos hz]; exact lenE_ok hb h1 h2] at this

theorem Plain.lts {w W : World} {B : Nat} {b k l s r : Int} (h : Plain w B b k l s r W) : B < W.heap.size ∧ B + 1 < W.heap.size :=
  ⟨(Array.getElem?_eq_some_iff.1 h.cfg).1, (Array.getElem?_eq_some_iff.1 h.shp).1⟩

set_option maxRecDepth 100000 in
set_option maxHeartbeats 4000000 in
theorem total_r_ok (b k l s r : Int) (v : Value) (L : List (Int × Int)) (w : World) (hv : Pairs w v L) (hz : slotOk b k l s r = true) (hL : shapesE L = 0) :
    Calls Try.prog 28 #[cfgV b k l, shpV s r, v] w fun e w' => e = .returned (.tuple #[.int .i64 (tot l s (fun n => fdV b k l s r n) L (openV b k l s r) 0), .int .i64 0]) ∧ Below w.heap.size w w' := by
  have K1 := Lib.hid (fun w => open_r b k l s r w)
  have K2 := Lib.hid (fun w (h : Pairs w v L) => shapes_r v L w h)
  have e0 : slotE b k l s r = 0 := by unfold slotE; rw [if_pos hz]
  have ho : 0 ≤ openV b k l s r ∧ openV b k l s r ≤ 2000 := by
    obtain ⟨b1, b2, bb, k1, k2, l1, l2, s1, s2, r1, r2, m1, m2⟩ := fine hz
    have h1 : 0 ≤ r * s := Int.mul_nonneg (by omega) (by omega)
    have h2 : r * s ≤ 16 * 4 := Int.mul_le_mul r2 s2 (by omega) (by omega)
    unfold openV; rw [if_pos hz]; omega
  obtain ⟨b1, b2, bb, k1, k2, l1, l2, s1, s2, r1, r2, m1, m2⟩ := fine hz
  rw [e0] at K1
  rw [hL] at K2
  have hsh : shE L = 0 ∧ L.length ≤ 200 := by
    unfold shapesE at hL
    split at hL
    · omega
    · exact ⟨hL, by omega⟩
  obtain ⟨fd, hfd⟩ : ∃ fd : Int → Int, fd = fun n => fdV b k l s r n := ⟨_, rfl⟩
  have hfn : ∀ n, fd n = fdV b k l s r n := fun n => by rw [hfd]
  rw [← hfd]
  have KF := Lib.hid (fun (n : Int) (h1 : 0 ≤ n) (h2 : n ≤ 1000) (w : World) => show Calls Try.prog 17 #[cfgV b k l, shpV s r, .int .i64 n] w fun e w' => e = .returned (.tuple #[.int .i64 (fd n), .int .i64 0]) ∧ Below w.heap.size w w' from by
    rw [hfn]; exact feedAny_r hz h1 h2 w)
  have KB := Lib.hid (fun (n : Int) => by rw [hfn]; exact fdV_bd b k l s r n : ∀ n, 0 ≤ fd n ∧ fd n ≤ 100001000)
  have HS := Lib.hid (fun (i : Nat) (h : i < L.length) => shE_ok hsh.1 h)
  have hlen := hsh.2
  have HT := Lib.hid (fun (i : Nat) (h : i < L.length) (sum at_ : Int) => tot_at l s fd h sum at_)
  have HP := Lib.hid (Plain.start w b k l s r)
  obtain ⟨_, av, capv, rfl, _⟩ := id hv
  have HV := Lib.hid hv
  generalize openV b k l s r = O at *
  generalize hT0 : tot l s fd L O 0 = T
  have HT0 := Lib.hid hT0
  clear hT0 hfd hfn hv hz hL hsh e0 bb
  obtain ⟨⟨d0, d1, d2⟩, ⟨d3, d4⟩, _⟩ := HP.out.cells
  unfold cfgV shpV at *
  go_enter Try.func28, Try.ntmps28
  go_wp2_with fail
  refine (K1.out _).mono ?_
  rintro e w1 ⟨rfl, hb⟩
  have P1 := Lib.hid (HP.out.keep hb rfl)
  clear d0 d1 d2 d3 d4 hb
  go_wp2_with fail
  refine (K2.out _ (HV.out.below P1.out.bel)).mono ?_
  rintro e w2 ⟨rfl, hb⟩
  have P2 := Lib.hid (P1.out.keep hb rfl)
  clear hb
  go_wp2_with fail
  go_loopw [10, 11, 12] (fun sv atv iv wr => ∃ (i : Nat) (sum at_ : Int), i ≤ L.length ∧ iv = .int .i64 (i : Nat) ∧ sv = .int .i64 sum ∧ atv = .int .i64 at_ ∧ 0 ≤ sum ∧ sum ≤ (i + 1 : Nat) * 200000000 ∧ 0 ≤ at_ ∧ at_ ≤ l ∧ T = tot l s fd (L.drop i) sum at_ ∧ Plain w w.heap.size b k l s r wr) (fun _ _ iv _ => L.length - (intOf iv).toNat)
  case atStart => exact ⟨0, O, 0, by omega, rfl, rfl, rfl, ho.1, by omega, by omega, by omega, by rw [List.drop_zero]; exact HT0.out.symm, P2.out⟩
  case round =>
    obtain ⟨i, sum, at_, hi, rfl, rfl, rfl, hs0, hs1, ha0, ha1, hT, hTA⟩ := hrel
    have HTA := Lib.hid hTA
    clear hTA
    have i0 : (0 : Int) ≤ (i : Int) := by omega
    by_cases hlt : i < L.length
    · obtain ⟨g, o, rfl, hg, q1, q2⟩ := HV.out.at hlt
      have v1 := (HTA.out.bel.cell (p := ⟨g, o + i * 2, none⟩) hg).trans q1
      have v2 := (HTA.out.bel.cell (p := ⟨g, o + i * 2 + 1, none⟩) hg).trans q2
      rw [HT.out i hlt] at hT
      obtain ⟨x1, x2, x3, x4⟩ := HS.out i hlt
      clear q1 q2
      generalize L[i].1 = x at *
      generalize L[i].2 = y at *
      have i1 : (i : Int) < (L.length : Int) := by omega
      obtain ⟨⟨d0, d1, d2⟩, ⟨d3, d4⟩, _⟩ := HTA.out.cells
      obtain ⟨n0, n1⟩ := HTA.out.lts
      obtain ⟨f1, f2⟩ := KB.out y
      rcases (show x = 1 ∨ x = 2 ∨ x = 3 ∨ x = 4 by omega) with rfl | rfl | rfl | rfl
      · rw [if_neg (by omega), if_neg (by omega), if_neg (by omega)] at hT
        by_cases hy : y ≤ 1000 ∧ at_ + y ≤ l
        · rw [if_pos hy] at hT
          have HTn := Lib.hid hT
          clear hT
          obtain ⟨y1, y2⟩ := hy
          go_wp2_with fail
          refine (KF.out y x3 y1 _).mono ?_
          rintro e w5 ⟨rfl, hb⟩
          have H5 := Lib.hid ((HTA.out.keep ((Below.refl _ _).alloc (Nat.le_refl _) _) rfl).keep hb rfl)
          obtain ⟨s0, s1'⟩ := c2 (later' hb (heap_alloc_new _ _) rfl)
          clear d0 d1 d2 d3 d4 v1 v2 hb n0 n1
          go_wp2_with fail
          go_quiet (fail)
          go_wp2_with fail
          exact ⟨⟨i + 1, sum + fd y, at_ + y, by omega, by go_num, rfl, rfl, by omega, by omega, by omega, by omega, HTn.out, H5.out.keep (below_drewN (Below.refl _ _) _) rfl⟩, by simp [intOf]; omega⟩
        · rw [if_neg hy] at hT
          have HTn := Lib.hid hT
          clear hT
          by_cases hy1 : 1000 < y
          · have t1 : ¬ y ≤ 1000 := by omega
            clear hy
            go_wp2_with fail
            exact ⟨⟨i + 1, sum, at_, by omega, by go_num, rfl, rfl, by omega, by omega, by omega, by omega, HTn.out, HTA.out.keep ((Below.refl _ _).alloc (Nat.le_refl _) _) rfl⟩, by simp [intOf]; omega⟩
          · have hy2 : ¬ at_ + y ≤ l := by omega
            have t1 : y ≤ 1000 := by omega
            clear hy
            go_wp2_with fail
            exact ⟨⟨i + 1, sum, at_, by omega, by go_num, rfl, rfl, by omega, by omega, by omega, by omega, HTn.out, HTA.out.keep ((Below.refl _ _).alloc (Nat.le_refl _) _) rfl⟩, by simp [intOf]; omega⟩
      · rw [if_neg (by omega), if_pos rfl] at hT
        have HTn := Lib.hid hT
        clear hT
        go_wp2_with fail
        exact ⟨⟨i + 1, sum + 2, at_, by omega, by go_num, rfl, rfl, by omega, by omega, by omega, by omega, HTn.out, HTA.out.keep ((Below.refl _ _).alloc (Nat.le_refl _) _) rfl⟩, by simp [intOf]; omega⟩
      · rw [if_neg (by omega), if_neg (by omega), if_pos rfl] at hT
        have HTn := Lib.hid hT
        clear hT
        go_wp2_with fail
        exact ⟨⟨i + 1, sum + s + 4, 0, by omega, by go_num, rfl, rfl, by omega, by omega, by omega, by omega, HTn.out, HTA.out.keep ((Below.refl _ _).alloc (Nat.le_refl _) _) rfl⟩, by simp [intOf]; omega⟩
      · rw [if_pos rfl] at hT
        have HTn := Lib.hid hT
        clear hT
        go_wp2_with fail
        go_ret2
        rw [HTn.out]
        exact ⟨rfl, HTA.out.bel⟩
    · obtain rfl : i = L.length := by omega
      rw [List.drop_length] at hT
      have HTn := Lib.hid hT
      clear hT
      have d5 : decide ((L.length : Int) < (L.length : Int)) = false := by simp
      go_wp2_with fail
      go_ret2
      rw [HTn.out]
      exact ⟨rfl, HTA.out.bel⟩

set_option maxRecDepth 100000 in
set_option maxHeartbeats 2000000 in
theorem total_r (b k l s r : Int) (v : Value) (L : List (Int × Int)) (w : World) (hv : Pairs w v L) :
    Calls Try.prog 28 #[cfgV b k l, shpV s r, v] w fun e w' => e = .returned (.tuple #[.int .i64 (totV b k l s r L), .int .i64 (totE b k l s r L)]) ∧ Below w.heap.size w w' := by
  by_cases hz : slotOk b k l s r = true
  · by_cases hL : shapesE L = 0
    · unfold totV totE
      rw [if_pos ⟨hz, hL⟩, if_pos hz, hL]
      exact total_r_ok b k l s r v L w hv hz hL
    · unfold totV totE
      rw [if_neg (fun h => hL h.2), if_pos hz]
      have K1 := Lib.hid (fun w => open_r b k l s r w)
      have K2 := Lib.hid (fun w (h : Pairs w v L) => shapes_r v L w h)
      rw [show slotE b k l s r = 0 by unfold slotE; rw [if_pos hz]] at K1
      have HP := Lib.hid (Plain.start w b k l s r)
      obtain ⟨_, av, capv, rfl, _⟩ := id hv
      have HV := Lib.hid hv
      generalize openV b k l s r = O at *
      generalize shapesE L = E at *
      have hE : (E != 0) = true := bne_iff_ne.2 hL
      clear hv hz hL
      obtain ⟨⟨d0, d1, d2⟩, ⟨d3, d4⟩, _⟩ := HP.out.cells
      unfold cfgV shpV at *
      go_enter Try.func28, Try.ntmps28
      go_wp2_with fail
      refine (K1.out _).mono ?_
      rintro e w1 ⟨rfl, hb⟩
      have P1 := Lib.hid (HP.out.keep hb rfl)
      clear d0 d1 d2 d3 d4 hb
      go_wp2_with fail
      refine (K2.out _ (HV.out.below P1.out.bel)).mono ?_
      rintro e w2 ⟨rfl, hb⟩
      have P2 := Lib.hid (P1.out.keep hb rfl)
      clear hb
      go_wp2_with fail
      go_ret2
      exact ⟨rfl, P2.out.bel⟩
  · unfold totV totE
    rw [if_neg (fun h => hz h.1), if_neg hz]
    have K1 := Lib.hid (fun w => open_r b k l s r w)
    rw [show slotE b k l s r = 7 by unfold slotE; rw [if_neg hz]] at K1
    have HP := Lib.hid (Plain.start w b k l s r)
    generalize openV b k l s r = O at *
    clear hv hz
    obtain ⟨⟨d0, d1, d2⟩, ⟨d3, d4⟩, _⟩ := HP.out.cells
    unfold cfgV shpV at *
    go_enter Try.func28, Try.ntmps28
    go_wp2_with fail
    refine (K1.out _).mono ?_
    rintro e w1 ⟨rfl, hb⟩
    have P1 := Lib.hid (HP.out.keep hb rfl)
    clear d0 d1 d2 d3 d4 hb
    go_wp2_with fail
    go_ret2
    exact ⟨rfl, P1.out.bel⟩

end Go.Proofs.Ytdfofojlnkhjjaa
