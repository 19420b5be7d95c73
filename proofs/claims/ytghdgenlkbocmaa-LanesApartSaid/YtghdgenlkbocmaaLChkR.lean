/- Layer 17, the reference: Check. -/
import Derived.Test.YtghdgenlkbocmaaLChk
namespace Go.Proofs.Ytghdgenlkbocmaa
open Go.RowKit

set_option maxRecDepth 100000 in
set_option maxHeartbeats 4000000 in
theorem check_r (W : Int) (v : Value) (l : List Ln) (w : World) (hv : Lanes w v l) : Calls Try.prog 18 #[.agg #[.int .i64 W, v]] w fun e w' => e = .returned (.tuple #[.int .i64 (checkV W l).1, .int .i64 (checkV W l).2]) ∧ Below w.heap.size w w' := by
  obtain ⟨a, cap, rfl⟩ := hv.form
  have hm := Row.max hv
  have HV := Lib.hid hv
  have HM := Lib.hid (ChkM.start w W (.slice a l.length cap))
  clear hv
  obtain ⟨V, hV⟩ : ∃ V, V = checkV W l := ⟨_, rfl⟩
  rw [← hV]
  unfold checkV at hV
  by_cases h0 : l.length = 0
  · rw [if_pos h0] at hV
    have t0 : ((l.length : Int) == 0) = true := beq_iff_eq.2 (by omega)
    subst hV
    clear h0
    go_enter Try.func18, Try.ntmps18
    go_wp2_with fail
    go_ret2
    exact ⟨rfl, HM.out.bel⟩
  · rw [if_neg h0] at hV
    have t0 : ((l.length : Int) == 0) = false := beq_eq_false_iff_ne.2 (by omega)
    generalize hG0 : chkG l 0 0 0 = G at *
    have HG0 := Lib.hid hG0
    have HVV := Lib.hid hV
    clear h0 hV hG0
    go_enter Try.func18, Try.ntmps18
    go_wp2_with fail
    clear t0
    go_loopw [4, 5, 6] (fun nv rv iv wr => ∃ (i : Nat) (n r : Int), i ≤ l.length ∧ iv = .int .i64 (i : Nat) ∧ nv = .int .i64 n ∧ rv = .int .i64 r ∧ 0 ≤ n ∧ n ≤ 256 ∧ 0 ≤ r ∧ r < 16 ∧ G = chkG (l.drop i) (i : Nat) n r ∧ ChkM w W (.slice a l.length cap) wr) (fun _ _ iv _ => l.length - (intOf iv).toNat)
    case atStart => exact ⟨0, 0, 0, by omega, rfl, rfl, rfl, by omega, by omega, by omega, by omega, by rw [List.drop_zero]; exact HG0.out.symm, HM.out⟩
    case round =>
      obtain ⟨i, n, r, hi, rfl, rfl, rfl, n0, n1, r0, r1, hG, hM⟩ := hrel
      have HCM := Lib.hid hM
      have i0 : (0 : Int) ≤ (i : Int) := by omega
      by_cases hlt : i < l.length
      · have i1 : (i : Int) < (l.length : Int) := by omega
        obtain ⟨g, o, rfl, hg, q0, q1, q2⟩ := HV.out.at hlt
        have c0 := (hM.bel.cell (p := ⟨g, o + i * 3, none⟩) hg).trans q0
        have c1 := (hM.bel.cell (p := ⟨g, o + i * 3 + 1, none⟩) hg).trans q1
        have c2 := (hM.bel.cell (p := ⟨g, o + i * 3 + 2, none⟩) hg).trans q2
        rw [chkG_at hlt] at hG
        generalize l[i].1 = x at *
        generalize l[i].2.1 = f at *
        generalize l[i].2.2 = m at *
        obtain ⟨p0, p1⟩ := hM.plan.cells
        clear q0 q1 q2 hM
        rcases chk_cases x r f n m i with hbad | ⟨⟨m0, x0, x1⟩, hf | ⟨rfl, hx⟩⟩
        · rw [if_pos (by omega)] at hG
          rcases hbad with hb | ⟨hb, hb2⟩ | ⟨hb, hb2, hb3⟩
          · have hV2 : V = ((i : Int), 7) := by rw [HVV.out, hG]; rfl
            subst hV2
            clear hG HG0 HVV
            go_wp2_with fail
            all_goals
              go_ret2
              exact ⟨rfl, (HCM.out.alloc _).bel⟩

          · have hV2 : V = ((i : Int), 7) := by rw [HVV.out, hG]; rfl
            subst hV2
            clear hG HG0 HVV
            go_wp2_with fail
            all_goals
              go_ret2
              exact ⟨rfl, (HCM.out.alloc _).bel⟩

          · have hV2 : V = ((i : Int), 7) := by rw [HVV.out, hG]; rfl
            subst hV2
            clear hG HG0 HVV
            go_wp2_with fail
            all_goals
              go_ret2
              exact ⟨rfl, (HCM.out.alloc _).bel⟩

        · have hf' : (f != n) = true := bne_iff_ne.2 hf
          rw [if_neg (by omega), if_pos (.inl hf)] at hG
          clear hf
          have hV2 : V = ((i : Int), 6) := by rw [HVV.out, hG]; rfl
          subst hV2
          clear hG HG0 HVV
          go_wp2_with fail
          all_goals
              go_ret2
              exact ⟨rfl, (HCM.out.alloc _).bel⟩

        · rcases hx with ⟨hx1, hx2⟩ | ⟨hx1, hi0⟩ | ⟨hx, hy⟩
          · rw [if_neg (by omega), if_pos (.inr ⟨hx1, .inl hx2⟩)] at hG
            have e1 : (x != r) = true := bne_iff_ne.2 (by omega)
            have e2 : (x != r + 1) = true := bne_iff_ne.2 (by omega)
            clear hx1 hx2
            have hV2 : V = ((i : Int), 6) := by rw [HVV.out, hG]; rfl
            subst hV2
            clear hG HG0 HVV
            go_wp2_with fail
            all_goals
              go_ret2
              exact ⟨rfl, (HCM.out.alloc _).bel⟩
          · rw [if_neg (by omega), if_pos (.inr ⟨by omega, .inr hi0⟩)] at hG
            have e1 : (x != r) = true := bne_iff_ne.2 (by omega)
            have e2 : (x != r + 1) = false := by rw [bne_eq_false_iff_eq]; omega
            have e3 : ((i : Int) == 0) = true := beq_iff_eq.2 hi0
            clear hx1 hi0
            have hV2 : V = ((i : Int), 6) := by rw [HVV.out, hG]; rfl
            subst hV2
            clear hG HG0 HVV
            go_wp2_with fail
            all_goals
              go_ret2
              exact ⟨rfl, (HCM.out.alloc _).bel⟩
          · rw [if_neg (by omega), if_neg (by omega)] at hG
            rcases hx with hx1 | ⟨hx1, hi0⟩
            · have e1 : (x != r) = false := by rw [bne_eq_false_iff_eq]; omega
              have x2 : x < 16 := x1
              clear hx1 hy
              by_cases hm2 : 256 - f < m
              · rw [if_pos hm2] at hG
                have hV2 : V = ((i : Int), 3) := by rw [HVV.out, hG]; rfl
                subst hV2
                clear hG HG0 HVV
                go_wp2_with fail
                all_goals
                  go_ret2
                  exact ⟨rfl, (HCM.out.alloc _).bel⟩
              · rw [if_neg hm2] at hG
                have HG := Lib.hid hG
                clear hG
                go_wp2_with fail
                go_quiet (fail)
                go_wp2_with fail
                exact ⟨⟨i + 1, f + m, x, by omega, by go_num, rfl, rfl, by omega, by omega, by omega, by omega, by rw [HG.out]; push_cast; rfl, (HCM.out.alloc _).drewN _⟩, by simp [intOf]; omega⟩
            · have e1 : (x != r) = true := bne_iff_ne.2 (by omega)
              have e2 : (x != r + 1) = false := by rw [bne_eq_false_iff_eq]; omega
              have e3 : ((i : Int) == 0) = false := beq_eq_false_iff_ne.2 hi0
              clear hx1 hi0 hy
              by_cases hm2 : 256 - f < m
              · rw [if_pos hm2] at hG
                have hV2 : V = ((i : Int), 3) := by rw [HVV.out, hG]; rfl
                subst hV2
                clear hG HG0 HVV
                go_wp2_with fail
                all_goals
                  go_ret2
                  exact ⟨rfl, (HCM.out.alloc _).bel⟩
              · rw [if_neg hm2] at hG
                have HG := Lib.hid hG
                clear hG
                go_wp2_with fail
                go_quiet (fail)
                go_wp2_with fail
                exact ⟨⟨i + 1, f + m, x, by omega, by go_num, rfl, rfl, by omega, by omega, by omega, by omega, by rw [HG.out]; push_cast; rfl, (HCM.out.alloc _).drewN _⟩, by simp [intOf]; omega⟩
      · have i1 : ¬ (i : Int) < (l.length : Int) := by omega
        obtain rfl : i = l.length := by omega
        rw [List.drop_length] at hG
        have hG2 : G = (0, 0, n) := hG
        subst hG2
        have hw := Lib.hid (fun w h0 h1 => words_r n w h0 h1)
        have HVV2 := Lib.hid (show V = if W ≠ wordsV n then (0, 7) else (0, 0) from HVV.out)
        clear HVV hG HG0
        generalize wordsV n = X at *
        obtain ⟨c0, c1⟩ := hM.plan.cells
        clear hM hlt
        by_cases hW : W = X
        · subst hW
          have hV2 : V = (0, 0) := by rw [HVV2.out, if_neg (fun h => h rfl)]
          subst hV2
          go_wp2_with fail
          go_quiet ((go_at_call 40; exact Calls.quiet_of_same ((hw.out _ n0 (by omega)).mono fun _ _ ⟨h1, h2⟩ => ⟨h1, h2.symm⟩)))
          go_wp2_with fail
          go_ret2
          exact ⟨rfl, below_drewN HCM.out.bel _⟩
        · have hV2 : V = (0, 7) := by rw [HVV2.out, if_pos hW]
          have e1 : (W != X) = true := bne_iff_ne.2 hW
          subst hV2
          clear hW
          go_wp2_with fail
          go_quiet ((go_at_call 40; exact Calls.quiet_of_same ((hw.out _ n0 (by omega)).mono fun _ _ ⟨h1, h2⟩ => ⟨h1, h2.symm⟩)))
          go_wp2_with fail
          go_ret2
          exact ⟨rfl, below_drewN HCM.out.bel _⟩
end Go.Proofs.Ytghdgenlkbocmaa
