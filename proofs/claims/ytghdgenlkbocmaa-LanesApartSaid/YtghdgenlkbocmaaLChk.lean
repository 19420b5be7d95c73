/- Layer 17: Check. -/
import Derived.Test.YtghdgenlkbocmaaLPk
namespace Go.Proofs.Ytghdgenlkbocmaa
open Go.RowKit

def chkG : List Ln → Int → Int → Int → Int × Int × Int
  | [], _, n, _ => (0, 0, n)
  | x :: t, i, n, r =>
    if x.2.2 < 1 ∨ x.1 < 0 ∨ 16 ≤ x.1 then (i, 7, 0)
    else if x.2.1 ≠ n ∨ (x.1 ≠ r ∧ (x.1 ≠ r + 1 ∨ i = 0)) then (i, 6, 0)
    else if 256 - n < x.2.2 then (i, 3, 0)
    else chkG t (i + 1) (n + x.2.2) x.1
def checkV (W : Int) (l : List Ln) : Int × Int :=
  if l.length = 0 then (0, 6) else if (chkG l 0 0 0).2.1 ≠ 0 then ((chkG l 0 0 0).1, (chkG l 0 0 0).2.1) else if W ≠ wordsV (chkG l 0 0 0).2.2 then (0, 7) else (0, 0)
theorem chkG_at {l : List Ln} {k : Nat} (h : k < l.length) (i n r : Int) : chkG (l.drop k) i n r =
    if l[k].2.2 < 1 ∨ l[k].1 < 0 ∨ 16 ≤ l[k].1 then (i, 7, 0)
    else if l[k].2.1 ≠ n ∨ (l[k].1 ≠ r ∧ (l[k].1 ≠ r + 1 ∨ i = 0)) then (i, 6, 0)
    else if 256 - n < l[k].2.2 then (i, 3, 0)
    else chkG (l.drop (k + 1)) (i + 1) (n + l[k].2.2) l[k].1 := by
  rw [List.drop_eq_getElem_cons h]; rfl
/-- one step of Check: wrong, or on -/
theorem chk_cases (x r f n m i : Int) : (m < 1 ∨ (¬ m < 1 ∧ x < 0) ∨ (¬ m < 1 ∧ ¬ x < 0 ∧ 16 ≤ x)) ∨ ((1 ≤ m ∧ 0 ≤ x ∧ x < 16) ∧ (f ≠ n ∨ (f = n ∧ ((x ≠ r ∧ x ≠ r + 1) ∨ (x = r + 1 ∧ i = 0) ∨ ((x = r ∨ (x = r + 1 ∧ i ≠ 0)) ∧ (256 - n < m ∨ m ≤ 256 - n)))))) := by omega

structure ChkM (w : World) (W : Int) (v : Value) (wr : World) : Prop where
  plan : PAt wr w.heap.size (.int .i64 W) v
  bel : Below w.heap.size w wr
theorem ChkM.start (w : World) (W : Int) (v : Value) : ChkM w W v (w.alloc (.cells #[.int .i64 W, v] 27)) := ⟨PAt.new w _ _, (Below.refl _ _).alloc (Nat.le_refl _) _⟩
theorem ChkM.keep {w wr w' : World} {W : Int} {v : Value} (h : ChkM w W v wr) {N : Nat} (hb : Below N wr w') (hN : N = wr.heap.size) : ChkM w W v w' := by
  subst hN
  exact ⟨h.plan.below hb h.plan.lt, h.bel.trans (hb.mono h.bel.size)⟩
theorem ChkM.alloc {w wr : World} {W : Int} {v : Value} (h : ChkM w W v wr) (o : Obj) : ChkM w W v (wr.alloc o) := h.keep ((Below.refl _ _).alloc (Nat.le_refl _) _) rfl

theorem ChkM.drewN {w wr : World} {W : Int} {v : Value} (h : ChkM w W v wr) (n : Nat) : ChkM w W v (wr.drewN n) := h.keep (below_drewN (Below.refl _ _) n) rfl

set_option maxRecDepth 100000 in
set_option maxHeartbeats 4000000 in
theorem check_p (W : Int) (v : Value) (l : List Ln) (w : World) (hv : Lanes w v l) : Calls Try.prog 17 #[.agg #[.int .i64 W, v]] w fun e w' => e = .returned (.tuple #[.int .i64 (checkV W l).1, .int .i64 (checkV W l).2]) ∧ Below w.heap.size w w' := by
  obtain ⟨a, cap, rfl⟩ := hv.form
  have hm := Row.max hv
  have HV := Lib.hid hv
  have HM := Lib.hid (ChkM.start w W (.slice a l.length cap))
  clear hv
  obtain ⟨V, hV⟩ : ∃ V, V = checkV W l := ⟨_, rfl⟩
  rw [← hV]
  unfold checkV at hV
  by_cases h0 : l.length = 0
  · rw [if_pos h0] at hV
    have t0 : ((l.length : Int) == 0) = true := beq_iff_eq.2 (by omega)
    subst hV
    clear h0
    go_enter Try.func17, Try.ntmps17
    go_wp2_with fail
    go_ret2
    exact ⟨rfl, HM.out.bel⟩
  · rw [if_neg h0] at hV
    have t0 : ((l.length : Int) == 0) = false := beq_eq_false_iff_ne.2 (by omega)
    generalize hG0 : chkG l 0 0 0 = G at *
    have HG0 := Lib.hid hG0
    have HVV := Lib.hid hV
    clear h0 hV hG0
    go_enter Try.func17, Try.ntmps17
    go_wp2_with fail
    clear t0
    go_loopw [4, 5, 16] (fun nv rv iv wr => ∃ (i : Nat) (n r : Int), i ≤ l.length ∧ iv = .int .i64 (i : Nat) ∧ nv = .int .i64 n ∧ rv = .int .i64 r ∧ 0 ≤ n ∧ n ≤ 256 ∧ 0 ≤ r ∧ r < 16 ∧ G = chkG (l.drop i) (i : Nat) n r ∧ ChkM w W (.slice a l.length cap) wr) (fun _ _ iv _ => l.length - (intOf iv).toNat)
    case atStart => exact ⟨0, 0, 0, by omega, rfl, rfl, rfl, by omega, by omega, by omega, by omega, by rw [List.drop_zero]; exact HG0.out.symm, HM.out⟩
    case round =>
      obtain ⟨i, n, r, hi, rfl, rfl, rfl, n0, n1, r0, r1, hG, hM⟩ := hrel
      have HCM := Lib.hid hM
      have i0 : (0 : Int) ≤ (i : Int) := by omega
      by_cases hlt : i < l.length
      · have i1 : (i : Int) < (l.length : Int) := by omega
        obtain ⟨g, o, rfl, hg, q0, q1, q2⟩ := HV.out.at hlt
        have c0 := (hM.bel.cell (p := ⟨g, o + i * 3, none⟩) hg).trans q0
        have c1 := (hM.bel.cell (p := ⟨g, o + i * 3 + 1, none⟩) hg).trans q1
        have c2 := (hM.bel.cell (p := ⟨g, o + i * 3 + 2, none⟩) hg).trans q2
        rw [chkG_at hlt] at hG
        generalize l[i].1 = x at *
        generalize l[i].2.1 = f at *
        generalize l[i].2.2 = m at *
        clear q0 q1 q2 hM
        rcases chk_cases x r f n m i with hbad | ⟨⟨m0, x0, x1⟩, hf | ⟨rfl, hx⟩⟩
        · rw [if_pos (by omega)] at hG
          rcases hbad with hb | ⟨hb, hb2⟩ | ⟨hb, hb2, hb3⟩
          · have hV2 : V = ((i : Int), 7) := by rw [HVV.out, hG]; rfl
            subst hV2
            clear hG HG0 HVV
            go_wp2_with fail
            go_ret2
            exact ⟨rfl, (HCM.out.alloc _).bel⟩

          · have hV2 : V = ((i : Int), 7) := by rw [HVV.out, hG]; rfl
            subst hV2
            clear hG HG0 HVV
            go_wp2_with fail
            go_ret2
            exact ⟨rfl, (HCM.out.alloc _).bel⟩

          · have hV2 : V = ((i : Int), 7) := by rw [HVV.out, hG]; rfl
            subst hV2
            clear hG HG0 HVV
            go_wp2_with fail
            go_ret2
            exact ⟨rfl, (HCM.out.alloc _).bel⟩

        · have hf' : (f != n) = true := bne_iff_ne.2 hf
          rw [if_neg (by omega), if_pos (.inl hf)] at hG
          clear hf
          have hV2 : V = ((i : Int), 6) := by rw [HVV.out, hG]; rfl
          subst hV2
          clear hG HG0 HVV
          go_wp2_with fail
          go_ret2
          exact ⟨rfl, (HCM.out.alloc _).bel⟩

        · rcases hx with ⟨hx1, hx2⟩ | ⟨hx1, hi0⟩ | ⟨hx, hy⟩
          · rw [if_neg (by omega), if_pos (.inr ⟨hx1, .inl hx2⟩)] at hG
            have e1 : (x - r != 0) = true := bne_iff_ne.2 (by omega)
            have e2 : (x - r != 1) = true := bne_iff_ne.2 (by omega)
            clear hx1 hx2
            have hV2 : V = ((i : Int), 6) := by rw [HVV.out, hG]; rfl
            subst hV2
            clear hG HG0 HVV
            go_wp2_with fail
            go_ret2
            exact ⟨rfl, (HCM.out.alloc _).bel⟩
          · rw [if_neg (by omega), if_pos (.inr ⟨by omega, .inr hi0⟩)] at hG
            have e1 : (x - r != 0) = true := bne_iff_ne.2 (by omega)
            have e2 : (x - r != 1) = false := by rw [bne_eq_false_iff_eq]; omega
            have e3 : ((i : Int) == 0) = true := beq_iff_eq.2 hi0
            clear hx1 hi0
            have hV2 : V = ((i : Int), 6) := by rw [HVV.out, hG]; rfl
            subst hV2
            clear hG HG0 HVV
            go_wp2_with fail
            go_ret2
            exact ⟨rfl, (HCM.out.alloc _).bel⟩
          · rw [if_neg (by omega), if_neg (by omega)] at hG
            rcases hx with hx1 | ⟨hx1, hi0⟩
            · have e1 : (x - r != 0) = false := by rw [bne_eq_false_iff_eq]; omega
              have x2 : x < 16 := x1
              clear hx1 hy
              by_cases hm2 : 256 - f < m
              · rw [if_pos hm2] at hG
                have hV2 : V = ((i : Int), 3) := by rw [HVV.out, hG]; rfl
                subst hV2
                clear hG HG0 HVV
                go_wp2_with fail
                go_ret2
                exact ⟨rfl, (HCM.out.alloc _).bel⟩
              · rw [if_neg hm2] at hG
                have HG := Lib.hid hG
                clear hG
                go_wp2_with fail
                exact ⟨⟨i + 1, f + m, x, by omega, by go_num, rfl, rfl, by omega, by omega, by omega, by omega, by rw [HG.out]; push_cast; rfl, HCM.out.alloc _⟩, by simp [intOf]; omega⟩
            · have e1 : (x - r != 0) = true := bne_iff_ne.2 (by omega)
              have e2 : (x - r != 1) = false := by rw [bne_eq_false_iff_eq]; omega
              have e3 : ((i : Int) == 0) = false := beq_eq_false_iff_ne.2 hi0
              clear hx1 hi0 hy
              by_cases hm2 : 256 - f < m
              · rw [if_pos hm2] at hG
                have hV2 : V = ((i : Int), 3) := by rw [HVV.out, hG]; rfl
                subst hV2
                clear hG HG0 HVV
                go_wp2_with fail
                go_ret2
                exact ⟨rfl, (HCM.out.alloc _).bel⟩
              · rw [if_neg hm2] at hG
                have HG := Lib.hid hG
                clear hG
                go_wp2_with fail
                exact ⟨⟨i + 1, f + m, x, by omega, by go_num, rfl, rfl, by omega, by omega, by omega, by omega, by rw [HG.out]; push_cast; rfl, HCM.out.alloc _⟩, by simp [intOf]; omega⟩
      · have i1 : ¬ (i : Int) < (l.length : Int) := by omega
        obtain rfl : i = l.length := by omega
        rw [List.drop_length] at hG
        have hG2 : G = (0, 0, n) := hG
        subst hG2
        have hw := Lib.hid (fun w h0 h1 => words_p n w h0 h1)
        have HVV2 := Lib.hid (show V = if W ≠ wordsV n then (0, 7) else (0, 0) from HVV.out)
        clear HVV hG HG0
        generalize wordsV n = X at *
        obtain ⟨c0, c1⟩ := hM.plan.cells
        clear hM hlt
        by_cases hW : W = X
        · subst hW
          have hV2 : V = (0, 0) := by rw [HVV2.out, if_neg (fun h => h rfl)]
          subst hV2
          go_wp2_with fail
          go_quiet ((go_at_call 39; exact Calls.quiet_of_same ((hw.out _ n0 (by omega)).mono fun _ _ ⟨h1, h2⟩ => ⟨h1, h2.symm⟩)))
          go_wp2_with fail
          go_ret2
          exact ⟨rfl, below_drewN HCM.out.bel _⟩
        · have hV2 : V = (0, 7) := by rw [HVV2.out, if_pos hW]
          have e1 : (W != X) = true := bne_iff_ne.2 hW
          subst hV2
          clear hW
          go_wp2_with fail
          go_quiet ((go_at_call 39; exact Calls.quiet_of_same ((hw.out _ n0 (by omega)).mono fun _ _ ⟨h1, h2⟩ => ⟨h1, h2.symm⟩)))
          go_wp2_with fail
          go_ret2
          exact ⟨rfl, below_drewN HCM.out.bel _⟩
end Go.Proofs.Ytghdgenlkbocmaa
