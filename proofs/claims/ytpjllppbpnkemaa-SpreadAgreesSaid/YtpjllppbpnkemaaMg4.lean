/- Texts that the claims share, part 4. -/
import Derived.Test.YtpjllppbpnkemaaMg3
import Derived.Lib.OwnBridge
import Derived.Test.YtpjllppbpnkemaaProg
import Derived.Test.YtpjllppbpnkemaaMg1

/- slices.symMergeCmpFunc. -/
namespace Go.Proofs.Ytpjllppbpnkemaa
open Go.Shelf Go.RowKit Go.Lib Go.Sort

/-- what a call of symMerge does, of parts together at most n elements -/
def SymOk (w : World) (vs : List Value) (l : List (List Int)) (blk cap N n : Nat) : Prop := ∀ (f : Nat) (d : Array Nat) (a m b : Nat) (W : World), d.size = N → Rw w vs blk d W → a < m → m < b → b ≤ N → b - a ≤ n → b - a ≤ f →
  Calls Try.prog 82 #[.slice (some ⟨blk, 0, none⟩) N cap, .int .i64 (a : Int), .int .i64 (m : Int), .int .i64 (b : Int), .func (.func 56) #[] #[]] W fun e w' => e = .returned (.tuple #[]) ∧ Rw w vs blk (symN l f d a m b) w'
theorem rot_rw {w : World} {B blk cap : Nat} {vs : List Value} {l : List (List Int)} {d0 : Array Nat} (S : SC w B vs l blk d0) {N : Nat} (hN : d0.size = N) (hsz : N ≤ 1000000) {d : Array Nat} {W : World} {s m e : Nat} {cv : Value} (hd : d.size = N) (hR : Rw w vs blk d W) (h1 : s < m) (h2 : m < e) (h3 : e ≤ N) :
    Calls Try.prog 88 #[.slice (some ⟨blk, 0, none⟩) N cap, .int .i64 (s : Int), .int .i64 (m : Int), .int .i64 (e : Int), cv] W fun x w' => x = .returned (.tuple #[]) ∧ Rw w vs blk (rotA d s m e) w' := by
  obtain ⟨q, rfl⟩ := hR
  have := rotate_p (encN vs) (encN_one S.el) blk cap s e m q cv d0 d w S.hh (hd.trans hN.symm) h1 h2 (by omega) (by omega)
  rw [hd] at this
  exact this
set_option maxRecDepth 100000 in
set_option maxHeartbeats 40000000 in
theorem symC_p {w : World} {B blk cap : Nat} {vs : List Value} {l : List (List Int)} {d0 : Array Nat} (S : SC w B vs l blk d0) (N : Nat) (hN : d0.size = N) (hsz : N ≤ 1000000) (n : Nat) (ih : SymOk w vs l blk cap N n) (f : Nat) (d : Array Nat) (a m b : Nat) (W : World) (hd : d.size = N) (hR : Rw w vs blk d W) (h1 : a + 2 ≤ m) (h2 : m + 2 ≤ b) (h3 : b ≤ N) (h4 : b - a ≤ n + 1) (h5 : b - a ≤ f + 1) :
    Calls Try.prog 82 #[.slice (some ⟨blk, 0, none⟩) N cap, .int .i64 (a : Int), .int .i64 (m : Int), .int .i64 (b : Int), .func (.func 56) #[] #[]] W fun e w' => e = .returned (.tuple #[]) ∧ Rw w vs blk (symN l (f + 1) d a m b) w' := by
  have hO := encN_one S.el
  have hcl0 := hO.cells
  simp only [Value.cells] at hcl0
  have hst := hO.store Try.prog
  have HS := Lib.hid S
  have HR := Lib.hid hR
  have HD := Lib.hid (hd.trans hN.symm)
  have HDN := Lib.hid hd
  have HIH := Lib.hid ih
  have HO := Lib.hid hO
  have HN := Lib.hid hN
  obtain ⟨M, hM⟩ : ∃ M, M = (a + b) / 2 := ⟨_, rfl⟩
  obtain ⟨T, hT⟩ : ∃ T, T = M + m := ⟨_, rfl⟩
  obtain ⟨s0, r0, hs0, hr0, hcase⟩ : ∃ s0 r0, s0 = (if M < m then T - b else a) ∧ r0 = (if M < m then M else m) ∧ ((M < m ∧ s0 = T - b ∧ r0 = M) ∨ (¬ M < m ∧ s0 = a ∧ r0 = m)) := by
    by_cases h : M < m
    · exact ⟨T - b, M, by rw [if_pos h], by rw [if_pos h], .inl ⟨h, rfl, rfl⟩⟩
    · exact ⟨a, m, by rw [if_neg h], by rw [if_neg h], .inr ⟨h, rfl, rfl⟩⟩
  obtain ⟨Q, hQ⟩ : ∃ Q : Nat → Bool, Q = fun c => !decide (cfN l d[T - 1 - c]! d[c]! < 0) := ⟨_, rfl⟩
  have HQ := Lib.hid hQ
  obtain ⟨s, hs⟩ : ∃ s, s = bsN Q (b - a) s0 r0 := ⟨_, rfl⟩
  have hcut : cutS l d a m b = s := by
    rw [hs, hQ, hs0, hr0, hT, hM]; rfl
  obtain ⟨E, hE⟩ : ∃ E, E = T - s := ⟨_, rfl⟩
  have HSY := Lib.hid (show symN l (f + 1) d a m b = (if M < E ∧ E < b then symN l f (if a < s ∧ s < M then symN l f (if s < m ∧ m < E then rotA d s m E else d) a s M else (if s < m ∧ m < E then rotA d s m E else d)) M E b else (if a < s ∧ s < M then symN l f (if s < m ∧ m < E then rotA d s m E else d) a s M else (if s < m ∧ m < E then rotA d s m E else d))) by
    conv => lhs; unfold symN
    rw [if_neg (by omega), if_neg (by omega)]
    simp only [hcut]
    rw [hE, hT, hM])
  have hin := bsN_in Q (b - a) s0 r0 (by omega) (by omega)
  rw [← hs] at hin
  have HSB := Lib.hid hs
  have hb1 : a < M ∧ M < b ∧ a ≤ s0 ∧ s0 ≤ r0 ∧ r0 ≤ m ∧ r0 ≤ M ∧ s0 ≤ s ∧ s ≤ r0 ∧ T = M + m ∧ E = T - s ∧ T - s0 ≤ b ∧ 1 ≤ r0 ∧ r0 - s0 ≤ b - a ∧ T < 3000000 ∧ T - r0 < b := by omega
  have w0 : IntKind.i64.wrap ((m : Int) - (a : Int)) = (m : Int) - (a : Int) := IntWalk.i64_in _ (by omega)
  have t0 : ((m : Int) - (a : Int) == 1) = false := beq_eq_false_iff_ne.2 (by omega)
  have w1 : IntKind.i64.wrap ((b : Int) - (m : Int)) = (b : Int) - (m : Int) := IntWalk.i64_in _ (by omega)
  have t1 : ((b : Int) - (m : Int) == 1) = false := beq_eq_false_iff_ne.2 (by omega)
  have wab : IntKind.i64.wrap ((a : Int) + (b : Int)) = (a : Int) + (b : Int) := IntWalk.i64_in _ (by omega)
  have uab : IntKind.u64.wrap ((a : Int) + (b : Int)) = (a : Int) + (b : Int) := IntWalk.u64_in _ (by omega)
  have e2 : ((a : Int) + (b : Int)) / 2 = (M : Int) := by omega
  have uM : IntKind.u64.wrap (M : Int) = (M : Int) := IntWalk.u64_in _ (by omega)
  have wM : IntKind.i64.wrap (M : Int) = (M : Int) := IntWalk.i64_in _ (by omega)
  have wT : IntKind.i64.wrap ((M : Int) + (m : Int)) = (T : Int) := by rw [IntWalk.i64_in _ (by omega)]; omega
  have wT1 : IntKind.i64.wrap ((T : Int) - 1) = (T : Int) - 1 := IntWalk.i64_in _ (by omega)
  have HB1 := Lib.hid hb1
  have hgo : (M < m ∧ (M : Int) < (m : Int) ∧ IntKind.i64.wrap ((T : Int) - (b : Int)) = (s0 : Int) ∧ (r0 = M)) ∨ (¬ M < m ∧ ¬ (M : Int) < (m : Int) ∧ s0 = a ∧ r0 = m) := by
    rcases hcase with ⟨g1, g2, g3⟩ | ⟨g1, g2, g3⟩
    · exact .inl ⟨g1, by omega, by rw [IntWalk.i64_in _ (by omega)]; omega, g3⟩
    · exact .inr ⟨g1, by omega, g2, g3⟩
  clear S hR hd ih hO hN hM hT hs0 hr0 hcase hQ hs hcut hE hin hb1
  rcases hgo with ⟨g1, g2, g3, g4⟩ | ⟨g1, g2, g3, g4⟩
  all_goals
    have G3 := Lib.hid g3
    have G4 := Lib.hid g4
    clear g4
    first | clear G3 | skip
    have HST := Lib.hid (show (Value.int IntKind.i64 (s0 : Int) = .int .i64 (s0 : Int)) from rfl)
    go_enter Try.func82, Try.ntmps82
    go_wp2_with fail
    go_loopw [20, 21] (fun iv jv wr => ∃ i j g : Nat, iv = .int .i64 (i : Int) ∧ jv = .int .i64 (j : Int) ∧ s0 ≤ i ∧ i ≤ j ∧ j ≤ r0 ∧ j - i ≤ g ∧ Hid (bsN Q g i j = bsN Q (b - a) s0 r0) ∧ Rw w vs blk d wr) (fun iv jv _ => (intOf jv).toNat - (intOf iv).toNat)
    case atStart =>
      have hb1 := HB1.out
      exact ⟨s0, r0, b - a, by first | rfl | rw [g3], by rw [G4.out], Nat.le_refl _, by omega, Nat.le_refl _, by omega, rfl, HR.out⟩
    case round =>
      clear w0 t0 w1 t1 wab uab e2 uM wM wT
      obtain ⟨i, j, g, rfl, rfl, hi1, hij, hjb, hg, HB, hRw⟩ := hrel
      have HRW := Lib.hid hRw
      clear hRw
      by_cases hlt : i < j
      · obtain ⟨g, rfl⟩ : ∃ g', g = g' + 1 := ⟨g - 1, by omega⟩
        obtain ⟨h, hh⟩ : ∃ h, h = (i + j) / 2 := ⟨_, rfl⟩
        have hb1 := HB1.out
        obtain ⟨P, hP⟩ : ∃ P, P = T - 1 - h := ⟨_, rfl⟩
        have k1 : i ≤ h := by omega
        have k2 : h < j := by omega
        have k3 : P < N ∧ h < N ∧ h + 1 ≤ T := by omega
        have i1 : (i : Int) < (j : Int) := by omega
        have wij : IntKind.i64.wrap ((i : Int) + (j : Int)) = (i : Int) + (j : Int) := IntWalk.i64_in _ (by omega)
        have uij : IntKind.u64.wrap ((i : Int) + (j : Int)) = (i : Int) + (j : Int) := IntWalk.u64_in _ (by omega)
        have e2 : ((i : Int) + (j : Int)) / 2 = (h : Int) := by omega
        have uh : IntKind.u64.wrap (h : Int) = (h : Int) := IntWalk.u64_in _ (by omega)
        have wh : IntKind.i64.wrap (h : Int) = (h : Int) := IntWalk.i64_in _ (by omega)
        have wh1 : IntKind.i64.wrap ((h : Int) + 1) = (h : Int) + 1 := IntWalk.i64_in _ (by omega)
        have wP : IntKind.i64.wrap ((T : Int) - 1 - (h : Int)) = (P : Int) := by rw [IntWalk.i64_in _ (by omega)]; omega
        have hN0 := HDN.out
        obtain ⟨ch, _⟩ := Rw.at HS.out HRW.out HD.out (j := h) (by omega)
        obtain ⟨ca, _⟩ := Rw.at HS.out HRW.out HD.out (j := P) (by omega)
        have KC := Lib.hid (Rw.cmp HS.out HRW.out.drew d[P]! d[h]!)
        have HYES := Lib.hid (fun hq => @bsN_yes Q g i j hlt hq)
        have HNO := Lib.hid (fun hq => @bsN_no Q g i j hlt hq)
        have HQH := Lib.hid (show Q ((i + j) / 2) = !decide (cfN l d[P]! d[h]! < 0) by rw [HQ.out, ← hh, hP])
        have h0 : (0 : Int) ≤ (h : Int) := by omega
        have h4 : (h : Int) < (N : Int) := by omega
        have a0 : (0 : Int) ≤ (P : Int) := by omega
        have a4 : (P : Int) < (N : Int) := by omega
        have HHH := Lib.hid hh
        clear hh hN0 hP hb1 k3
        generalize d[h]! = xh at *
        generalize d[P]! = xa at *
        go_wp2_with fail
        go_region_held3 (fun w' => w'.cell? ⟨blk, h, none⟩ = some (encN vs xh) ∧ w'.cell? ⟨blk, P, none⟩ = some (encN vs xa)) (go_keep)
          (first | (go_at_call 56; refine KC.out.mono ?_; rintro e w5 ⟨rfl, rfl⟩))
        have HRD := Lib.hid HRW.out.drew
        by_cases hq : cfN l xa xh < 0
        · have HY := Lib.hid (HNO.out (by rw [HQH.out, decide_eq_true hq]; rfl))
          have HQT := Lib.hid (decide_eq_true hq)
          clear HYES HNO hq
          go_wp2_with fail
          all_goals first
            | (rename_i hx; rw [HQT.out] at hx; cases hx; done)
            | (refine ⟨⟨i, h, g, rfl, rfl, hi1, k1, by omega, by omega, ?_, HRD.out⟩, by simp [intOf]; omega⟩
               show _ = _
               rw [HHH.out, ← HY.out]; exact HB.out)
        · have HY := Lib.hid (HYES.out (by rw [HQH.out, decide_eq_false hq]; rfl))
          have HQT := Lib.hid (decide_eq_false hq)
          clear HYES HNO hq
          go_wp2_with fail
          all_goals first
            | (rename_i hx; rw [HQT.out] at hx; cases hx; done)
            | (refine ⟨⟨h + 1, j, g, by go_num, rfl, by omega, by omega, hjb, by omega, ?_, HRD.out⟩, by simp [intOf]; omega⟩
               show _ = _
               rw [HHH.out, ← HY.out]; exact HB.out)
      · obtain rfl : i = j := by omega
        have hsi : s = i := by rw [HSB.out, ← HB.out, bsN_end (by omega)]
        subst hsi
        have hb1 := HB1.out
        have wE : IntKind.i64.wrap ((T : Int) - (s : Int)) = (E : Int) := by rw [IntWalk.i64_in _ (by omega)]; omega
        have i2 : ¬ (s : Int) < (s : Int) := by omega
        have hc : ((s < m ∧ m < E) ∧ (a < s ∧ s < M) ∧ (M < E ∧ E < b)) ∨ ((s < m ∧ m < E) ∧ (a < s ∧ s < M) ∧ (M < E ∧ ¬ E < b)) ∨ ((s < m ∧ m < E) ∧ ¬ a < s ∧ (M < E ∧ E < b)) ∨ ((s < m ∧ m < E) ∧ ¬ a < s ∧ (M < E ∧ ¬ E < b)) ∨ (¬ s < m ∧ (a < s ∧ s < M) ∧ ¬ M < E) ∨ (¬ s < m ∧ (a < s ∧ ¬ s < M) ∧ ¬ M < E) ∨ ((s < m ∧ ¬ m < E) ∧ (a < s ∧ ¬ s < M) ∧ (M < E ∧ E < b)) := by omega
        rcases hc with hc | hc | hc | hc | hc | hc | hc
        · have u1 : (s : Int) < (m : Int) := by omega
          have u2 : (m : Int) < (E : Int) := by omega
          have v1 : (a : Int) < (s : Int) := by omega
          have v2 : (s : Int) < (M : Int) := by omega
          have z1 : (M : Int) < (E : Int) := by omega
          have z2 : (E : Int) < (b : Int) := by omega
          have K1 := Lib.hid (rot_rw (cap := cap) (cv := .func (.func 56) #[] #[]) HS.out HN.out hsz HDN.out HRW.out (show s < m by omega) (show m < E by omega) (show E ≤ N by omega))
          have K2 := Lib.hid (fun W1 (hR1 : Rw w vs blk (rotA d s m E) W1) => HIH.out f (rotA d s m E) a s M W1 ((rotA_size d s m E).trans HDN.out) hR1 (by omega) (by omega) (by omega) (by omega) (by omega))
          have K3 := Lib.hid (fun W1 (hR1 : Rw w vs blk (symN l f (rotA d s m E) a s M) W1) => HIH.out f (symN l f (rotA d s m E) a s M) M E b W1 ((symN_size l f (rotA d s m E) a s M).trans ((rotA_size d s m E).trans HDN.out)) hR1 (by omega) (by omega) (by omega) (by omega) (by omega))
          have HF := Lib.hid (show symN l (f + 1) d a m b = symN l f (symN l f (rotA d s m E) a s M) M E b by rw [HSY.out]; simp only [if_pos (show (M < E ∧ E < b) by omega), if_pos (show (a < s ∧ s < M) by omega), if_pos (show (s < m ∧ m < E) by omega)])
          clear hb1 hc
          go_wp2_with fail
          with_reducible refine K1.out.mono ?_
          rintro e w5 ⟨rfl, hR5⟩
          have HR5 := Lib.hid hR5
          clear hR5
          go_wp2_with fail
          with_reducible refine (K2.out _ HR5.out).mono ?_
          rintro e w6 ⟨rfl, hR6⟩
          have HR6 := Lib.hid hR6
          clear hR6
          go_wp2_with fail
          with_reducible refine (K3.out _ HR6.out).mono ?_
          rintro e w7 ⟨rfl, hR7⟩
          have HR7 := Lib.hid hR7
          clear hR7
          go_wp2_with fail
          go_end0
          exact ⟨rfl, by rw [HF.out]; exact HR7.out⟩
        · have u1 : (s : Int) < (m : Int) := by omega
          have u2 : (m : Int) < (E : Int) := by omega
          have v1 : (a : Int) < (s : Int) := by omega
          have v2 : (s : Int) < (M : Int) := by omega
          have z1 : (M : Int) < (E : Int) := by omega
          have z2 : ¬ (E : Int) < (b : Int) := by omega
          have K1 := Lib.hid (rot_rw (cap := cap) (cv := .func (.func 56) #[] #[]) HS.out HN.out hsz HDN.out HRW.out (show s < m by omega) (show m < E by omega) (show E ≤ N by omega))
          have K2 := Lib.hid (fun W1 (hR1 : Rw w vs blk (rotA d s m E) W1) => HIH.out f (rotA d s m E) a s M W1 ((rotA_size d s m E).trans HDN.out) hR1 (by omega) (by omega) (by omega) (by omega) (by omega))
          have HF := Lib.hid (show symN l (f + 1) d a m b = symN l f (rotA d s m E) a s M by rw [HSY.out]; simp only [if_neg (show ¬ (M < E ∧ E < b) by omega), if_pos (show (a < s ∧ s < M) by omega), if_pos (show (s < m ∧ m < E) by omega)])
          clear hb1 hc
          go_wp2_with fail
          with_reducible refine K1.out.mono ?_
          rintro e w5 ⟨rfl, hR5⟩
          have HR5 := Lib.hid hR5
          clear hR5
          go_wp2_with fail
          with_reducible refine (K2.out _ HR5.out).mono ?_
          rintro e w6 ⟨rfl, hR6⟩
          have HR6 := Lib.hid hR6
          clear hR6
          go_wp2_with fail
          go_end0
          exact ⟨rfl, by rw [HF.out]; exact HR6.out⟩
        · have u1 : (s : Int) < (m : Int) := by omega
          have u2 : (m : Int) < (E : Int) := by omega
          have v1 : ¬ (a : Int) < (s : Int) := by omega
          have z1 : (M : Int) < (E : Int) := by omega
          have z2 : (E : Int) < (b : Int) := by omega
          have K1 := Lib.hid (rot_rw (cap := cap) (cv := .func (.func 56) #[] #[]) HS.out HN.out hsz HDN.out HRW.out (show s < m by omega) (show m < E by omega) (show E ≤ N by omega))
          have K3 := Lib.hid (fun W1 (hR1 : Rw w vs blk (rotA d s m E) W1) => HIH.out f (rotA d s m E) M E b W1 ((rotA_size d s m E).trans HDN.out) hR1 (by omega) (by omega) (by omega) (by omega) (by omega))
          have HF := Lib.hid (show symN l (f + 1) d a m b = symN l f (rotA d s m E) M E b by rw [HSY.out]; simp only [if_pos (show (M < E ∧ E < b) by omega), if_neg (show ¬ (a < s ∧ s < M) by omega), if_pos (show (s < m ∧ m < E) by omega)])
          clear hb1 hc
          go_wp2_with fail
          with_reducible refine K1.out.mono ?_
          rintro e w5 ⟨rfl, hR5⟩
          have HR5 := Lib.hid hR5
          clear hR5
          go_wp2_with fail
          with_reducible refine (K3.out _ HR5.out).mono ?_
          rintro e w7 ⟨rfl, hR7⟩
          have HR7 := Lib.hid hR7
          clear hR7
          go_wp2_with fail
          go_end0
          exact ⟨rfl, by rw [HF.out]; exact HR7.out⟩
        · have u1 : (s : Int) < (m : Int) := by omega
          have u2 : (m : Int) < (E : Int) := by omega
          have v1 : ¬ (a : Int) < (s : Int) := by omega
          have z1 : (M : Int) < (E : Int) := by omega
          have z2 : ¬ (E : Int) < (b : Int) := by omega
          have K1 := Lib.hid (rot_rw (cap := cap) (cv := .func (.func 56) #[] #[]) HS.out HN.out hsz HDN.out HRW.out (show s < m by omega) (show m < E by omega) (show E ≤ N by omega))
          have HF := Lib.hid (show symN l (f + 1) d a m b = rotA d s m E by rw [HSY.out]; simp only [if_neg (show ¬ (M < E ∧ E < b) by omega), if_neg (show ¬ (a < s ∧ s < M) by omega), if_pos (show (s < m ∧ m < E) by omega)])
          clear hb1 hc
          go_wp2_with fail
          with_reducible refine K1.out.mono ?_
          rintro e w5 ⟨rfl, hR5⟩
          have HR5 := Lib.hid hR5
          clear hR5
          go_wp2_with fail
          go_end0
          exact ⟨rfl, by rw [HF.out]; exact HR5.out⟩
        · have u1 : ¬ (s : Int) < (m : Int) := by omega
          have v1 : (a : Int) < (s : Int) := by omega
          have v2 : (s : Int) < (M : Int) := by omega
          have z1 : ¬ (M : Int) < (E : Int) := by omega
          have K2 := Lib.hid (fun W1 (hR1 : Rw w vs blk (d) W1) => HIH.out f (d) a s M W1 HDN.out hR1 (by omega) (by omega) (by omega) (by omega) (by omega))
          have HF := Lib.hid (show symN l (f + 1) d a m b = symN l f (d) a s M by rw [HSY.out]; simp only [if_neg (show ¬ (M < E ∧ E < b) by omega), if_pos (show (a < s ∧ s < M) by omega), if_neg (show ¬ (s < m ∧ m < E) by omega)])
          clear hb1 hc
          go_wp2_with fail
          with_reducible refine (K2.out _ HRW.out).mono ?_
          rintro e w6 ⟨rfl, hR6⟩
          have HR6 := Lib.hid hR6
          clear hR6
          go_wp2_with fail
          all_goals go_end0
          all_goals exact ⟨rfl, by rw [HF.out]; exact HR6.out⟩
        · have u1 : ¬ (s : Int) < (m : Int) := by omega
          have v1 : (a : Int) < (s : Int) := by omega
          have v2 : ¬ (s : Int) < (M : Int) := by omega
          have z1 : ¬ (M : Int) < (E : Int) := by omega
          have HF := Lib.hid (show symN l (f + 1) d a m b = d by rw [HSY.out]; simp only [if_neg (show ¬ (M < E ∧ E < b) by omega), if_neg (show ¬ (a < s ∧ s < M) by omega), if_neg (show ¬ (s < m ∧ m < E) by omega)])
          clear hb1 hc
          go_wp2_with fail
          go_end0
          exact ⟨rfl, by rw [HF.out]; exact HRW.out⟩
        · have u1 : (s : Int) < (m : Int) := by omega
          have u2 : ¬ (m : Int) < (E : Int) := by omega
          have v1 : (a : Int) < (s : Int) := by omega
          have v2 : ¬ (s : Int) < (M : Int) := by omega
          have z1 : (M : Int) < (E : Int) := by omega
          have z2 : (E : Int) < (b : Int) := by omega
          have K3 := Lib.hid (fun W1 (hR1 : Rw w vs blk (d) W1) => HIH.out f (d) M E b W1 HDN.out hR1 (by omega) (by omega) (by omega) (by omega) (by omega))
          have HF := Lib.hid (show symN l (f + 1) d a m b = symN l f (d) M E b by rw [HSY.out]; simp only [if_pos (show (M < E ∧ E < b) by omega), if_neg (show ¬ (a < s ∧ s < M) by omega), if_neg (show ¬ (s < m ∧ m < E) by omega)])
          clear hb1 hc
          go_wp2_with fail
          with_reducible refine (K3.out _ HRW.out).mono ?_
          rintro e w7 ⟨rfl, hR7⟩
          have HR7 := Lib.hid hR7
          clear hR7
          go_wp2_with fail
          go_end0
          exact ⟨rfl, by rw [HF.out]; exact HR7.out⟩
theorem symMerge_p {w : World} {B blk cap : Nat} {vs : List Value} {l : List (List Int)} {d0 : Array Nat} (S : SC w B vs l blk d0) (N : Nat) (hN : d0.size = N) (hsz : N ≤ 1000000) : ∀ n, SymOk w vs l blk cap N n
  | 0 => fun f d a m b W hd hR h1 h2 h3 h4 h5 => absurd h4 (by omega)
  | n + 1 => fun f d a m b W hd hR h1 h2 h3 h4 h5 => by
    obtain ⟨f, rfl⟩ : ∃ g, f = g + 1 := ⟨f - 1, by omega⟩
    by_cases e1 : m = a + 1
    · subst e1
      have := symA_p (cap := cap) S N hN hsz f d a b W (hd.trans hN.symm) hR h2 h3
      simpa using this
    · by_cases e2 : b = m + 1
      · subst e2
        have := symB_p (cap := cap) S N hN hsz f d a m W (hd.trans hN.symm) hR (by omega) h3
        simpa using this
      · exact symC_p S N hN hsz n (symMerge_p S N hN hsz n) f d a m b W hd hR (by omega) (by omega) h3 h4 h5
end Go.Proofs.Ytpjllppbpnkemaa

/- symMergeCmpFunc's mirror: what it does. Plain. -/
namespace Go.Proofs.Ytpjllppbpnkemaa
open Go.Shelf Go.RowKit Go.Lib Go.Sort

theorem swapR_get (d : Array Nat) (a b : Nat) : ∀ n, a + n ≤ b → b + n ≤ d.size → ∀ k, (swapR d a b n)[k]! = if a ≤ k ∧ k < a + n then d[k - a + b]! else if b ≤ k ∧ k < b + n then d[k - b + a]! else d[k]!
  | 0, _, _, k => by rw [swapR, if_neg (by omega), if_neg (by omega)]
  | n + 1, h1, h2, k => by
    have ih := swapR_get d a b n (by omega) (by omega)
    rw [swapR, swp_get _ (by rw [swapR_size]; omega) (by rw [swapR_size]; omega), ih, ih, ih]
    by_cases e1 : k = b + n
    · subst e1
      rw [if_pos rfl, if_neg (by omega), if_neg (by omega), if_neg (by omega), if_pos (by omega)]
      congr 1; omega
    · rw [if_neg e1]
      by_cases e2 : k = a + n
      · subst e2
        rw [if_pos rfl, if_neg (by omega), if_neg (by omega), if_pos (by omega)]
        congr 1; omega
      · rw [if_neg e2]
        by_cases e3 : a ≤ k ∧ k < a + n
        · rw [if_pos e3, if_pos (by omega)]
        · rw [if_neg e3, if_neg (show ¬ (a ≤ k ∧ k < a + (n + 1)) by omega)]
          by_cases e4 : b ≤ k ∧ k < b + n
          · rw [if_pos e4, if_pos (by omega)]
          · rw [if_neg e4, if_neg (by omega)]
theorem swapR_perm (d : Array Nat) (lo hi a b : Nat) : ∀ n, lo ≤ a → a + n ≤ b → b + n ≤ hi → hi ≤ d.size → PermIn lo hi d (swapR d a b n)
  | 0, _, _, _, _ => permIn_refl d lo hi
  | n + 1, h1, h2, h3, h4 => permIn_trans _ _ _ lo hi (swapR_perm d lo hi a b n h1 (by omega) (by omega) h4) (swp_permIn _ lo hi _ _ (by omega) (by omega) (by omega) (by omega) (by rw [swapR_size]; exact h4))
theorem rotN_get : ∀ (f : Nat) (d : Array Nat) (m i j : Nat), 1 ≤ i → 1 ≤ j → i + j ≤ f → i ≤ m → m + j ≤ d.size → ∀ k, (rotN f d m i j)[k]! = if m - i ≤ k ∧ k < m - i + j then d[k + i]! else if m - i + j ≤ k ∧ k < m + j then d[k - j]! else d[k]!
  | 0, d, m, i, j, h1, h2, h3, _, _, k => absurd h3 (by omega)
  | f + 1, d, m, i, j, h1, h2, h3, h4, h5, k => by
    unfold rotN
    by_cases e : i = j
    · subst e
      rw [if_pos rfl, swapR_get _ _ _ _ (by omega) (by omega)]
      by_cases c1 : m - i ≤ k ∧ k < m - i + i
      · rw [if_pos c1, if_pos c1]; congr 1; omega
      · rw [if_neg c1, if_neg c1]
        by_cases c2 : m - i + i ≤ k ∧ k < m + i
        · rw [if_pos (by omega), if_pos c2]; congr 1; omega
        · rw [if_neg (by omega), if_neg c2]
    · rw [if_neg e]
      by_cases g : j < i
      · have sg := swapR_get d (m - i) m j (by omega) (by omega)
        rw [if_pos g, rotN_get f _ m (i - j) j (by omega) h2 (by omega) (by omega) (by rw [swapR_size]; omega), sg, sg, sg]
        repeat' split
        all_goals first | rfl | (exfalso; omega) | (congr 1; omega)
      · have sg := swapR_get d (m - i) (m + j - i) i (by omega) (by omega)
        rw [if_neg g, rotN_get f _ m i (j - i) h1 (by omega) (by omega) h4 (by rw [swapR_size]; omega), sg, sg, sg]
        repeat' split
        all_goals first | rfl | (exfalso; omega) | (congr 1; omega)
theorem rotN_perm (lo hi : Nat) : ∀ (f : Nat) (d : Array Nat) (m i j : Nat), 1 ≤ i → 1 ≤ j → i + j ≤ f → lo + i ≤ m → m + j ≤ hi → hi ≤ d.size → PermIn lo hi d (rotN f d m i j)
  | 0, d, m, i, j, h1, h2, h3, _, _, _ => absurd h3 (by omega)
  | f + 1, d, m, i, j, h1, h2, h3, h4, h5, h6 => by
    unfold rotN
    by_cases e : i = j
    · subst e
      rw [if_pos rfl]
      exact swapR_perm d lo hi _ _ i (by omega) (by omega) (by omega) h6
    · rw [if_neg e]
      by_cases g : j < i
      · rw [if_pos g]
        exact permIn_trans _ _ _ lo hi (swapR_perm d lo hi _ _ j (by omega) (by omega) (by omega) h6) (rotN_perm lo hi f _ m (i - j) j (by omega) h2 (by omega) (by omega) h5 (by rw [swapR_size]; exact h6))
      · rw [if_neg g]
        exact permIn_trans _ _ _ lo hi (swapR_perm d lo hi _ _ i (by omega) (by omega) (by omega) h6) (rotN_perm lo hi f _ m i (j - i) h1 (by omega) (by omega) h4 (by omega) (by rw [swapR_size]; exact h6))
theorem rotA_get {d : Array Nat} {a m b : Nat} (h1 : a < m) (h2 : m < b) (h3 : b ≤ d.size) (k : Nat) : (rotA d a m b)[k]! = if a ≤ k ∧ k < a + (b - m) then d[k + (m - a)]! else if a + (b - m) ≤ k ∧ k < b then d[k - (b - m)]! else d[k]! := by
  unfold rotA
  rw [rotN_get _ _ _ _ _ (by omega) (by omega) (by omega) (by omega) (by omega), show m - (m - a) = a by omega, show m + (b - m) = b by omega]
theorem rotA_perm {d : Array Nat} {lo hi a m b : Nat} (h0 : lo ≤ a) (h1 : a < m) (h2 : m < b) (h3 : b ≤ hi) (h4 : hi ≤ d.size) : PermIn lo hi d (rotA d a m b) := by
  unfold rotA
  exact rotN_perm lo hi _ _ _ _ _ (by omega) (by omega) (by omega) (by omega) (by omega) h4
theorem upN_get (d : Array Nat) (a : Nat) : ∀ n, a + n < d.size → ∀ k, (upN d a n)[k]! = if a ≤ k ∧ k < a + n then d[k + 1]! else if k = a + n then d[a]! else d[k]!
  | 0, _, k => by
    rw [upN, if_neg (by omega)]
    split
    · subst_vars; rfl
    · rfl
  | n + 1, h, k => by
    have ih := upN_get d a n (by omega)
    rw [upN, swp_get _ (by rw [upN_size]; omega) (by rw [upN_size]; omega), ih, ih, ih]
    by_cases c1 : k = a + n + 1
    · rw [if_pos c1, if_neg (by omega), if_pos rfl, if_neg (by omega), if_pos (by omega)]
    · rw [if_neg c1]
      by_cases c2 : k = a + n
      · rw [if_pos c2, if_neg (by omega), if_neg (by omega), if_pos (by omega)]; congr 1; omega
      · rw [if_neg c2, if_neg c2]
        by_cases c3 : a ≤ k ∧ k < a + n
        · rw [if_pos c3, if_pos (by omega)]
        · rw [if_neg c3, if_neg (by omega), if_neg (by omega)]
theorem upN_perm (d : Array Nat) (lo hi a : Nat) : ∀ n, lo ≤ a → a + n < hi → hi ≤ d.size → PermIn lo hi d (upN d a n)
  | 0, _, _, _ => permIn_refl d lo hi
  | n + 1, h1, h2, h3 => permIn_trans _ _ _ lo hi (upN_perm d lo hi a n h1 (by omega) h3) (swp_permIn _ lo hi _ _ (by omega) (by omega) (by omega) (by omega) (by rw [upN_size]; exact h3))
theorem dnN_get (d : Array Nat) (m : Nat) (hm : m < d.size) : ∀ n, n ≤ m → ∀ k, (dnN d m n)[k]! = if m - n < k ∧ k ≤ m then d[k - 1]! else if k = m - n then d[m]! else d[k]!
  | 0, _, k => by
    rw [dnN, if_neg (by omega)]
    split
    · subst_vars; rfl
    · rfl
  | n + 1, h, k => by
    have ih := dnN_get d m hm n (by omega)
    rw [dnN, swp_get _ (by rw [dnN_size]; omega) (by rw [dnN_size]; omega), ih, ih, ih]
    by_cases c1 : k = m - n - 1
    · rw [if_pos c1, if_neg (by omega), if_pos rfl, if_neg (by omega), if_pos (by omega)]
    · rw [if_neg c1]
      by_cases c2 : k = m - n
      · rw [if_pos c2, if_neg (by omega), if_neg (by omega), if_pos (by omega)]; congr 1; omega
      · rw [if_neg c2, if_neg c2]
        by_cases c3 : m - n < k ∧ k ≤ m
        · rw [if_pos c3, if_pos (by omega)]
        · rw [if_neg c3, if_neg (by omega), if_neg (by omega)]
theorem dnN_perm (d : Array Nat) (lo hi m : Nat) : ∀ n, lo + n ≤ m → m < hi → hi ≤ d.size → PermIn lo hi d (dnN d m n)
  | 0, _, _, _ => permIn_refl d lo hi
  | n + 1, h1, h2, h3 => permIn_trans _ _ _ lo hi (dnN_perm d lo hi m n (by omega) (by omega) h3) (swp_permIn _ lo hi _ _ (by omega) (by omega) (by omega) (by omega) (by rw [dnN_size]; exact h3))
/-- the binary search finds where a descending test ends -/
theorem bsN_law (Q : Nat → Bool) : ∀ (f i j : Nat), i ≤ j → j - i ≤ f → (∀ x y, i ≤ x → x ≤ y → y < j → Q y = true → Q x = true) → (∀ k, i ≤ k → k < bsN Q f i j → Q k = true) ∧ (∀ k, bsN Q f i j ≤ k → k < j → Q k = false)
  | 0, i, j, h, hf, _ => ⟨fun k h1 h2 => by simp only [bsN] at h2; omega, fun k h1 h2 => by simp only [bsN] at h1; omega⟩
  | f + 1, i, j, h, hf, hm => by
    by_cases hij : i < j
    · cases hq : Q ((i + j) / 2)
      · rw [bsN_no hij hq]
        have ih := bsN_law Q f i ((i + j) / 2) (by omega) (by omega) (fun x y h1 h2 h3 => hm x y h1 h2 (by omega))
        refine ⟨ih.1, fun k h1 h2 => ?_⟩
        by_cases hk : k < (i + j) / 2
        · exact ih.2 k h1 hk
        · cases hqk : Q k
          · rfl
          · have := hm ((i + j) / 2) k (by omega) (by omega) h2 hqk
            rw [hq] at this; cases this
      · rw [bsN_yes hij hq]
        have ih := bsN_law Q f ((i + j) / 2 + 1) j (by omega) (by omega) (fun x y h1 h2 h3 => hm x y (by omega) h2 h3)
        refine ⟨fun k h1 h2 => ?_, ih.2⟩
        by_cases hk : (i + j) / 2 + 1 ≤ k
        · exact ih.1 k hk h2
        · exact hm k ((i + j) / 2) h1 (by omega) (by omega) hq
    · rw [bsN_end hij]
      exact ⟨fun k h1 h2 => by omega, fun k h1 h2 => by omega⟩
/-- two ascending parts, every place on the left less than every place on the right -/
structure SymIn (l : List (List Int)) (d : Array Nat) (a m b : Nat) : Prop where
  left : SortedIn (ltR l) a m d
  right : SortedIn (ltR l) m b d
  cross : ∀ i j, a ≤ i → i < m → m ≤ j → j < b → d[i]! < d[j]!
theorem SymIn.cf {l : List (List Int)} {d : Array Nat} {a m b : Nat} (h : SymIn l d a m b) {i j : Nat} (h1 : a ≤ i) (h2 : i < m) (h3 : m ≤ j) (h4 : j < b) : decide (cfN l d[j]! d[i]! < 0) = ltR l d[j]! d[i]! := by
  have := lt_eq_R l (h.cross i j h1 h2 h3 h4)
  unfold ltOf at this
  exact this
theorem ltR_asymm {l : List (List Int)} {x y : Nat} (h : ltR l x y = true) : ltR l y x = false := (ltR_swo l).asymmA h
theorem ltR_le {l : List (List Int)} {x y z : Nat} (h1 : ltR l x y = true) (h2 : ltR l z y = false) : ltR l x z = true := by
  cases e : ltR l x z
  · have := (ltR_swo l).ntrans x z y e h2
    rw [h1] at this; cases this
  · rfl
theorem ltR_ge {l : List (List Int)} {x y z : Nat} (h1 : ltR l x y = true) (h2 : ltR l x z = false) : ltR l z y = true := by
  cases e : ltR l z y
  · have := (ltR_swo l).ntrans x z y h2 e
    rw [h1] at this; cases this
  · rfl
theorem sortedIn_cat {l : List (List Int)} {d : Array Nat} {a m b : Nat} (h1 : SortedIn (ltR l) a m d) (h2 : SortedIn (ltR l) m b d) (hc : ∀ i j, a ≤ i → i < m → m ≤ j → j < b → ltR l d[j]! d[i]! = false) : SortedIn (ltR l) a b d := fun i j g1 g2 g3 => by
  by_cases c1 : j < m
  · exact h1 i j g1 g2 c1
  · by_cases c2 : i < m
    · exact hc i j g1 c2 (by omega) g3
    · exact h2 i j (by omega) g2 g3
theorem le_of_sorted {l : List (List Int)} {d : Array Nat} {a m : Nat} (h : SortedIn (ltR l) a m d) {i j : Nat} (h1 : a ≤ i) (h2 : i ≤ j) (h3 : j < m) : ltR l d[j]! d[i]! = false := by
  by_cases e : i = j
  · subst e; exact (ltR_swo l).irrefl _
  · exact h i j h1 (by omega) h3
end Go.Proofs.Ytpjllppbpnkemaa

/- symMergeCmpFunc's mirror merges. Plain. -/
namespace Go.Proofs.Ytpjllppbpnkemaa
open Go.Shelf Go.RowKit Go.Lib Go.Sort

theorem symOne_left {l : List (List Int)} {d : Array Nat} {a b : Nat} (h : SymIn l d a (a + 1) b) (hb : a + 1 < b) (hd : b ≤ d.size) :
    let p := bsN (fun h => decide (cfN l d[h]! d[a]! < 0)) (b - (a + 1)) (a + 1) b
    PermIn a b d (upN d a (p - 1 - a)) ∧ SortedIn (ltR l) a b (upN d a (p - 1 - a)) := by
  intro p
  have hin := bsN_in (fun h => decide (cfN l d[h]! d[a]! < 0)) (b - (a + 1)) (a + 1) b (by omega) (Nat.le_refl _)
  have hcf : ∀ x, a + 1 ≤ x → x < b → decide (cfN l d[x]! d[a]! < 0) = ltR l d[x]! d[a]! := fun x h1 h2 => h.cf (Nat.le_refl _) (by omega) h1 h2
  have hlaw := bsN_law (fun h => decide (cfN l d[h]! d[a]! < 0)) (b - (a + 1)) (a + 1) b (by omega) (Nat.le_refl _) (fun x y h1 h2 h3 hy => by
    rw [hcf y (by omega) h3] at hy
    rw [hcf x h1 (by omega)]
    by_cases e : x = y
    · subst e; exact hy
    · cases e2 : ltR l d[x]! d[a]!
      · have := (ltR_swo l).ntrans _ _ _ (h.right x y h1 (by omega) h3) e2
        rw [hy] at this; cases this
      · rfl)
  obtain ⟨p', hp'⟩ : ∃ p', p' = p := ⟨_, rfl⟩
  change _ ≤ p ∧ p ≤ _ at hin
  have h1 : ∀ k, a + 1 ≤ k → k < p → ltR l d[k]! d[a]! = true := fun k g1 g2 => by rw [← hcf k g1 (by omega)]; exact hlaw.1 k g1 g2
  have h2 : ∀ k, p ≤ k → k < b → ltR l d[k]! d[a]! = false := fun k g1 g2 => by rw [← hcf k (by omega) g2]; exact hlaw.2 k g1 g2
  rw [← hp'] at hin h1 h2 ⊢
  clear hlaw hp' p
  refine ⟨upN_perm d a b a _ (Nat.le_refl _) (by omega) hd, fun i j g1 g2 g3 => ?_⟩
  rw [upN_get d a _ (by omega), upN_get d a _ (by omega)]
  by_cases c1 : j < p' - 1
  · rw [if_pos (by omega), if_pos (by omega)]
    exact h.right (i + 1) (j + 1) (by omega) (by omega) (by omega)
  · rw [if_neg (show ¬ (a ≤ j ∧ j < a + (p' - 1 - a)) by omega)]
    by_cases c2 : j = p' - 1
    · rw [if_pos (by omega), if_pos (by omega)]
      exact ltR_asymm (h1 (i + 1) (by omega) (by omega))
    · rw [if_neg (by omega)]
      by_cases c3 : i < p' - 1
      · rw [if_pos (by omega)]
        exact h.right (i + 1) j (by omega) (by omega) g3
      · rw [if_neg (by omega)]
        by_cases c4 : i = p' - 1
        · rw [if_pos (by omega)]
          exact h2 j (by omega) g3
        · rw [if_neg (by omega)]
          exact h.right i j (by omega) g2 g3
theorem symOne_right {l : List (List Int)} {d : Array Nat} {a m : Nat} (h : SymIn l d a m (m + 1)) (ha : a < m) (hd : m + 1 ≤ d.size) :
    let p := bsN (fun h => !decide (cfN l d[m]! d[h]! < 0)) (m - a) a m
    PermIn a (m + 1) d (dnN d m (m - p)) ∧ SortedIn (ltR l) a (m + 1) (dnN d m (m - p)) := by
  intro p
  have hin := bsN_in (fun h => !decide (cfN l d[m]! d[h]! < 0)) (m - a) a m (by omega) (Nat.le_refl _)
  have hcf : ∀ x, a ≤ x → x < m → decide (cfN l d[m]! d[x]! < 0) = ltR l d[m]! d[x]! := fun x h1 h2 => h.cf h1 h2 (Nat.le_refl _) (by omega)
  have hlaw := bsN_law (fun h => !decide (cfN l d[m]! d[h]! < 0)) (m - a) a m (by omega) (Nat.le_refl _) (fun x y h1 h2 h3 hy => by
    rw [hcf y (by omega) h3, Bool.not_eq_true'] at hy
    rw [hcf x h1 (by omega), Bool.not_eq_true']
    by_cases e : x = y
    · subst e; exact hy
    · exact (ltR_swo l).ntrans _ _ _ hy (h.left x y h1 (by omega) h3))
  obtain ⟨p', hp'⟩ : ∃ p', p' = p := ⟨_, rfl⟩
  change _ ≤ p ∧ p ≤ _ at hin
  have h1 : ∀ k, a ≤ k → k < p → ltR l d[m]! d[k]! = false := fun k g1 g2 => by
    rw [← hcf k g1 (by omega)]
    have := hlaw.1 k g1 g2
    simp only [Bool.not_eq_true'] at this
    exact this
  have h2 : ∀ k, p ≤ k → k < m → ltR l d[m]! d[k]! = true := fun k g1 g2 => by
    rw [← hcf k (by omega) g2]
    have := hlaw.2 k g1 g2
    simp only [Bool.not_eq_false'] at this
    exact this
  rw [← hp'] at hin h1 h2 ⊢
  clear hlaw hp' p
  refine ⟨dnN_perm d a (m + 1) m _ (by omega) (by omega) hd, fun i j g1 g2 g3 => ?_⟩
  rw [dnN_get d m (by omega) _ (by omega), dnN_get d m (by omega) _ (by omega)]
  by_cases c1 : j < p'
  · rw [if_neg (by omega), if_neg (by omega), if_neg (by omega), if_neg (by omega)]
    exact h.left i j g1 g2 (by omega)
  · by_cases c2 : j = p'
    · rw [if_neg (show ¬ (m - (m - p') < j ∧ j ≤ m) by omega), if_pos (show j = m - (m - p') by omega), if_neg (by omega), if_neg (by omega)]
      exact h1 i g1 (by omega)
    · rw [if_pos (show m - (m - p') < j ∧ j ≤ m by omega)]
      by_cases c3 : p' < i
      · rw [if_pos (by omega)]
        exact h.left (i - 1) (j - 1) (by omega) (by omega) (by omega)
      · rw [if_neg (by omega)]
        by_cases c4 : i = p'
        · rw [if_pos (by omega)]
          exact ltR_asymm (h2 (j - 1) (by omega) (by omega))
        · rw [if_neg (by omega)]
          exact h.left i (j - 1) g1 (by omega) (by omega)
end Go.Proofs.Ytpjllppbpnkemaa

/- symMergeCmpFunc's mirror merges: the general case. Plain. -/
namespace Go.Proofs.Ytpjllppbpnkemaa
open Go.Shelf Go.RowKit Go.Lib Go.Sort

/-- where the general case cuts -/
theorem cutS_law {l : List (List Int)} {d : Array Nat} {a m b : Nat} (h : SymIn l d a m b) (h1 : a < m) (h2 : m < b) :
    let s := cutS l d a m b
    let mid := (a + b) / 2
    let e := mid + m - s
    a ≤ s ∧ s ≤ m ∧ s ≤ mid ∧ m ≤ e ∧ e ≤ b ∧ (∀ x y, a ≤ x → x < s → e ≤ y → y < b → ltR l d[y]! d[x]! = false) ∧ (∀ x y, s ≤ x → x < m → m ≤ y → y < e → ltR l d[y]! d[x]! = true) := by
  intro s mid e
  obtain ⟨s0, hs0⟩ : ∃ s0, s0 = if mid < m then mid + m - b else a := ⟨_, rfl⟩
  obtain ⟨r0, hr0⟩ : ∃ r0, r0 = if mid < m then mid else m := ⟨_, rfl⟩
  have hs : s = bsN (fun c => !decide (cfN l d[mid + m - 1 - c]! d[c]! < 0)) (b - a) s0 r0 := by rw [hs0, hr0]; rfl
  have hmid : mid = (a + b) / 2 := rfl
  have b0 : a ≤ s0 ∧ s0 ≤ r0 ∧ r0 ≤ m ∧ r0 ≤ mid ∧ mid + m ≤ b + s0 ∧ r0 - s0 ≤ b - a := by
    rw [hs0, hr0]
    split <;> omega
  have hcf : ∀ c, s0 ≤ c → c < r0 → decide (cfN l d[mid + m - 1 - c]! d[c]! < 0) = ltR l d[mid + m - 1 - c]! d[c]! := fun c g1 g2 => h.cf (by omega) (by omega) (by omega) (by omega)
  have hin := bsN_in (fun c => !decide (cfN l d[mid + m - 1 - c]! d[c]! < 0)) (b - a) s0 r0 (by omega) (by omega)
  have hlaw := bsN_law (fun c => !decide (cfN l d[mid + m - 1 - c]! d[c]! < 0)) (b - a) s0 r0 (by omega) (by omega) (fun x y g1 g2 g3 hy => by
    rw [hcf y (by omega) g3, Bool.not_eq_true'] at hy
    rw [hcf x g1 (by omega), Bool.not_eq_true']
    have e1 := le_of_sorted h.left (show a ≤ x by omega) g2 (by omega)
    have e2 := le_of_sorted h.right (show m ≤ mid + m - 1 - y by omega) (show mid + m - 1 - y ≤ mid + m - 1 - x by omega) (by omega)
    exact (ltR_swo l).ntrans _ _ _ ((ltR_swo l).ntrans _ _ _ e2 hy) e1)
  rw [← hs] at hin hlaw
  have hE : e = mid + m - s := rfl
  clear_value s e mid
  refine ⟨by omega, by omega, by omega, by omega, by omega, fun x y g1 g2 g3 g4 => ?_, fun x y g1 g2 g3 g4 => ?_⟩
  · by_cases c : s = s0
    · by_cases hc : mid < m
      · rw [if_pos hc] at hs0; omega
      · rw [if_neg hc] at hs0; omega
    · have := hlaw.1 (s - 1) (by omega) (by omega)
      rw [hcf (s - 1) (by omega) (by omega), Bool.not_eq_true', show mid + m - 1 - (s - 1) = e by omega] at this
      have e1 := le_of_sorted h.left g1 (show x ≤ s - 1 by omega) (by omega)
      have e2 := le_of_sorted h.right (show m ≤ e by omega) g3 g4
      exact (ltR_swo l).ntrans _ _ _ ((ltR_swo l).ntrans _ _ _ e2 this) e1
  · by_cases c : s = r0
    · by_cases hc : mid < m
      · rw [if_pos hc] at hr0; omega
      · rw [if_neg hc] at hr0; omega
    · have := hlaw.2 s (Nat.le_refl _) (by omega)
      rw [hcf s (by omega) (by omega), Bool.not_eq_false', show mid + m - 1 - s = e - 1 by omega] at this
      have e1 := le_of_sorted h.left (show a ≤ s by omega) g1 g2
      have e2 := le_of_sorted h.right g3 (show y ≤ e - 1 by omega) (by omega)
      cases hh : ltR l d[y]! d[x]!
      · have t1 := (ltR_swo l).ntrans _ _ _ e2 hh
        have t2 := (ltR_swo l).ntrans _ _ _ t1 e1
        rw [this] at t2; cases t2
      · rfl
theorem rot_or {d d1 : Array Nat} {s m e : Nat} (h1 : s ≤ m) (h2 : m ≤ e) (h3 : e ≤ d.size) (hd : d1 = if s < m ∧ m < e then rotA d s m e else d) (k : Nat) :
    d1[k]! = if s ≤ k ∧ k < s + (e - m) then d[k + (m - s)]! else if s + (e - m) ≤ k ∧ k < e then d[k - (e - m)]! else d[k]! := by
  subst hd
  by_cases c : s < m ∧ m < e
  · rw [if_pos c]
    exact rotA_get c.1 c.2 h3 k
  · rw [if_neg c]
    repeat' split
    all_goals first | rfl | (exfalso; omega) | (congr 1; omega)
theorem symN_law (l : List (List Int)) : ∀ (f : Nat) (d : Array Nat) (a m b : Nat), SymIn l d a m b → a < m → m < b → b ≤ d.size → b - a ≤ f → PermIn a b d (symN l f d a m b) ∧ SortedIn (ltR l) a b (symN l f d a m b)
  | 0, d, a, m, b, _, h1, h2, _, h4 => absurd h4 (by omega)
  | f + 1, d, a, m, b, h, h1, h2, h3, h4 => by
    unfold symN
    by_cases c1 : m - a = 1
    · rw [if_pos c1]
      obtain rfl : m = a + 1 := by omega
      exact symOne_left h h2 h3
    · rw [if_neg c1]
      by_cases c2 : b - m = 1
      · rw [if_pos c2]
        obtain rfl : b = m + 1 := by omega
        exact symOne_right h h1 h3
      · rw [if_neg c2]
        have hc := cutS_law h h1 h2
        obtain ⟨s, hs⟩ : ∃ s, s = cutS l d a m b := ⟨_, rfl⟩
        obtain ⟨M, hM⟩ : ∃ M, M = (a + b) / 2 := ⟨_, rfl⟩
        simp only
        rw [← hs, ← hM] at hc ⊢
        simp only at hc
        obtain ⟨E, hE⟩ : ∃ E, E = M + m - s := ⟨_, rfl⟩
        rw [← hE] at hc ⊢
        obtain ⟨g1, g2, g3, g4, g5, gx, gy⟩ := hc
        clear hs
        obtain ⟨d1, hd1⟩ : ∃ d1, d1 = if s < m ∧ m < E then rotA d s m E else d := ⟨_, rfl⟩
        rw [← hd1]
        have r1 := rot_or g2 g4 (by omega) hd1
        have p1 : PermIn a b d d1 := by
          rw [hd1]
          split
          · rename_i c
            exact rotA_perm g1 c.1 c.2 g5 h3
          · exact permIn_refl d a b
        clear hd1
        have z1 : d1.size = d.size := p1.1
        -- what lies where, behind the rotation
        have k1 : ∀ k, a ≤ k → k < s → d1[k]! = d[k]! := fun k q1 q2 => by rw [r1, if_neg (by omega), if_neg (by omega)]
        have k2 : ∀ k, s ≤ k → k < M → d1[k]! = d[k + (m - s)]! := fun k q1 q2 => by rw [r1, if_pos (by omega)]
        have k3 : ∀ k, M ≤ k → k < E → d1[k]! = d[k - (E - m)]! := fun k q1 q2 => by rw [r1, if_neg (by omega), if_pos (by omega)]
        have k4 : ∀ k, E ≤ k → d1[k]! = d[k]! := fun k q1 => by rw [r1, if_neg (by omega), if_neg (by omega)]
        have cr : ∀ i j, a ≤ i → i < M → M ≤ j → j < b → ltR l d1[j]! d1[i]! = false := fun i j q1 q2 q3 q4 => by
          by_cases w1 : i < s
          · rw [k1 i q1 w1]
            by_cases w2 : j < E
            · rw [k3 j q3 w2]
              exact h.left i (j - (E - m)) q1 (by omega) (by omega)
            · rw [k4 j (by omega)]
              exact gx i j q1 w1 (by omega) q4
          · rw [k2 i (by omega) q2]
            by_cases w2 : j < E
            · rw [k3 j q3 w2]
              exact ltR_asymm (gy (j - (E - m)) (i + (m - s)) (by omega) (by omega) (by omega) (by omega))
            · rw [k4 j (by omega)]
              exact h.right (i + (m - s)) j (by omega) (by omega) q4
        have sl : SymIn l d1 a s M := ⟨fun i j q1 q2 q3 => by rw [k1 i q1 (by omega), k1 j (by omega) q3]; exact h.left i j q1 q2 (by omega), fun i j q1 q2 q3 => by rw [k2 i q1 (by omega), k2 j (by omega) q3]; exact h.right _ _ (by omega) (by omega) (by omega), fun i j q1 q2 q3 q4 => by rw [k1 i q1 q2, k2 j q3 q4]; exact h.cross _ _ q1 (by omega) (by omega) (by omega)⟩
        have sr : SymIn l d1 M E b := ⟨fun i j q1 q2 q3 => by rw [k3 i q1 (by omega), k3 j (by omega) q3]; exact h.left _ _ (by omega) (by omega) (by omega), fun i j q1 q2 q3 => by rw [k4 i q1, k4 j (by omega)]; exact h.right _ _ (by omega) (by omega) (by omega), fun i j q1 q2 q3 q4 => by rw [k3 i q1 q2, k4 j q3]; exact h.cross _ _ (by omega) (by omega) (by omega) q4⟩
        clear r1 k1 k2 k3 k4 gx gy
        obtain ⟨d2, hd2⟩ : ∃ d2, d2 = if a < s ∧ s < M then symN l f d1 a s M else d1 := ⟨_, rfl⟩
        rw [← hd2]
        have p2 : PermIn a M d1 d2 ∧ SortedIn (ltR l) a M d2 := by
          rw [hd2]
          split
          · rename_i c
            exact symN_law l f d1 a s M sl c.1 c.2 (by omega) (by omega)
          · rename_i c
            refine ⟨permIn_refl d1 a M, ?_⟩
            by_cases w1 : s = a
            · rw [← w1]; exact sl.right
            · rw [show M = s by omega]; exact sl.left
        clear hd2
        have z2 : d2.size = d1.size := p2.1.1
        have o2 : ∀ k, M ≤ k → d2[k]! = d1[k]! := fun k q1 => p2.1.2.1 k (Or.inr q1)
        have sr2 : SymIn l d2 M E b := ⟨fun i j q1 q2 q3 => by rw [o2 i q1, o2 j (by omega)]; exact sr.left i j q1 q2 q3, fun i j q1 q2 q3 => by rw [o2 i (by omega), o2 j (by omega)]; exact sr.right i j q1 q2 q3, fun i j q1 q2 q3 q4 => by rw [o2 i q1, o2 j (by omega)]; exact sr.cross i j q1 q2 q3 q4⟩
        obtain ⟨d3, hd3⟩ : ∃ d3, d3 = if M < E ∧ E < b then symN l f d2 M E b else d2 := ⟨_, rfl⟩
        rw [← hd3]
        have p3 : PermIn M b d2 d3 ∧ SortedIn (ltR l) M b d3 := by
          rw [hd3]
          split
          · rename_i c
            exact symN_law l f d2 M E b sr2 c.1 c.2 (by omega) (by omega)
          · rename_i c
            refine ⟨permIn_refl d2 M b, ?_⟩
            by_cases w1 : E = M
            · rw [← w1]; exact sr2.right
            · rw [show b = E by omega]; exact sr2.left
        clear hd3
        have o3 : ∀ k, k < M → d3[k]! = d2[k]! := fun k q1 => p3.1.2.1 k (Or.inl q1)
        refine ⟨permIn_trans _ _ _ a b (permIn_trans _ _ _ a b p1 (permIn_mono d1 d2 a M a b (Nat.le_refl _) (by omega) (by omega) p2.1)) (permIn_mono d2 d3 M b a b (by omega) (Nat.le_refl _) (by omega) p3.1), ?_⟩
        refine sortedIn_cat (m := M) (fun i j q1 q2 q3 => by rw [o3 i (by omega), o3 j q3]; exact p2.2 i j q1 q2 q3) p3.2 ?_
        -- the left half against the right half
        have a1 : ∀ i, a ≤ i → i < M → ∀ j, M ≤ j → j < b → ltR l d1[j]! d2[i]! = false := permIn_all d1 d2 a M (fun x => ∀ j, M ≤ j → j < b → ltR l d1[j]! x = false) (by omega) p2.1 (fun i q1 q2 j q3 q4 => cr i j q1 q2 q3 q4)
        intro i j q1 q2 q3 q4
        rw [o3 i q2]
        exact permIn_all d2 d3 M b (fun x => ltR l x d2[i]! = false) (by omega) p3.1 (fun j q5 q6 => by rw [o2 j q5]; exact a1 i q1 q2 j q5 q6) j q3 q4
end Go.Proofs.Ytpjllppbpnkemaa

/- stableCmpFunc: what its blocks keep. Plain. -/
namespace Go.Proofs.Ytpjllppbpnkemaa
open Go.Shelf Go.RowKit Go.Lib Go.Sort

/-- from lo on, below hi: each block of B places holds its own numbers, ascending by ltR -/
def BlkIn (l : List (List Int)) (d : Array Nat) (B lo hi : Nat) : Prop := ∀ k, lo ≤ k → k < hi → d[k]! / B = k / B ∧ ∀ j, k < j → j < hi → k / B = j / B → ltR l d[j]! d[k]! = false
theorem blk_start (l : List (List Int)) (n : Nat) : BlkIn l (Array.range n) 1 0 n := fun k _ h => by
  have e : (Array.range n)[k]! = k := by simp [h]
  refine ⟨by rw [e], fun j h1 _ h3 => ?_⟩
  rw [Nat.div_one, Nat.div_one] at h3; omega
theorem BlkIn.sub {l : List (List Int)} {d : Array Nat} {B lo hi lo' : Nat} (h : BlkIn l d B lo hi) (h1 : lo ≤ lo') : BlkIn l d B lo' hi := fun k g1 g2 => h k (by omega) g2
theorem blk_sorted {l : List (List Int)} {d : Array Nat} {B n : Nat} (h : BlkIn l d B 0 n) (hn : n ≤ B) : SortedIn (ltR l) 0 n d := fun i j _ g1 g2 => by
  refine (h i (Nat.zero_le _) (by omega)).2 j g1 g2 ?_
  rw [Nat.div_eq_of_lt (by omega), Nat.div_eq_of_lt (by omega)]
theorem div_same {C q k : Nat} (h1 : C * q ≤ k) (h2 : k < C * q + C) : k / C = q := by
  refine Nat.div_eq_of_lt_le ?_ ?_
  · rw [Nat.mul_comm]; exact h1
  · rw [Nat.succ_mul, Nat.mul_comm]; exact h2
/-- one block of C made, of blocks of B -/
theorem blk_step {l : List (List Int)} {d d' : Array Nat} {B c q e n : Nat} (hc : 0 < c) (hB : 0 < B) (h1 : BlkIn l d (B * c) 0 (B * c * q)) (h2 : BlkIn l d B (B * c * q) n) (ha : B * c * q ≤ e) (he : e ≤ B * c * q + B * c) (hen : e ≤ n) (hn : n ≤ d.size) (hP : PermIn (B * c * q) e d d') (hS : SortedIn (ltR l) (B * c * q) e d') :
    BlkIn l d' (B * c) 0 e ∧ BlkIn l d' B e n := by
  obtain ⟨a, haE⟩ : ∃ a, a = B * c * q := ⟨_, rfl⟩
  obtain ⟨C, hC⟩ : ∃ C, C = B * c := ⟨_, rfl⟩
  rw [← haE] at h1 h2 ha he hP hS
  rw [← hC] at h1 he ⊢ haE
  have hCp : 0 < C := by rw [hC]; exact Nat.mul_pos hB hc
  have hin : ∀ k, a ≤ k → k < e → k / C = q := fun k g1 g2 => div_same (by omega) (by omega)
  have hel : ∀ k, a ≤ k → k < e → d'[k]! / C = q := permIn_all d d' a e (fun x => x / C = q) (by omega) hP fun k g1 g2 => by
    have := (h2 k g1 (by omega)).1
    rw [hC, ← Nat.div_div_eq_div_mul, this, Nat.div_div_eq_div_mul, ← hC]
    exact hin k g1 g2
  have hlo : ∀ k, k < a → d'[k]! = d[k]! := fun k g => hP.2.1 k (.inl g)
  have hhi : ∀ k, e ≤ k → d'[k]! = d[k]! := fun k g => hP.2.1 k (.inr g)
  have hlt : ∀ k, k < a → k / C < q := fun k g => by rw [Nat.div_lt_iff_lt_mul hCp, Nat.mul_comm]; omega
  refine ⟨fun k _ g2 => ?_, fun k g1 g2 => ?_⟩
  · by_cases w1 : k < a
    · rw [hlo k w1]
      refine ⟨(h1 k (Nat.zero_le _) w1).1, fun j g3 g4 g5 => ?_⟩
      by_cases w2 : j < a
      · rw [hlo j w2]
        exact (h1 k (Nat.zero_le _) w1).2 j g3 w2 g5
      · have := hin j (by omega) g4
        have := hlt k w1
        omega
    · refine ⟨by rw [hel k (by omega) g2, hin k (by omega) g2], fun j g3 g4 _ => hS k j (by omega) g3 g4⟩
  · rw [hhi k g1]
    refine ⟨(h2 k (by omega) g2).1, fun j g3 g4 g5 => ?_⟩
    rw [hhi j (by omega)]
    exact (h2 k (by omega) g2).2 j g3 g4 g5
/-- two blocks of B are two parts to merge -/
theorem blk_sym {l : List (List Int)} {d : Array Nat} {B q e n : Nat} (h : BlkIn l d B (B * q) n) (hm : B * q + B ≤ e) (he : e ≤ B * q + B + B) (hen : e ≤ n) : SymIn l d (B * q) (B * q + B) e := by
  have d1 : ∀ k, B * q ≤ k → k < B * q + B → k / B = q := fun k g1 g2 => div_same g1 g2
  have d2 : ∀ k, B * q + B ≤ k → k < e → k / B = q + 1 := fun k g1 g2 => div_same (by rw [Nat.mul_succ]; omega) (by rw [Nat.mul_succ]; omega)
  refine ⟨fun i j g1 g2 g3 => (h i g1 (by omega)).2 j g2 (by omega) (by rw [d1 i g1 (by omega), d1 j (by omega) g3]), fun i j g1 g2 g3 => (h i (by omega) (by omega)).2 j g2 (by omega) (by rw [d2 i g1 (by omega), d2 j (by omega) g3]), fun i j g1 g2 g3 g4 => ?_⟩
  have e1 := (h i g1 (by omega)).1
  have e2 := (h j (by omega) (by omega)).1
  rw [d1 i g1 g2] at e1
  rw [d2 j g3 g4] at e2
  by_cases c : d[i]! < d[j]!
  · exact c
  · have := Nat.div_le_div_right (c := B) (show d[j]! ≤ d[i]! by omega)
    omega
/-- a part of one block is sorted -/
theorem blk_part {l : List (List Int)} {d : Array Nat} {B q n : Nat} (h : BlkIn l d B (B * q) n) (hn : n ≤ B * q + B) : SortedIn (ltR l) (B * q) n d := fun i j g1 g2 g3 =>
  (h i g1 (by omega)).2 j g2 g3 (by rw [div_same (q := q) g1 (by omega), div_same (q := q) (by omega) (by omega)])
end Go.Proofs.Ytpjllppbpnkemaa

/- stableCmpFunc, SortStableFunc over the list of choices. -/
namespace Go.Proofs.Ytpjllppbpnkemaa
open Go.Shelf Go.RowKit Go.Lib Go.Sort

/-- below a the blocks have C places, from a on B -/
structure Prt (l : List (List Int)) (N : Nat) (d : Array Nat) (B C a : Nat) : Prop where
  sz : d.size = N
  perm : PermIn 0 N (Array.range N) d
  lo : BlkIn l d C 0 a
  hi : BlkIn l d B a N
theorem Prt.next {l : List (List Int)} {N B C : Nat} {d : Array Nat} (h : Prt l N d B C N) (D : Nat) : Prt l N d C D 0 :=
  ⟨h.sz, h.perm, fun k g1 g2 => absurd g2 (by omega), h.lo⟩
theorem prt_start (l : List (List Int)) (N C : Nat) : Prt l N (Array.range N) 1 C 0 :=
  ⟨by simp, permIn_refl _ _ _, fun k g1 g2 => absurd g2 (by omega), blk_start l N⟩
section
variable {w : World} {B blk cap N : Nat} {vs : List Value} {l : List (List Int)} (S : SC w B vs l blk (Array.range N)) (hsz : N ≤ 1000000)
include S hsz
theorem ins_ok {d : Array Nat} {a q e : Nat} {W : World} (ha : a = 20 * q) (h : Prt l N d 1 20 a) (h1 : a ≤ e) (h2 : e ≤ a + 20) (h3 : e ≤ N) (hR : Rw w vs blk d W) :
    Calls Try.prog 81 #[.slice (some ⟨blk, 0, none⟩) N cap, .int .i64 (a : Int), .int .i64 (e : Int), .func (.func 56) #[] #[]] W fun x w' => x = .returned (.tuple #[]) ∧ ∃ d', Prt l N d' 1 20 e ∧ Rw w vs blk d' w' := by
  obtain ⟨m, rfl⟩ := hR
  obtain ⟨cs, fr, hb⟩ := S.hb
  have hz := h.sz
  have K := insertion_p (cap := cap) (a := a) (b := e) (m := m) S.el S.sm hb (Array.range N) d S.hh (by simp [hz]) h1 (by omega) (by omega)
  rw [hz] at K
  refine K.mono ?_
  rintro x w' ⟨rfl, q', rfl⟩
  have hd : ∀ k, a ≤ k → k < N → d[k]! = k := fun k g1 g2 => by
    have := (h.hi k g1 g2).1
    rw [Nat.div_one, Nat.div_one] at this
    exact this
  have hs := ins_stable l d a e h1 (by omega) fun k j g1 g2 g3 => by rw [hd k g1 (by omega), hd j (by omega) (by omega)]; exact g2
  have e1 : 1 * 20 * q = a := by omega
  have hb := blk_step (B := 1) (c := 20) (q := q) (e := e) (n := N) (l := l) (by omega) (by omega) (by rw [e1]; exact h.lo) (by rw [e1]; exact h.hi) (by rw [e1]; exact h1) (by rw [e1]; exact h2) h3 (by omega) (by rw [e1]; exact hs.1) (by rw [e1]; exact hs.2)
  exact ⟨rfl, _, ⟨by rw [insertionSort_size]; exact hz, permIn_trans _ _ _ 0 N h.perm (permIn_mono _ _ a e 0 N (by omega) h3 (by omega) hs.1), hb.1, hb.2⟩, q', rfl⟩
theorem mrg_ok {d : Array Nat} {a m b q bs C : Nat} {W : World} (hbs : 0 < bs) (hC : C = bs * 2) (ha : a = C * q) (hm : m = a + bs) (h : Prt l N d bs C a) (h1 : m < b) (h2 : b ≤ a + C) (h3 : b ≤ N) (hR : Rw w vs blk d W) :
    Calls Try.prog 82 #[.slice (some ⟨blk, 0, none⟩) N cap, .int .i64 (a : Int), .int .i64 (m : Int), .int .i64 (b : Int), .func (.func 56) #[] #[]] W fun x w' => x = .returned (.tuple #[]) ∧ ∃ d', Prt l N d' bs C b ∧ Rw w vs blk d' w' := by
  have hz := h.sz
  refine (symMerge_p (cap := cap) S N (by simp) hsz (b - a) (b - a) d a m b W hz hR (by omega) h1 h3 (Nat.le_refl _) (Nat.le_refl _)).mono ?_
  rintro x w' ⟨rfl, hR'⟩
  have e1 : bs * (2 * q) = a := by rw [ha, hC, Nat.mul_assoc]
  have e2 : bs * 2 * q = a := by rw [ha, hC]
  have hsy : SymIn l d a m b := by
    have := blk_sym (l := l) (d := d) (B := bs) (q := 2 * q) (e := b) (n := N) (by rw [e1]; exact h.hi) (by omega) (by omega) h3
    rw [e1, ← hm] at this
    exact this
  have hs := symN_law l (b - a) d a m b hsy (by omega) h1 (by omega) (Nat.le_refl _)
  have hb := blk_step (B := bs) (c := 2) (q := q) (e := b) (n := N) (l := l) (by omega) hbs (by rw [e2, ← hC]; exact h.lo) (by rw [e2]; exact h.hi) (by omega) (by omega) h3 (by omega) (by rw [e2]; exact hs.1) (by rw [e2]; exact hs.2)
  rw [← hC] at hb
  exact ⟨rfl, _, ⟨by rw [symN_size]; exact hz, permIn_trans _ _ _ 0 N h.perm (permIn_mono _ _ a b 0 N (by omega) h3 (by omega) hs.1), hb.1, hb.2⟩, hR'⟩
omit S hsz in
/-- what is left is one part -/
theorem prt_rest {d : Array Nat} {a q bs C : Nat} (hbs : 0 < bs) (hC : C = bs * 2) (ha : a = C * q) (haN : a ≤ N) (h : Prt l N d bs C a) (h1 : N ≤ a + bs) : Prt l N d bs C N := by
  have hz := h.sz
  have e1 : bs * (2 * q) = a := by rw [ha, hC, Nat.mul_assoc]
  have e2 : bs * 2 * q = a := by rw [ha, hC]
  have hp := blk_part (l := l) (d := d) (B := bs) (q := 2 * q) (n := N) (by rw [e1]; exact h.hi) (by omega)
  rw [e1] at hp
  have hb := blk_step (B := bs) (c := 2) (q := q) (e := N) (n := N) (l := l) (d := d) (d' := d) (by omega) hbs (by rw [e2, ← hC]; exact h.lo) (by rw [e2]; exact h.hi) (by omega) (by omega) (Nat.le_refl _) (by omega) (by rw [e2]; exact permIn_refl _ _ _) (by rw [e2]; exact hp)
  rw [← hC] at hb
  exact ⟨hz, h.perm, hb.1, hb.2⟩
set_option maxRecDepth 100000 in
set_option maxHeartbeats 8000000 in
theorem stable_p (W : World) (hR : Rw w vs blk (Array.range N) W) :
    Calls Try.prog 72 #[.slice (some ⟨blk, 0, none⟩) N cap, .int .i64 (N : Int), .func (.func 56) #[] #[]] W fun x w' => x = .returned (.tuple #[]) ∧ ∃ d', PermIn 0 N (Array.range N) d' ∧ SortedIn (ltR l) 0 N d' ∧ Rw w vs blk d' w' := by
  have KI := Lib.hid (fun (d : Array Nat) (a q e : Nat) (W : World) => @ins_ok w B blk cap N vs l S hsz d a q e W)
  have KM := Lib.hid (fun (d : Array Nat) (a m b q bs C : Nat) (W : World) => @mrg_ok w B blk cap N vs l S hsz d a m b q bs C W)
  have KR := Lib.hid (fun (d : Array Nat) (a q bs C : Nat) => prt_rest (l := l) (N := N) (d := d) (a := a) (q := q) (bs := bs) (C := C))
  have HR := Lib.hid hR
  clear hR S
  go_enter Try.func72, Try.ntmps72
  go_wp2_with fail
  go_loopw [7, 8] (fun av bv wr => ∃ (q a b : Nat) (d : Array Nat), a = 20 * q ∧ b = a + 20 ∧ a ≤ N ∧ av = .int .i64 (a : Int) ∧ bv = .int .i64 (b : Int) ∧ Hid (Prt l N d 1 20 a) ∧ Hid (Rw w vs blk d wr)) (fun av _ _ => N + 20 - (intOf av).toNat)
  case atStart => exact ⟨0, 0, 20, Array.range N, rfl, rfl, Nat.zero_le _, rfl, rfl, prt_start l N 20, HR.out⟩
  case round =>
    obtain ⟨q, a, b, d, ha, hb, haN, rfl, rfl, HP, HRW⟩ := hrel
    have HA := Lib.hid ha
    have HB := Lib.hid hb
    clear ha hb
    by_cases hbN : b ≤ N
    · have g1 : (b : Int) ≤ (N : Int) := by omega
      have wb : IntKind.i64.wrap ((b : Int) + 20) = ((b + 20 : Nat) : Int) := by rw [IntWalk.i64_in _ (by omega)]; omega
      have K := Lib.hid (KI.out d a q b wr HA.out HP.out (by have := HB.out; omega) (by have := HB.out; omega) hbN HRW.out)
      go_wp2_with fail
      with_reducible refine K.out.mono ?_
      rintro e w1 ⟨rfl, d', hp, hr⟩
      have HP1 := Lib.hid hp
      have HR1 := Lib.hid hr
      clear hp hr
      go_wp2_with fail
      refine ⟨⟨q + 1, b, b + 20, d', ?_, rfl, hbN, rfl, rfl, HP1.out, HR1.out⟩, ?_⟩
      · have := HA.out; have := HB.out; omega
      · have := HB.out; simp [intOf]; omega
    · have g1 : ¬ (b : Int) ≤ (N : Int) := by omega
      have K := Lib.hid (KI.out d a q N wr HA.out HP.out haN (by have := HB.out; omega) (Nat.le_refl _) HRW.out)
      go_wp2_with fail
      with_reducible refine K.out.mono ?_
      rintro e w1 ⟨rfl, d', hp, hr⟩
      have HP1 := Lib.hid (hp.next 0)
      have HR1 := Lib.hid hr
      clear hp hr K HP HRW HA HB haN hbN g1
      go_wp2_with fail
      go_loopw [6, 7, 8, 9] (fun sv av bv mv wr => ∃ (bs : Nat) (d : Array Nat), 20 ≤ bs ∧ bs ≤ 2000000 ∧ sv = .int .i64 (bs : Int) ∧ Hid (Prt l N d bs 0 0) ∧ Hid (Rw w vs blk d wr)) (fun sv _ _ _ _ => N - (intOf sv).toNat)
      case atStart => exact ⟨20, d', by omega, by omega, rfl, HP1.out, HR1.out⟩
      case round =>
        obtain ⟨bs, d, hb1, hb2, rfl, HP, HRW⟩ := hrel
        by_cases hbN : bs < N
        · have g1 : (bs : Int) < (N : Int) := by omega
          obtain ⟨C, hC⟩ : ∃ C, C = bs * 2 := ⟨_, rfl⟩
          have wC : IntKind.i64.wrap (2 * (bs : Int)) = (C : Int) := by rw [IntWalk.i64_in _ (by omega)]; omega
          have wC2 : IntKind.i64.wrap ((bs : Int) * 2) = (C : Int) := by rw [IntWalk.i64_in _ (by omega)]; omega
          have HC := Lib.hid hC
          have hCN : C ≤ 2000000 := by omega
          have hC0 : 40 ≤ C := by omega
          have HP0 := Lib.hid (show Prt l N d bs C 0 from ⟨HP.out.sz, HP.out.perm, fun k g1 g2 => absurd g2 (by omega), HP.out.hi⟩)
          clear hC HP HP1 HR1 HR
          go_wp2_with fail
          go_loopw [7, 8] (fun av bv wr => ∃ (q a b : Nat) (d : Array Nat), a = C * q ∧ b = a + C ∧ a ≤ N ∧ av = .int .i64 (a : Int) ∧ bv = .int .i64 (b : Int) ∧ Hid (Prt l N d bs C a) ∧ Hid (Rw w vs blk d wr)) (fun av _ _ => N + C - (intOf av).toNat)
          case atStart => exact ⟨0, 0, C, d, rfl, (Nat.zero_add C).symm, Nat.zero_le _, rfl, rfl, HP0.out, HRW.out⟩
          case round =>
            obtain ⟨q, a, b, d, ha, hb, haN, rfl, rfl, HP, HRW⟩ := hrel
            obtain ⟨m, hm⟩ : ∃ m, m = a + bs := ⟨_, rfl⟩
            have wm : IntKind.i64.wrap ((a : Int) + (bs : Int)) = (m : Int) := by rw [IntWalk.i64_in _ (by omega)]; omega
            have HA := Lib.hid ha
            have HB := Lib.hid hb
            have HM := Lib.hid hm
            clear ha hb hm
            by_cases hbN : b ≤ N
            · have g1 : (b : Int) ≤ (N : Int) := by omega
              obtain ⟨b2, hb2⟩ : ∃ b2, b2 = b + C := ⟨_, rfl⟩
              have wb : IntKind.i64.wrap ((b : Int) + (C : Int)) = (b2 : Int) := by rw [IntWalk.i64_in _ (by omega)]; omega
              have HB2 := Lib.hid hb2
              clear hb2
              have K := Lib.hid (KM.out d a m b q bs C wr (by omega) HC.out HA.out HM.out HP.out (by have := HB.out; have := HM.out; have := HC.out; omega) (by have := HB.out; omega) hbN HRW.out)
              go_wp2_with fail
              with_reducible refine K.out.mono ?_
              rintro e w1 ⟨rfl, d', hp, hr⟩
              have HP1 := Lib.hid hp
              have HR1 := Lib.hid hr
              clear hp hr
              go_wp2_with fail
              refine ⟨⟨q + 1, b, b2, d', ?_, HB2.out, hbN, rfl, rfl, HP1.out, HR1.out⟩, ?_⟩
              · have := HA.out; have := HB.out; rw [Nat.mul_succ]; omega
              · have := HB.out; simp [intOf]; omega
            · have g1 : ¬ (b : Int) ≤ (N : Int) := by omega
              by_cases hmN : m < N
              · have g2 : (m : Int) < (N : Int) := by omega
                have K := Lib.hid (KM.out d a m N q bs C wr (by omega) HC.out HA.out HM.out HP.out hmN (by have := HB.out; omega) (Nat.le_refl _) HRW.out)
                go_wp2_with fail
                with_reducible refine K.out.mono ?_
                rintro e w1 ⟨rfl, d', hp, hr⟩
                have HP1 := Lib.hid (hp.next 0)
                have HR1 := Lib.hid hr
                clear hp hr
                go_wp2_with fail
                refine ⟨⟨C, d', by omega, hCN, rfl, HP1.out, HR1.out⟩, ?_⟩
                have := HC.out; simp [intOf]; omega
              · have g2 : ¬ (m : Int) < (N : Int) := by omega
                have HP1 := Lib.hid ((KR.out d a q bs C (by omega) HC.out HA.out haN HP.out (by have := HM.out; omega)).next 0)
                go_wp2_with fail
                refine ⟨⟨C, d, by omega, hCN, rfl, HP1.out, HRW.out⟩, ?_⟩
                have := HC.out; simp [intOf]; omega
        · have g1 : ¬ (bs : Int) < (N : Int) := by omega
          go_wp2_with fail
          go_end0
          exact ⟨rfl, d, HP.out.perm, blk_sorted HP.out.hi (by omega), HRW.out⟩
end
end Go.Proofs.Ytpjllppbpnkemaa

/- Choices of the program. -/
namespace Go.Proofs.Ytpjllppbpnkemaa
open Go.Shelf Go.RowKit Go.Lib Go.Sort

def ordN (l : List (List Int)) : List Nat := (List.range l.length).mergeSort (fun x y => !ltR l y x)
/-- the list by the sum, then by the place -/
def sortL (l : List (List Int)) : List (List Int) := (ordN l).map fun i => l.getD i []
def chosL (p : List El) : List (List Int) := if posE p = 0 then sortL (lexN (gapsV p) []) else []
theorem ordN_perm (l : List (List Int)) : (ordN l).Perm (List.range l.length) := List.mergeSort_perm _ _
theorem sortL_len (l : List (List Int)) : (sortL l).length = l.length := by
  unfold sortL
  rw [List.length_map, (ordN_perm l).length_eq, List.length_range]
theorem ordN_lt {l : List (List Int)} {i : Nat} (h : i ∈ ordN l) : i < l.length := by
  have := (ordN_perm l).mem_iff.1 h
  simpa using this
theorem ordN_of {l : List (List Int)} {d : Array Nat} (hp : PermIn 0 l.length (Array.range l.length) d) (hs : SortedIn (ltR l) 0 l.length d) : d.toList = ordN l := by
  have := sorted_unique_holds (lt := ltR l) (ltR_swo l) (fun x y h1 h2 => by
    unfold ltR at h1 h2
    rw [decide_eq_false_iff_not] at h1 h2
    omega) (Array.range l.length) d (by simpa using hp) (by simpa using hs)
  rw [this]
  simp [ordN]
theorem range_enc (vs : List Value) : (List.range vs.length).map (encN vs) = vs := by
  apply List.ext_getElem
  · simp
  · intro i h1 h2
    simp [encN, h2]
set_option maxRecDepth 100000 in
theorem stableFunc_p {w : World} {base B : Nat} {v : Value} {l : List (List Int)} (h : Lists w base B v l) (hl : l ≠ []) (hs : ∀ c ∈ l, Small c) (hn : l.length ≤ 1000000) :
    Calls Try.prog 55 #[v, .func (.func 56) #[] #[]] w fun e w' => e = .returned (.tuple #[]) ∧ Lists w' base B v (sortL l) ∧ Below base w w' := by
  obtain ⟨vs, hr, he⟩ := h
  have hvl : vs.length = l.length := he.1
  have hr2 : w.ownsRow base 34 1 v l.length ((List.range l.length).map (encN vs)) := by rw [← hvl, range_enc]; rw [hvl]; exact hr
  have hne : v ≠ .slice none 0 0 := by
    rintro rfl
    rcases hr.2 with ⟨_, e0⟩ | ⟨g, cap, cur, e, _⟩
    · exact hl (List.eq_nil_of_length_eq_zero e0)
    · cases e
  obtain ⟨g, cap, rfl, hb, hg, _, _, _, hH⟩ := holds_of_ownsRow hr2 hne
  have hblk : ∃ cs fr, w.heap[g]? = some (.cells cs 34 fr) := by
    rcases hr.2 with ⟨e, _⟩ | ⟨g', cap', cur, e, _, hgg, _⟩
    · cases e
    · cases e; exact ⟨_, _, hgg⟩
  have hra : (List.range l.length).toArray = Array.range l.length := by simp
  rw [hra] at hH
  have S : SC w B vs l g (Array.range l.length) := ⟨he, hs, hblk, hH⟩
  have K := Lib.hid (stable_p (cap := cap) S hn w ⟨0, by rw [putRow_self _ _ _ _ _ hH]; rfl⟩)
  have fin : ∀ w', (∃ d', PermIn 0 l.length (Array.range l.length) d' ∧ SortedIn (ltR l) 0 l.length d' ∧ Rw w vs g d' w') → Lists w' base B (.slice (some ⟨g, 0, none⟩) l.length cap) (sortL l) ∧ Below base w w' := by
    rintro w' ⟨d', hp, hso, q, rfl⟩
    have hd := ordN_of hp hso
    have hdl : d'.toList.length = l.length := by rw [hd, ← sortL_len l]; simp [sortL]
    have e1 : (putRow (encN vs) w g 0 d').drewN q = putRow (encN vs) (Sort.ahead w q) g 0 d'.toList.toArray := by
      have := putRow_drewN (enc := encN vs) w 0 q g 0 d'
      rw [Nat.zero_add] at this
      exact this
    rw [e1]
    have ho := ownsRow_putRow (q := q) hr2 hdl (Nat.le_refl _)
    rw [List.take_of_length_le (by omega)] at ho
    refine ⟨⟨d'.toList.map (encN vs), by rw [sortL_len]; exact ho, by rw [List.length_map, sortL_len, hdl], fun i h1 h2 => ?_⟩, below_putRow (Below.refl _ _) hb⟩
    have hk : ∀ (k : Nat) (c : Array Value), w.heap[k]? = some (.cells c 3) → (putRow (encN vs) (Sort.ahead w q) g 0 d'.toList.toArray).heap[k]? = some (.cells c 3) := fun k c hk => by
      obtain ⟨cs, fr, hbk⟩ := hblk
      have hne : k ≠ g := by rintro rfl; rw [hbk] at hk; cases hk
      unfold putRow mapBlock Sort.ahead
      simp only
      rw [Array.getElem?_modify, if_neg (Ne.symm hne)]
      exact hk
    have hx : i < (ordN l).length := by simpa [sortL] using h1
    have e2 : d'.toList[i]'(by rw [hd]; exact hx) = (ordN l)[i] := by simp only [hd]
    have e3 : (sortL l)[i] = l.getD (ordN l)[i] [] := by simp [sortL]
    rw [List.getElem_map, e2, e3]
    exact elems_getD (he.keep hk) _
  have HF := Lib.hid fin
  clear fin hH hr hr2 hblk S he hs hl hne hra
  go_enter Try.func55, Try.ntmps55
  go_wp2_with fail
  with_reducible refine K.out.mono ?_
  rintro e w1 ⟨rfl, hd⟩
  have HD := Lib.hid hd
  clear hd
  go_wp2_with fail
  go_end0
  exact ⟨rfl, HF.out _ HD.out⟩
def ChoP (p : List El) (w : World) (e : Ending) (w' : World) : Prop := ∃ v, e = .returned (.tuple #[v, .int .i64 (posE p)]) ∧ Lists w' w.heap.size w.heap.size v (chosL p) ∧ Below w.heap.size w w'
theorem lists_nil (w : World) (a b : Nat) : Lists w a b (.slice none 0 0) [] := ⟨[], World.ownsRow_nil _ _ _ _, rfl, fun i h => absurd h (by simp)⟩
set_option maxRecDepth 100000 in
set_option maxHeartbeats 4000000 in
theorem choices_p (v : Value) (p : List El) (w : World) (h : Pats w v p) : Calls Try.prog 22 #[v] w (ChoP p w) := by
  have KP := Lib.hid (positions_p v p w h)
  have HP := Lib.hid h
  obtain ⟨a, cap, rfl⟩ := Row.form2 h
  unfold PosP at KP
  by_cases h0 : posE p = 0
  · have hc : chosL p = sortL (lexN (gapsV p) []) := if_pos h0
    obtain ⟨hce, hps⟩ := posE_ok h0
    obtain ⟨hok, hcnt⟩ := cntE_ok hce
    have hG := hok.gaps
    rw [← lexN_count hG] at hcnt
    have hln : (lexN (gapsV p) []) ≠ [] := by
      have h1 := (prodTo_mono hG (Nat.zero_le (gapsV p).length) (Nat.le_refl _))
      have h2 : 1 ≤ ((lexN (gapsV p) []).length : Int) := by rw [lexN_count hG]; omega
      intro e; rw [e] at h2; simp at h2
    have HSM := Lib.hid (fun c hc => (lexN_small hG (d := c) hc).1)
    have HLN := Lib.hid hln
    have HC := Lib.hid hc
    have HG := Lib.hid hG
    have hl5 := hok.le
    have HCT := Lib.hid (show (lexN (gapsV p) []).length ≤ 1000000 by omega)
    have HE := Lib.hid h0
    have KG := Lib.hid (fun (w1 : World) (hb : Below w.heap.size w w1) => gaps_p _ p w1 (Row.below HP.out hb) (by omega))
    rw [h0] at KP
    unfold ChoP
    rw [h0, hc]
    obtain ⟨L, hL⟩ : ∃ L, L = lexN (gapsV p) [] := ⟨_, rfl⟩
    rw [← hL] at HSM HLN HCT ⊢
    have HL := Lib.hid hL
    clear HC HE hL h h0 hc hce hok hG hcnt hln hps hl5
    go_enter Try.func22, Try.ntmps22
    go_wp2_with fail
    with_reducible refine KP.out.mono ?_
    rintro e w1 ⟨rfl, hb1⟩
    have HB1 := Lib.hid hb1
    clear hb1
    have K2 := Lib.hid (KG.out w1 HB1.out)
    clear KG
    go_wp2_with fail
    with_reducible refine K2.out.mono ?_
    rintro e w2 ⟨gv, rfl, ho, hb2⟩
    have HB2 := Lib.hid (next HB1.out hb2)
    have HO := Lib.hid ho
    obtain ⟨ga, gc, rfl⟩ := Row.form2 (Row.of_owns ho)
    have hs2 := HB2.out.size
    have K3 := Lib.hid (all_p (.slice ga (gapsV p).length gc) w2 ⟨_, _, _, rfl⟩)
    have hs3 : (w2.alloc (.cells #[.slice ga (gapsV p).length gc] 22)).heap.size = w2.heap.size + 1 := by simp
    have hit := all_iter w2.heap.size w.heap.size none (fun k e => by cases e) _ _ HG.out (w2.alloc (.cells #[.slice ga (gapsV p).length gc] 22)) (by omega) (Boxed.new w2 22 _) ((ownsRow_base (base' := 0) ho (Nat.zero_le _)).alloc _)
    rw [← HL.out] at hit
    have K4 := Lib.hid (collect_v 68 _ (enters_of Try.func68 (by kernel_rfl) rfl) w.heap.size L _ hit HCT.out)
    have HB3 := Lib.hid (HB2.out.alloc hs2 (.cells #[.slice ga (gapsV p).length gc] 22))
    obtain ⟨W3, hW3⟩ : ∃ W3, w2.alloc (.cells #[.slice ga (gapsV p).length gc] 22) = W3 := ⟨_, rfl⟩
    rw [hW3] at K3 K4 HB3 hs3
    clear hb2 ho K2 HO hit hW3
    generalize w2.heap.size = G2 at *
    go_wp2_with fail
    with_reducible refine K3.out.mono ?_
    rintro e w3 ⟨rfl, rfl⟩
    go_wp2_with fail
    with_reducible refine K4.out.mono ?_
    rintro e w4 ⟨cv, rfl, hl, hb4⟩
    have HB4 := Lib.hid (next HB3.out hb4)
    have K5 := Lib.hid (stableFunc_p hl HLN.out HSM.out HCT.out)
    obtain ⟨vs, hr, hE⟩ := hl
    obtain ⟨ca, cc, rfl⟩ := Row.form2 (Row.of_owns hr)
    clear hr hE hb4 K3 K4
    go_wp2_with fail
    with_reducible refine K5.out.mono ?_
    rintro e w5 ⟨rfl, hl5, hb5⟩
    have HL5 := Lib.hid hl5
    have HB5 := Lib.hid hb5
    clear hl5 hb5
    go_wp2_with fail
    go_ret2
    obtain ⟨vs, q1, q2⟩ := HL5.out
    exact ⟨_, rfl, ⟨vs, ownsRow_base q1 (by omega), q2⟩, HB4.out.trans (HB5.out.mono (by omega))⟩
  · have hc : chosL p = [] := if_neg h0
    have HC := Lib.hid hc
    have t1 : (posE p != 0) = true := bne_iff_ne.2 h0
    unfold ChoP
    rw [hc]
    generalize posE p = E at *
    clear h h0 hc
    go_enter Try.func22, Try.ntmps22
    go_wp2_with fail
    with_reducible refine KP.out.mono ?_
    rintro e w1 ⟨rfl, hb1⟩
    have HB1 := Lib.hid hb1
    clear hb1
    go_wp2_with fail
    go_ret2
    exact ⟨_, rfl, lists_nil _ _ _, HB1.out⟩
end Go.Proofs.Ytpjllppbpnkemaa

/- Lanes, lines of classes, rules of lines: how they lie in memory. -/
namespace Go.Proofs.Ytpjllppbpnkemaa
open Go.RowKit

/-- a lane: its rule, its first position, its length -/
abbrev Ln := Int × Int × Int
def lcells : List Ln → List Value
  | [] => []
  | x :: t => .int .i64 x.1 :: .int .i64 x.2.1 :: .int .i64 x.2.2 :: lcells t
theorem length_lcells : ∀ l : List Ln, (lcells l).length = l.length * 3
  | [] => rfl
  | x :: t => by simp only [lcells, List.length_cons, length_lcells t]; omega
theorem lcells_append : ∀ a b : List Ln, lcells (a ++ b) = lcells a ++ lcells b
  | [], _ => rfl
  | x :: t, b => by simp only [lcells, List.cons_append, lcells_append t b]
theorem lcells_at : ∀ (l : List Ln) (i : Nat) (h : i < l.length), (lcells l)[i * 3]? = some (.int .i64 l[i].1) ∧ (lcells l)[i * 3 + 1]? = some (.int .i64 l[i].2.1) ∧ (lcells l)[i * 3 + 2]? = some (.int .i64 l[i].2.2)
  | x :: t, 0, _ => ⟨rfl, rfl, rfl⟩
  | x :: t, i + 1, h => by
    have := lcells_at t i (by simpa using h)
    simpa [lcells, Nat.add_mul] using this
theorem lcells_one : ∀ l : List Ln, ∀ v ∈ lcells l, v.oneCell' = true
  | [], _, h => by simp [lcells] at h
  | x :: t, v, h => by
    simp only [lcells, List.mem_cons] at h
    rcases h with rfl | rfl | rfl | h
    · rfl
    · rfl
    · rfl
    · exact lcells_one t v h

/-- cells of a slice value that reads as cells -/
theorem Row.cellAt {w : World} {size n : Nat} {v : Value} {xs : List Value} (h : Row w size v n xs) {i : Nat} (hi : i < n) (hs : 0 < size) :
    ∃ g o cap, v = .slice (some ⟨g, o, none⟩) n cap ∧ g < w.heap.size ∧ ∀ j, j < size → w.cell? ⟨g, o + i * size + j, none⟩ = xs[i * size + j]? := by
  obtain ⟨h1, _, a, cap, rfl, _, h2⟩ := h
  rcases h2 with h0 | ⟨g, o, rfl, hc⟩
  · omega
  · have hm : ∀ j, j < size → i * size + j < n * size := fun j hj => by
      have : (i + 1) * size ≤ n * size := Nat.mul_le_mul_right _ hi
      rw [Nat.add_mul] at this; omega
    have e0 := hc (i * size + 0) (hm 0 hs)
    have hx : (xs[i * size + 0]?) = some (xs[i * size + 0]'(by rw [h1]; exact hm 0 hs)) := List.getElem?_eq_getElem _
    refine ⟨g, o, cap, rfl, World.block_lt_of_cell? w _ (e0.trans hx), fun j hj => ?_⟩
    rw [Nat.add_assoc]
    exact hc _ (hm j hj)
theorem Row.form {w : World} {size n : Nat} {v : Value} {xs : List Value} (h : Row w size v n xs) : ∃ a cap, v = .slice a n cap := by
  obtain ⟨_, _, a, cap, e, _⟩ := h
  exact ⟨a, cap, e⟩
theorem Row.max {w : World} {size n : Nat} {v : Value} {xs : List Value} (h : Row w size v n xs) : n ≤ 9223372036854775807 := h.2.1

/-- the slice value v reads as a list of lanes -/
def Lanes (w : World) (v : Value) (l : List Ln) : Prop := Row w 3 v l.length (lcells l)
theorem Lanes.below {w w' : World} {v : Value} {l : List Ln} (h : Lanes w v l) (hb : Below w.heap.size w w') : Lanes w' v l := Row.below h hb
theorem Lanes.nil (w : World) : Lanes w (.slice none 0 0) [] := ⟨rfl, by simp, none, 0, rfl, fun _ => rfl, .inl rfl⟩
theorem Lanes.form {w : World} {v : Value} {l : List Ln} (h : Lanes w v l) : ∃ a cap, v = .slice a l.length cap := Row.form h
theorem Lanes.at {w : World} {a : Option Addr} {n cap : Nat} {l : List Ln} (h : Lanes w (.slice a n cap) l) {i : Nat} (hi : i < l.length) :
    ∃ g o, a = some ⟨g, o, none⟩ ∧ g < w.heap.size ∧ w.cell? ⟨g, o + i * 3, none⟩ = some (.int .i64 l[i].1) ∧ w.cell? ⟨g, o + i * 3 + 1, none⟩ = some (.int .i64 l[i].2.1) ∧ w.cell? ⟨g, o + i * 3 + 2, none⟩ = some (.int .i64 l[i].2.2) := by
  obtain ⟨g, o, cap', e, hg, hc⟩ := Row.cellAt h hi (by omega)
  cases e
  obtain ⟨e0, e1, e2⟩ := lcells_at l i hi
  exact ⟨g, o, rfl, hg, (hc 0 (by omega)).trans e0, (hc 1 (by omega)).trans e1, (hc 2 (by omega)).trans e2⟩

/-- the cells of classes -/
def ccells : List CSet → List Value
  | [] => []
  | s :: t => .int .u64 (word s 0 : Int) :: .int .u64 (word s 1 : Int) :: .int .u64 (word s 2 : Int) :: .int .u64 (word s 3 : Int) :: ccells t
theorem length_ccells : ∀ l : List CSet, (ccells l).length = l.length * 4
  | [] => rfl
  | x :: t => by simp only [ccells, List.length_cons, length_ccells t]; omega
theorem ccells_append : ∀ a b : List CSet, ccells (a ++ b) = ccells a ++ ccells b
  | [], _ => rfl
  | x :: t, b => by simp only [ccells, List.cons_append, ccells_append t b]
theorem ccells_at : ∀ (l : List CSet) (i : Nat) (h : i < l.length), (ccells l)[i * 4]? = some (.int .u64 (word l[i] 0 : Int)) ∧ (ccells l)[i * 4 + 1]? = some (.int .u64 (word l[i] 1 : Int)) ∧ (ccells l)[i * 4 + 2]? = some (.int .u64 (word l[i] 2 : Int)) ∧ (ccells l)[i * 4 + 3]? = some (.int .u64 (word l[i] 3 : Int))
  | x :: t, 0, _ => ⟨rfl, rfl, rfl, rfl⟩
  | x :: t, i + 1, h => by
    have := ccells_at t i (by simpa using h)
    simpa [ccells, Nat.add_mul] using this
theorem ccells_one : ∀ l : List CSet, ∀ v ∈ ccells l, v.oneCell' = true
  | [], _, h => by simp [ccells] at h
  | x :: t, v, h => by
    simp only [ccells, List.mem_cons] at h
    rcases h with rfl | rfl | rfl | rfl | h
    · rfl
    · rfl
    · rfl
    · rfl
    · exact ccells_one t v h

/-- the slice value v reads as a line of classes -/
def Line (w : World) (v : Value) (l : List CSet) : Prop := Row w 4 v l.length (ccells l)
theorem Line.below {w w' : World} {v : Value} {l : List CSet} (h : Line w v l) (hb : Below w.heap.size w w') : Line w' v l := Row.below h hb
theorem Line.form {w : World} {v : Value} {l : List CSet} (h : Line w v l) : ∃ a cap, v = .slice a l.length cap := Row.form h
theorem Line.at {w : World} {a : Option Addr} {n cap : Nat} {l : List CSet} (h : Line w (.slice a n cap) l) {i : Nat} (hi : i < l.length) :
    ∃ g o, a = some ⟨g, o, none⟩ ∧ g < w.heap.size ∧ w.cell? ⟨g, o + i * 4, none⟩ = some (.int .u64 (word l[i] 0 : Int)) ∧ w.cell? ⟨g, o + i * 4 + 1, none⟩ = some (.int .u64 (word l[i] 1 : Int)) ∧
      w.cell? ⟨g, o + i * 4 + 2, none⟩ = some (.int .u64 (word l[i] 2 : Int)) ∧ w.cell? ⟨g, o + i * 4 + 3, none⟩ = some (.int .u64 (word l[i] 3 : Int)) := by
  obtain ⟨g, o, cap', e, hg, hc⟩ := Row.cellAt h hi (by omega)
  cases e
  obtain ⟨e0, e1, e2, e3⟩ := ccells_at l i hi
  exact ⟨g, o, rfl, hg, (hc 0 (by omega)).trans e0, (hc 1 (by omega)).trans e1, (hc 2 (by omega)).trans e2, (hc 3 (by omega)).trans e3⟩

/-- the slice value v reads as lines -/
def Lines (w : World) (v : Value) (L : List (List CSet)) : Prop :=
  ∃ hs : List Value, Row w 1 v L.length hs ∧ ∀ (i : Nat) (h : i < L.length), ∃ u, hs[i]? = some u ∧ Line w u L[i]
theorem Lines.below {w w' : World} {v : Value} {L : List (List CSet)} (h : Lines w v L) (hb : Below w.heap.size w w') : Lines w' v L := by
  obtain ⟨hs, h1, h2⟩ := h
  exact ⟨hs, h1.below hb, fun i hi => by obtain ⟨u, e, hu⟩ := h2 i hi; exact ⟨u, e, hu.below hb⟩⟩
theorem Lines.form {w : World} {v : Value} {L : List (List CSet)} (h : Lines w v L) : ∃ a cap, v = .slice a L.length cap := by
  obtain ⟨hs, h1, _⟩ := h
  exact h1.form
theorem Lines.max {w : World} {v : Value} {L : List (List CSet)} (h : Lines w v L) : L.length ≤ 9223372036854775807 := by
  obtain ⟨hs, h1, _⟩ := h
  exact h1.max
theorem Lines.at {w : World} {a : Option Addr} {n cap : Nat} {L : List (List CSet)} (h : Lines w (.slice a n cap) L) {i : Nat} (hi : i < L.length) :
    ∃ g o b c, a = some ⟨g, o, none⟩ ∧ g < w.heap.size ∧ w.cell? ⟨g, o + i, none⟩ = some (.slice b L[i].length c) ∧ Line w (.slice b L[i].length c) L[i] := by
  obtain ⟨hs, h1, h2⟩ := h
  obtain ⟨g, o, cap', e, hg, hc⟩ := Row.cellAt h1 hi (by omega)
  cases e
  obtain ⟨u, eu, hu⟩ := h2 i hi
  obtain ⟨b, c, rfl⟩ := hu.form
  have := hc 0 (by omega)
  rw [Nat.mul_one, Nat.add_zero, Nat.add_zero, eu] at this
  exact ⟨g, o, b, c, rfl, hg, this, hu⟩

/-- the slice value v reads as rules -/
def Rules3 (w : World) (v : Value) (R : List (List (List CSet))) : Prop :=
  ∃ hs : List Value, Row w 1 v R.length hs ∧ ∀ (i : Nat) (h : i < R.length), ∃ u, hs[i]? = some u ∧ Lines w u R[i]
theorem Rules3.below {w w' : World} {v : Value} {R : List (List (List CSet))} (h : Rules3 w v R) (hb : Below w.heap.size w w') : Rules3 w' v R := by
  obtain ⟨hs, h1, h2⟩ := h
  exact ⟨hs, h1.below hb, fun i hi => by obtain ⟨u, e, hu⟩ := h2 i hi; exact ⟨u, e, hu.below hb⟩⟩
theorem Rules3.form {w : World} {v : Value} {R : List (List (List CSet))} (h : Rules3 w v R) : ∃ a cap, v = .slice a R.length cap := by
  obtain ⟨hs, h1, _⟩ := h
  exact h1.form
theorem Rules3.max {w : World} {v : Value} {R : List (List (List CSet))} (h : Rules3 w v R) : R.length ≤ 9223372036854775807 := by
  obtain ⟨hs, h1, _⟩ := h
  exact h1.max
theorem Rules3.at {w : World} {a : Option Addr} {n cap : Nat} {R : List (List (List CSet))} (h : Rules3 w (.slice a n cap) R) {i : Nat} (hi : i < R.length) :
    ∃ g o b c, a = some ⟨g, o, none⟩ ∧ g < w.heap.size ∧ w.cell? ⟨g, o + i, none⟩ = some (.slice b R[i].length c) ∧ Lines w (.slice b R[i].length c) R[i] := by
  obtain ⟨hs, h1, h2⟩ := h
  obtain ⟨g, o, cap', e, hg, hc⟩ := Row.cellAt h1 hi (by omega)
  cases e
  obtain ⟨u, eu, hu⟩ := h2 i hi
  obtain ⟨b, c, rfl⟩ := hu.form
  have := hc 0 (by omega)
  rw [Nat.mul_one, Nat.add_zero, Nat.add_zero, eu] at this
  exact ⟨g, o, b, c, rfl, hg, this, hu⟩
end Go.Proofs.Ytpjllppbpnkemaa
