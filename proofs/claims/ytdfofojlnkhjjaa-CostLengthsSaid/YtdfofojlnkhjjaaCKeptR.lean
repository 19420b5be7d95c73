/- Layer 31: Kept of the reference; the closure of cost.Kept; cost.Kept. -/
import Derived.Test.YtdfofojlnkhjjaaCKept
namespace Go.Proofs.Ytdfofojlnkhjjaa
open Go.RowKit Go.Shelf

theorem feed1000_r {b k l s r : Int} (hz : slotOk b k l s r = true) {h : Nat} (h1 : 1 ≤ h) (h2 : h ≤ 32) (w : World) :
    Calls Try.prog 17 #[cfgV b (h : Int) l, shpV s r, .int .i64 1000] w fun e w' => e = .returned (.tuple #[.int .i64 (stepsAt b s r (h : Int)), .int .i64 0]) ∧ Below w.heap.size w w' := by
  obtain ⟨e1, e2⟩ := fd1000 hz (h := (h : Int)) (by omega) (by omega)
  have := feed_r b (h : Int) l s r 1000 w
  rwa [e1, e2] at this

set_option maxRecDepth 100000 in
set_option maxHeartbeats 2000000 in
theorem kept_r (b k l s r st : Int) (w : World) :
    Calls Try.prog 26 #[cfgV b k l, shpV s r, .int .i64 st] w fun e w' => e = .returned (.tuple #[.int .i64 (kpV b k l s r st), .int .i64 (kpE b k l s r st)]) ∧ Below w.heap.size w w' := by
  have C1 := Lib.hid (fun w => slots_r b k l s r w)
  have HP := Lib.hid (Plain.start w b k l s r)
  by_cases hz : slotOk b k l s r = true
  · have F := fine hz
    have CF := Lib.hid (fun (h : Nat) (h1 : 1 ≤ h) (h2 : h ≤ 32) (w : World) => feed1000_r hz h1 h2 w)
    have SB := Lib.hid (fun (h : Nat) (h1 : 1 ≤ h) (h2 : h ≤ 32) => steps_bd F (h := (h : Int)) (by omega) (by omega))
    unfold kpV kpE
    rw [show slotE b k l s r = 0 by unfold slotE; rw [if_pos hz]] at C1
    rw [if_pos hz]
    by_cases hst : st < 0
    · rw [if_neg (by omega), if_pos hst]
      generalize slotV b k l s r = q at *
      obtain ⟨⟨d0, d1, d2⟩, ⟨d3, d4⟩, _⟩ := HP.out.cells
      clear F hz
      unfold cfgV shpV at *
      go_enter Try.func26, Try.ntmps26
      go_wp2_with fail
      refine (C1.out _).mono ?_
      rintro e w1 ⟨rfl, hb1⟩
      have HP1 := Lib.hid (HP.out.keep hb1 rfl)
      clear d0 d1 d2 d3 d4 hb1
      go_wp2_with fail
      go_ret2
      exact ⟨rfl, HP1.out.bel⟩
    · rw [if_pos ⟨hz, by omega⟩, if_neg hst]
      have hF : ∃ F : Int → Int, F = stepsAt b s r := ⟨_, rfl⟩
      obtain ⟨G, hG⟩ := hF
      rw [← hG] at CF SB ⊢
      generalize hE : (if keptN G st 32 = 0 then (4 : Int) else 0) = E
      have HE := Lib.hid hE
      clear hE
      generalize hK0 : keptN G st 32 = K at *
      have HK0 := Lib.hid hK0
      clear hK0
      generalize slotV b k l s r = q at *
      clear F hz hG
      obtain ⟨⟨d0, d1, d2⟩, ⟨d3, d4⟩, _⟩ := HP.out.cells
      unfold cfgV shpV at *
      go_enter Try.func26, Try.ntmps26
      go_wp2_with fail
      refine (C1.out _).mono ?_
      rintro e w1 ⟨rfl, hb1⟩
      have HP1 := Lib.hid (HP.out.keep hb1 rfl)
      clear d0 d1 d2 d3 d4 hb1
      go_wp2_with fail
      go_loopw [10] (fun iv wr => ∃ i : Nat, i ≤ 32 ∧ iv = .int .i64 (i : Nat) ∧ K = keptN G st i ∧ ∃ kk, Plain w w.heap.size b kk l s r wr) (fun iv _ => (intOf iv).toNat)
      case atStart => exact ⟨32, by omega, rfl, HK0.out.symm, k, HP1.out⟩
      case round =>
        obtain ⟨i, hi, rfl, hk, kk, hP⟩ := hrel
        have HK := Lib.hid hk
        have HPr := Lib.hid hP
        clear hk hP
        cases i with
        | zero =>
          go_wp2_with fail
          go_ret2
          rw [← HE.out, HK.out]
          exact ⟨rfl, HPr.out.bel⟩
        | succ i =>
          have hP2 := HPr.out.put (((i + 1 : Nat) : Int))
          have HP2 := Lib.hid hP2
          clear hP2
          obtain ⟨⟨d0, d1, d2⟩, ⟨d3, d4⟩, f1⟩ := HPr.out.cells
          have hc := CF.out (i + 1) (by omega) (by omega)
          have hs := SB.out (i + 1) (by omega) (by omega)
          have h1 : (1 : Int) ≤ ((i + 1 : Nat) : Int) := by omega
          have hsub : ((i + 1 : Nat) : Int) - 1 = (i : Int) := by omega
          have hstep : keptN G st (i + 1) = if G ((i + 1 : Nat) : Int) ≤ st then i + 1 else keptN G st i := by
            rw [keptN, show ((i : Nat) : Int) + 1 = ((i + 1 : Nat) : Int) by omega]
          rw [hstep] at HK
          clear hstep
          have HC := Lib.hid hc
          clear hc
          generalize hN : ((i + 1 : Nat) : Int) = N at *
          have HN := Lib.hid hN
          clear hN
          generalize G N = g at *
          go_wp2_with fail
          refine (HC.out _).mono ?_
          rintro e w2 ⟨rfl, hb2⟩
          have HP3 := Lib.hid (HP2.out.keep hb2 rfl)
          clear d0 d1 d2 d3 d4 f1 hb2
          by_cases hle : g ≤ st
          · rw [if_pos hle] at HK
            have hne : ¬ i + 1 = 0 := by omega
            go_wp2_with fail
            go_ret2
            rw [← HE.out, HK.out, if_neg hne, ← HN.out]
            exact ⟨rfl, HP3.out.bel⟩
          · rw [if_neg hle] at HK
            go_wp2_with fail
            exact ⟨⟨i, by omega, by rw [← hsub], HK.out, _, HP3.out⟩, by have := HN.out; simp [intOf]; omega⟩
  · unfold kpV kpE
    rw [show slotE b k l s r = 7 by unfold slotE; rw [if_neg hz]] at C1
    rw [if_neg hz, if_neg (fun h => hz h.1)]
    generalize slotV b k l s r = q at *
    clear hz
    obtain ⟨⟨d0, d1, d2⟩, ⟨d3, d4⟩, _⟩ := HP.out.cells
    unfold cfgV shpV at *
    go_enter Try.func26, Try.ntmps26
    go_wp2_with fail
    refine (C1.out _).mono ?_
    rintro e w1 ⟨rfl, hb1⟩
    have HP1 := Lib.hid (HP.out.keep hb1 rfl)
    clear d0 d1 d2 d3 d4 hb1
    go_wp2_with fail
    go_ret2
    exact ⟨rfl, HP1.out.bel⟩

end Go.Proofs.Ytdfofojlnkhjjaa
