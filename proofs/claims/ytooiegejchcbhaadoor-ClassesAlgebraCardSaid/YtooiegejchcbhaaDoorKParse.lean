/- classes.Parse. -/
import Derived.Test.YtooiegejchcbhaaDoorKPrefP
namespace Go.Proofs.YtooiegejchcbhaaDoor
open Go.RowKit

set_option maxRecDepth 100000 in
set_option maxHeartbeats 4000000 in
theorem parse_p (t : List UInt8) (ht : t.length ≤ 1000000000) (w : World) : Calls Tryd.prog 11 #[.string (str t)] w (PrefP (parseV t) w) := by
  have hst := size_str t
  have KP := Lib.hid (fun w => prefix_p t ht w)
  have hs0 := SetAt.zero w
  have hB0 : Below w.heap.size w (w.alloc (.cells #[.int .u64 0, .int .u64 0, .int .u64 0, .int .u64 0] 24)) := (Below.refl w.heap.size w).alloc (Nat.le_refl _) _
  have HA0 := Lib.hid hs0
  have HB0 := Lib.hid hB0
  have hlt0 := hs0.lt
  clear hs0 hB0
  have fin : ∀ (S : CSet) (n : Nat) (e : Int) (W : World) (a : Act), SetAt W w.heap.size S → Below w.heap.size w W → a.tmps[2]?.getD undef = .pointer (some ⟨w.heap.size, 0, none⟩) → a.tmps[3]?.getD undef = .int .i64 (n : Int) → a.tmps[4]?.getD undef = .int .i64 e → a.defers = [] →
      bodyPost Tryd.prog Tryd.f11 (PrefP (S, n, e) w) .ret a W := by
    intro S n e W a hW hB h2 h3 h4 hd
    obtain ⟨q0, q1, q2, q3⟩ := hW.cells
    exact bodyPost_ret (v := .tuple #[setV S, .int .i64 (n : Int), .int .i64 e]) (by simp [results, Tryd.results11, go_sem, h2, h3, h4, q0, q1, q2, q3, setV, setC]) hd ⟨rfl, hB⟩
  have FIN := Lib.hid fin
  clear fin
  obtain ⟨V, hV⟩ : ∃ V, V = parseV t := ⟨_, rfl⟩
  rw [← hV]
  unfold parseV at hV
  generalize prefixV t = R at *
  obtain ⟨S, n, e⟩ := R
  simp only at hV
  have HV := Lib.hid hV
  clear hV
  go_enter Tryd.func11, Tryd.ntmps11
  go_wp2_with fail
  refine (KP.out _).mono ?_
  rintro e1 w1 ⟨rfl, hb1⟩
  have hs1 := HA0.out.below hb1 hlt0
  have HS1 := Lib.hid hs1
  have HB1 := Lib.hid (next HB0.out hb1)
  have hp := HS1.out.put S
  unfold putSet at hp
  obtain ⟨x0, x1, x2, x3⟩ := hs1.cells
  obtain ⟨y0, y1, y2, y3⟩ := hs1.free
  obtain ⟨z0, z1, z2, z3⟩ := hp.cells
  obtain ⟨u0, u1, u2, u3⟩ := hp.free
  clear hb1 hs1 hp HA0 HB0 KP
  unfold setV setC
  by_cases h1 : e ≠ 0
  · have hV := HV.out
    rw [if_pos h1] at hV
    subst hV
    have t1 : (e != 0) = true := bne_iff_ne.2 h1
    go_wp2_with fail
    exact FIN.out 0#256 _ _ _ _ ((HS1.out.put S).put 0#256) (below_put (below_put HB1.out (Nat.le_refl _) S) (Nat.le_refl _) 0#256) rfl rfl rfl rfl
  · have hV := HV.out
    rw [if_neg h1] at hV
    have h1' : e = 0 := by omega
    subst h1'
    by_cases h2 : n < t.length
    · rw [if_pos h2] at hV
      subst hV
      have t2 : (n : Int) < (t.length : Int) := by omega
      go_wp2_with fail
      exact FIN.out 0#256 _ _ _ _ ((HS1.out.put S).put 0#256) (below_put (below_put HB1.out (Nat.le_refl _) S) (Nat.le_refl _) 0#256) rfl rfl rfl rfl
    · rw [if_neg h2] at hV
      subst hV
      have t2 : ¬ (n : Int) < (t.length : Int) := by omega
      go_wp2_with fail
      exact FIN.out S 0 _ _ _ ((HS1.out.put S).put S) (below_put (below_put HB1.out (Nat.le_refl _) S) (Nat.le_refl _) S) rfl rfl rfl rfl
end Go.Proofs.YtooiegejchcbhaaDoor
