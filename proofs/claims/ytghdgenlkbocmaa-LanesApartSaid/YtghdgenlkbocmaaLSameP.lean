/- Layer 17: are two plans equal. -/
import Derived.Test.YtghdgenlkbocmaaLSame
namespace Go.Proofs.Ytghdgenlkbocmaa
open Go.RowKit

structure TwoM (w : World) (W X : Int) (u v : Value) (wr : World) : Prop where
  one : PAt wr w.heap.size (.int .i64 W) u
  two : PAt wr (w.heap.size + 1) (.int .i64 X) v
  bel : Below w.heap.size w wr
theorem TwoM.start (w : World) (W X : Int) (u v : Value) : TwoM w W X u v ((w.alloc (.cells #[.int .i64 W, u] 27)).alloc (.cells #[.int .i64 X, v] 27)) := by
  have h1 := PAt.new (w.alloc (.cells #[.int .i64 W, u] 27)) (.int .i64 X) v
  rw [World.size_alloc] at h1
  exact ⟨(PAt.new w _ _).alloc _, h1, ((Below.refl _ _).alloc (Nat.le_refl _) _).alloc (by simp) _⟩
theorem TwoM.drewN {w wr : World} {W X : Int} {u v : Value} (h : TwoM w W X u v wr) (n : Nat) : TwoM w W X u v (wr.drewN n) :=
  ⟨h.one.below (below_drewN (Below.refl _ _) n) h.one.lt, h.two.below (below_drewN (Below.refl _ _) n) h.two.lt, below_drewN h.bel n⟩

set_option maxRecDepth 100000 in
set_option maxHeartbeats 2000000 in
theorem same_r (W X : Int) (u v : Value) (l m : List Ln) (w : World) (hu : Lanes w u l) (hv : Lanes w v m) :
    Calls Try.prog 13 #[.agg #[.int .i64 W, u], .agg #[.int .i64 X, v]] w fun e w' => e = .returned (.bool (decide (W = X ∧ l = m))) ∧ Below w.heap.size w w' := by
  obtain ⟨a, cap, rfl⟩ := hu.form
  obtain ⟨b, cap2, rfl⟩ := hv.form
  have hm1 := Row.max hu
  have hm2 := Row.max hv
  have HU := Lib.hid hu
  have HV := Lib.hid hv
  have HM := Lib.hid (TwoM.start w W X (.slice a l.length cap) (.slice b m.length cap2))
  clear hu hv
  generalize hD : decide (W = X ∧ l = m) = D
  have HD := Lib.hid hD
  clear hD
  by_cases hWX : W = X
  · subst hWX
    by_cases hlen : l.length = m.length
    · have t0 : ((l.length : Int) != (m.length : Int)) = false := by rw [bne_eq_false_iff_eq]; omega
      have HLEN := Lib.hid hlen
      clear hlen
      go_enter Try.func13, Try.ntmps13
      go_wp2_with fail
      clear t0
      go_loopw [5] (fun iv wr => ∃ i : Nat, i ≤ l.length ∧ iv = .int .i64 (i : Nat) ∧ (∀ (j : Nat) (h1 : j < l.length) (h2 : j < m.length), j < i → l[j] = m[j]) ∧ TwoM w W W (.slice a l.length cap) (.slice b m.length cap2) wr) (fun iv _ => l.length - (intOf iv).toNat)
      case atStart => exact ⟨0, by omega, rfl, fun j _ _ h => absurd h (Nat.not_lt_zero _), HM.out⟩
      case round =>
        obtain ⟨i, hi, rfl, hall, hM⟩ := hrel
        have HA := Lib.hid hall
        have HB := Lib.hid hM
        have hB := hM.bel
        obtain ⟨f0, f1⟩ := hM.one.cells
        obtain ⟨f2, f3⟩ := hM.two.cells
        have i0 : (0 : Int) ≤ (i : Int) := by omega
        clear hall hM
        by_cases hlt : i < l.length
        · have i1 : (i : Int) < (l.length : Int) := by omega
          have hlt2 : i < m.length := by have := HLEN.out; omega
          have i2 : (i : Int) < (m.length : Int) := by omega
          obtain ⟨g, o, rfl, hg, q0, q1, q2⟩ := HU.out.at hlt
          obtain ⟨g2, o2, rfl, hg2, p0, p1, p2⟩ := HV.out.at hlt2
          have c0 := (hB.cell (p := ⟨g, o + i * 3, none⟩) hg).trans q0
          have c1 := (hB.cell (p := ⟨g, o + i * 3 + 1, none⟩) hg).trans q1
          have c2 := (hB.cell (p := ⟨g, o + i * 3 + 2, none⟩) hg).trans q2
          have d0 := (hB.cell (p := ⟨g2, o2 + i * 3, none⟩) hg2).trans p0
          have d1 := (hB.cell (p := ⟨g2, o2 + i * 3 + 1, none⟩) hg2).trans p1
          have d2 := (hB.cell (p := ⟨g2, o2 + i * 3 + 2, none⟩) hg2).trans p2
          clear q0 q1 q2 p0 p1 p2 hB
          generalize hx : l[i] = x at *
          generalize hy : m[i] = y at *
          have HX := Lib.hid hx
          have HY := Lib.hid hy
          clear hx hy
          have hne := fun w => run_ne_lane w x y
          by_cases hxy : x = y
          · rw [decide_eq_true hxy] at hne
            have HXY := Lib.hid hxy
            clear hxy
            go_wp2_with fail
            go_quiet (fail)
            clear hne
            go_wp2_with fail
            exact ⟨⟨i + 1, by omega, by go_num, fun j h1 h2 hj => by
              by_cases e : j = i
              · subst e; rw [HX.out, HY.out]; exact HXY.out
              · exact HA.out j h1 h2 (by omega), HB.out.drewN _⟩, by simp [intOf]; omega⟩
          · rw [decide_eq_false hxy] at hne
            have hf : D = false := by
              rw [← HD.out]
              refine decide_eq_false fun h => hxy ?_
              rw [← HX.out, ← HY.out]
              simp only [h.2]
            subst hf
            clear hxy
            go_wp2_with fail
            go_quiet (fail)
            clear hne
            go_wp2_with fail
            go_ret
            exact ⟨rfl, (HB.out.drewN _).bel⟩
        · have i1 : ¬ (i : Int) < (l.length : Int) := by omega
          have ht : D = true := by
            rw [← HD.out]
            exact decide_eq_true ⟨trivial, ext_lanes HLEN.out fun j h1 h2 => HA.out j h1 h2 (by omega)⟩
          subst ht
          clear hB
          go_wp2_with fail
          go_ret
          exact ⟨rfl, HB.out.bel⟩
    · have t0 : ((l.length : Int) != (m.length : Int)) = true := bne_iff_ne.2 (by omega)
      have hf : D = false := by rw [← HD.out]; exact decide_eq_false fun h => hlen (by rw [h.2])
      subst hf
      clear hlen
      go_enter Try.func13, Try.ntmps13
      go_wp2_with fail
      go_ret
      exact ⟨by first | rfl | trivial, HM.out.bel⟩
  · have t0 : (W != X) = true := bne_iff_ne.2 hWX
    have hf : D = false := by rw [← HD.out]; exact decide_eq_false fun h => hWX h.1
    subst hf
    clear hWX
    go_enter Try.func13, Try.ntmps13
    go_wp2_with fail
    go_ret
    exact ⟨by first | rfl | trivial, HM.out.bel⟩
end Go.Proofs.Ytghdgenlkbocmaa
