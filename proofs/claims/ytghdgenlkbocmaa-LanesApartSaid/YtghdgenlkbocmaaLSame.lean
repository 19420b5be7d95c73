/- Layer 17: are plans, lanes, rows equal. -/
import Derived.Test.YtghdgenlkbocmaaLBits
import Derived.Test.YtghdgenlkbocmaaLChk
namespace Go.Proofs.Ytghdgenlkbocmaa
open Go.RowKit

theorem eq_lane (a b c a' b' c' : Int) (w : World) : (Op.equalIn 10000 55 (.agg #[.int .i64 a, .int .i64 b, .int .i64 c]) (.agg #[.int .i64 a', .int .i64 b', .int .i64 c'])).run Try.prog w = .ok (a == a' && (b == b' && c == c')) w := by
  have u3 := Try.underlying3
  have a3 := Try.isAgg3
  have z3 := Try.sizeOf3
  rw [show (10000 : Nat) = 9999 + 1 from rfl, Op.equalIn]
  simp only [Sem.run_bind, run_underlying Try.underlying55, Result.andThen_ok]
  go_simp
  by_cases h1 : a = a' <;> by_cases h2 : b = b' <;> by_cases h3 : c = c' <;> simp [h1, h2, h3]
theorem run_ne_lane (w : World) (x y : Ln) :
    (binOp .neq 55 (.agg #[.int .i64 x.1, .int .i64 x.2.1, .int .i64 x.2.2]) (.agg #[.int .i64 y.1, .int .i64 y.2.1, .int .i64 y.2.2])).run Try.prog w = .ok (.bool (!decide (x = y))) w := by
  have e : (x.1 == y.1 && (x.2.1 == y.2.1 && x.2.2 == y.2.2)) = decide (x = y) := by
    rw [Bool.eq_iff_iff]
    simp only [Bool.and_eq_true, beq_iff_eq, decide_eq_true_eq]
    exact ⟨fun ⟨a, b, c⟩ => Prod.ext a (Prod.ext b c), fun h => by rw [h]; exact ⟨rfl, rfl, rfl⟩⟩
  simp [go_sem, eq_lane, e]

theorem ext_lanes {l m : List Ln} (hl : l.length = m.length) (h : ∀ (i : Nat) (h1 : i < l.length) (h2 : i < m.length), l[i] = m[i]) : l = m := List.ext_getElem hl h

set_option maxRecDepth 100000 in
set_option maxHeartbeats 2000000 in
theorem equal_p (u v : Value) (l m : List Ln) (w : World) (hu : Lanes w u l) (hv : Lanes w v m) :
    Calls Try.prog 41 #[u, v] w fun e w' => e = .returned (.bool (decide (l = m))) ∧ Below w.heap.size w w' := by
  obtain ⟨a, cap, rfl⟩ := hu.form
  obtain ⟨b, cap2, rfl⟩ := hv.form
  have hm1 := Row.max hu
  have hm2 := Row.max hv
  have HU := Lib.hid hu
  have HV := Lib.hid hv
  clear hu hv
  generalize hD : decide (l = m) = D
  have HD := Lib.hid hD
  clear hD
  by_cases hlen : l.length = m.length
  · have t0 : ((l.length : Int) != (m.length : Int)) = false := by rw [bne_eq_false_iff_eq]; omega
    have HLEN := Lib.hid hlen
    clear hlen
    go_enter Try.func41, Try.ntmps41
    go_wp2_with fail
    clear t0
    go_loopw [13] (fun iv wr => ∃ i : Nat, i ≤ l.length ∧ iv = .int .i64 (i : Nat) ∧ (∀ (j : Nat) (h1 : j < l.length) (h2 : j < m.length), j < i → l[j] = m[j]) ∧ Below w.heap.size w wr) (fun iv _ => l.length - (intOf iv).toNat)
    case atStart => exact ⟨0, by omega, rfl, fun j _ _ h => absurd h (Nat.not_lt_zero _), Below.refl _ _⟩
    case round =>
      obtain ⟨i, hi, rfl, hall, hB⟩ := hrel
      have HA := Lib.hid hall
      have HB := Lib.hid hB
      have i0 : (0 : Int) ≤ (i : Int) := by omega
      clear hall
      by_cases hlt : i < l.length
      · have i1 : (i : Int) < (l.length : Int) := by omega
        have hlt2 : i < m.length := by have := HLEN.out; omega
        have i2 : (i : Int) < (m.length : Int) := by omega
        obtain ⟨g, o, rfl, hg, q0, q1, q2⟩ := HU.out.at hlt
        obtain ⟨g2, o2, rfl, hg2, p0, p1, p2⟩ := HV.out.at hlt2
        have c0 := (hB.cell (p := ⟨g, o + i * 3, none⟩) hg).trans q0
        have c1 := (hB.cell (p := ⟨g, o + i * 3 + 1, none⟩) hg).trans q1
        have c2 := (hB.cell (p := ⟨g, o + i * 3 + 2, none⟩) hg).trans q2
        have d0 := (hB.cell (p := ⟨g2, o2 + i * 3, none⟩) hg2).trans p0
        have d1 := (hB.cell (p := ⟨g2, o2 + i * 3 + 1, none⟩) hg2).trans p1
        have d2 := (hB.cell (p := ⟨g2, o2 + i * 3 + 2, none⟩) hg2).trans p2
        clear q0 q1 q2 p0 p1 p2 hB
        generalize hx : l[i] = x at *
        generalize hy : m[i] = y at *
        have HX := Lib.hid hx
        have HY := Lib.hid hy
        clear hx hy
        have hne := fun w => run_ne_lane w x y
        by_cases hxy : x = y
        · rw [decide_eq_true hxy] at hne
          have HXY := Lib.hid hxy
          clear hxy
          go_wp2_with fail
          go_quiet (fail)
          clear hne
          go_wp2_with fail
          exact ⟨⟨i + 1, by omega, by go_num, fun j h1 h2 hj => by
            by_cases e : j = i
            · subst e; rw [HX.out, HY.out]; exact HXY.out
            · exact HA.out j h1 h2 (by omega), below_drewN HB.out _⟩, by simp [intOf]; omega⟩
        · rw [decide_eq_false hxy] at hne
          have hf : D = false := by
            rw [← HD.out]
            refine decide_eq_false fun h => hxy ?_
            rw [← HX.out, ← HY.out]
            simp only [h]
          subst hf
          clear hxy
          go_wp2_with fail
          go_quiet (fail)
          clear hne
          go_wp2_with fail
          go_ret
          exact ⟨rfl, below_drewN HB.out _⟩
      · have i1 : ¬ (i : Int) < (l.length : Int) := by omega
        have ht : D = true := by
          rw [← HD.out]
          exact decide_eq_true (ext_lanes HLEN.out fun j h1 h2 => HA.out j h1 h2 (by omega))
        subst ht
        clear hB
        go_wp2_with fail
        go_ret
        exact ⟨rfl, HB.out⟩
  · have t0 : ((l.length : Int) != (m.length : Int)) = true := bne_iff_ne.2 (by omega)
    have hf : D = false := by rw [← HD.out]; exact decide_eq_false fun h => hlen (by rw [h])
    subst hf
    clear hlen
    go_enter Try.func41, Try.ntmps41
    go_wp2_with fail
    go_ret
    exact ⟨rfl, Below.refl _ _⟩

set_option maxRecDepth 100000 in
set_option maxHeartbeats 2000000 in
/-- rows that are equal -/
theorem sameRow_r (u v : Value) (k : Nat) (s : CSet) (w : World) (hu : URow w u k s) (hv : URow w v k s) :
    Calls Try.prog 16 #[u, v] w fun e w' => e = .returned (.bool true) ∧ Below w.heap.size w w' := by
  obtain ⟨a, cap, rfl⟩ := hu.form
  obtain ⟨b, cap2, rfl⟩ := hv.form
  have hm1 := Row.max hu
  have HU := Lib.hid hu
  have HV := Lib.hid hv
  clear hu hv
  go_enter Try.func16, Try.ntmps16
  go_wp2_with fail
  go_loopw [5] (fun iv wr => ∃ i : Nat, i ≤ k ∧ iv = .int .i64 (i : Nat) ∧ Below w.heap.size w wr) (fun iv _ => k - (intOf iv).toNat)
  case atStart => exact ⟨0, by omega, rfl, Below.refl _ _⟩
  case round =>
    obtain ⟨i, hi, rfl, hB⟩ := hrel
    have HB := Lib.hid hB
    have i0 : (0 : Int) ≤ (i : Int) := by omega
    by_cases hlt : i < k
    · have i1 : (i : Int) < (k : Int) := by omega
      obtain ⟨g, o, rfl, hg, q0⟩ := HU.out.at hlt
      obtain ⟨g2, o2, rfl, hg2, p0⟩ := HV.out.at hlt
      have c0 := (hB.cell (p := ⟨g, o + i, none⟩) hg).trans q0
      have d0 := (hB.cell (p := ⟨g2, o2 + i, none⟩) hg2).trans p0
      clear q0 p0 hB
      generalize (word s i : Int) = x at *
      go_wp2_with fail
      go_quiet (fail)
      go_wp2_with fail
      exact ⟨⟨i + 1, by omega, by go_num, below_drewN HB.out _⟩, by simp [intOf]; omega⟩
    · obtain rfl : i = k := by omega
      have i1 : ¬ (i : Int) < (i : Int) := by omega
      clear hB
      go_wp2_with fail
      go_ret
      exact ⟨rfl, HB.out⟩
end Go.Proofs.Ytghdgenlkbocmaa
