/- Layer 17: words; the law's Wide. -/
import Derived.Test.YtghdgenlkbocmaaLMem
import Derived.Lib.Hide
import Derived.Deep.QuietTactic
import Derived.BigQuiet
namespace Go.Proofs.Ytghdgenlkbocmaa
open Go.RowKit

theorem below_drewN {w w' : World} {B : Nat} (h : Below B w w') (n : Nat) : Below B w (w'.drewN n) := ⟨h.os, h.tape, h.output, h.size, h.block⟩
theorem ret_int {k : IntKind} {a b : Int} (h : a = b) : Ending.returned (.int k a) = .returned (.int k b) := by rw [h]
def wordsV (n : Int) : Int := if n ≤ 64 then 1 else (n + 63) / 64
theorem wordsV_bd {n : Int} (h0 : 0 ≤ n) (h1 : n ≤ 256) : 1 ≤ wordsV n ∧ wordsV n ≤ 4 ∧ n ≤ 64 * wordsV n := by unfold wordsV; split <;> omega
theorem words_p (n : Int) (w : World) (h0 : 0 ≤ n) (h1 : n ≤ 100000) : Calls Try.prog 39 #[.int .i64 n] w fun e w' => e = .returned (.int .i64 (wordsV n)) ∧ w = w' := by
  have hv := Lib.hid (show wordsV n = if n ≤ 64 then 1 else (n + 63) / 64 from rfl)
  generalize wordsV n = V at *
  go_enter Try.func39, Try.ntmps39
  go_wp2_with fail
  all_goals
    go_ret
    exact ⟨ret_int (by rw [hv.out]; split <;> omega), rfl⟩
theorem words_r (n : Int) (w : World) (h0 : 0 ≤ n) (h1 : n ≤ 100000) : Calls Try.prog 40 #[.int .i64 n] w fun e w' => e = .returned (.int .i64 (wordsV n)) ∧ w = w' := by
  have hv := Lib.hid (show wordsV n = if n ≤ 64 then 1 else (n + 63) / 64 from rfl)
  generalize wordsV n = V at *
  go_enter Try.func40, Try.ntmps40
  go_wp2_with fail
  all_goals
    go_ret
    exact ⟨ret_int (by rw [hv.out]; split <;> omega), rfl⟩

/-- lines that are looked at -/
def Slim (L : List (List CSet)) : Prop := L.length ≤ 70 ∧ ∀ (k : Nat) (h : k < L.length), L[k].length ≤ 300
def Narrow (R : List (List (List CSet))) : Prop := R.length ≤ 20 ∧ ∀ (i : Nat) (h : i < R.length), Slim R[i]
def WideP (R : List (List (List CSet))) (w : World) (e : Ending) (w' : World) : Prop := ∃ z : Bool, e = .returned (.bool z) ∧ (z = false → Narrow R) ∧ w = w'

set_option maxRecDepth 100000 in
set_option maxHeartbeats 2000000 in
theorem wide_r (v : Value) (R : List (List (List CSet))) (w : World) (hv : Rules3 w v R) : Calls Try.prog 9 #[v] w (WideP R w) := by
  obtain ⟨a, cap, rfl⟩ := hv.form
  have hm := hv.max
  have HV := Lib.hid hv
  clear hv
  go_enter Try.func9, Try.ntmps9
  go_wp2_with fail
  go_loop [3] (fun iv => ∃ i : Nat, i ≤ R.length ∧ i ≤ 30 ∧ iv = .int .i64 (i : Nat) ∧ ∀ (j : Nat) (h : j < R.length), j < i → Slim R[j]) (fun iv => 30 - (intOf iv).toNat)
  case atStart => exact ⟨0, by omega, by omega, rfl, fun j _ h => absurd h (Nat.not_lt_zero _)⟩
  case round =>
    obtain ⟨i, hi, hi2, rfl, hall⟩ := hrel
    have HA := Lib.hid hall
    clear hall
    have i0 : (0 : Int) ≤ (i : Int) := by omega
    by_cases hlt : i < R.length
    · have i1 : (i : Int) < (R.length : Int) := by omega
      by_cases h30 : i < 30
      · have i2 : (i : Int) < 30 := by omega
        obtain ⟨g, o, b, c, rfl, hg, hc, hL⟩ := HV.out.at hlt
        have hn := hL.max
        have HL := Lib.hid hL
        have HR := Lib.hid (show R[i] = R[i] from rfl)
        generalize hLi : R[i] = L at *
        have HLI := Lib.hid hLi
        clear hL hLi HR
        go_wp2_with fail
        go_loop [4, 5] (fun nv kv => ∃ (k : Nat) (n : Int), k ≤ L.length ∧ k ≤ 80 ∧ kv = .int .i64 (k : Nat) ∧ nv = .int .i64 n ∧ 0 ≤ n ∧ n ≤ (k : Nat) * 1000 ∧ ∀ (q : Nat) (h : q < L.length), q < k → (L[q].length : Int) ≤ n ∨ 1000 ≤ n) (fun _ kv => 80 - (intOf kv).toNat)
        case atStart => exact ⟨0, 0, by omega, by omega, rfl, rfl, by omega, by omega, fun j _ h => absurd h (Nat.not_lt_zero _)⟩
        case round =>
          obtain ⟨k, n, hk, hk2, rfl, rfl, n0, n1, hq⟩ := hrel
          have HQ := Lib.hid hq
          clear hq
          have k0 : (0 : Int) ≤ (k : Int) := by omega
          by_cases hlk : k < L.length
          · have k1 : (k : Int) < (L.length : Int) := by omega
            by_cases h80 : k < 80
            · have k2 : (k : Int) < 80 := by omega
              obtain ⟨g2, o2, b2, c2, rfl, hg2, hc2, hl2⟩ := HL.out.at hlk
              have hm2 := hl2.max
              have HLK := Lib.hid (show L[k].length = L[k].length from rfl)
              generalize hlen : L[k].length = m at *
              have HM := Lib.hid hlen
              clear hlen hl2 HLK
              go_wp2_with fail
              all_goals
                refine ⟨⟨k + 1, _, by omega, by omega, by go_num, rfl, by omega, by omega, fun q hq hqk => ?_⟩, by simp [intOf]; omega⟩
                by_cases e : q = k
                · subst e
                  rw [HM.out]
                  omega
                · have := HQ.out q hq (by omega)
                  omega
            · have k2 : ¬ (k : Int) < 80 := by omega
              have h70 : (70 : Int) < (L.length : Int) := by omega
              go_wp2_with fail
              go_ret
              exact show WideP R w _ _ from ⟨true, rfl, (fun h => by cases h), rfl⟩
          · have k1 : ¬ (k : Int) < (L.length : Int) := by omega
            by_cases h70 : (70 : Int) < (L.length : Int)
            · go_wp2_with fail
              go_ret
              exact show WideP R w _ _ from ⟨true, rfl, (fun h => by cases h), rfl⟩
            · by_cases h300 : 300 < n
              · go_wp2_with fail
                go_ret
                exact show WideP R w _ _ from ⟨true, rfl, (fun h => by cases h), rfl⟩
              · go_wp2_with fail
                refine ⟨⟨i + 1, by omega, by omega, by go_num, fun j hj hji => ?_⟩, by simp [intOf]; omega⟩
                by_cases e : j = i
                · subst e
                  rw [HLI.out]
                  exact ⟨by omega, fun q hq => by have := HQ.out q hq (by omega); omega⟩
                · exact HA.out j hj (by omega)
      · have i2 : ¬ (i : Int) < 30 := by omega
        have t2 : (20 : Int) < (R.length : Int) := by omega
        go_wp2_with fail
        go_ret
        exact show WideP R w _ _ from ⟨true, rfl, (fun h => by cases h), rfl⟩
    · have i1 : ¬ (i : Int) < (R.length : Int) := by omega
      by_cases t2 : (20 : Int) < (R.length : Int)
      · go_wp2_with fail
        go_ret
        exact show WideP R w _ _ from ⟨true, rfl, (fun h => by cases h), rfl⟩
      · go_wp2_with fail
        go_ret
        exact show WideP R w _ _ from ⟨false, rfl, (fun _ => ⟨by omega, fun j hj => HA.out j hj (by omega)⟩), rfl⟩
end Go.Proofs.Ytghdgenlkbocmaa
