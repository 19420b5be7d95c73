/- Layer 17: does some line of a rule have no classes: ContainsFunc, IndexFunc. -/
import Derived.Test.YtghdgenlkbocmaaLWide
namespace Go.Proofs.Ytghdgenlkbocmaa
open Go.RowKit

theorem isEmpty_p (a : Option Addr) (n cap : Nat) (w : World) : Calls Try.prog 38 #[.slice a n cap] w fun e w' => e = .returned (.bool (n == 0)) ∧ w = w' := by
  go_enter Try.func38, Try.ntmps38
  go_wp2_with fail
  go_ret
  refine ⟨?_, rfl⟩
  cases n <;> first | rfl | (simp; try omega)

def hasNone (L : List (List CSet)) : Bool := L.any List.isEmpty
def IndexP (L : List (List CSet)) (w : World) (e : Ending) (w' : World) : Prop := ∃ r : Int, e = .returned (.int .i64 r) ∧ ((0 ≤ r ∧ hasNone L = true) ∨ (r = -1 ∧ hasNone L = false)) ∧ w = w'
set_option maxRecDepth 100000 in
set_option maxHeartbeats 2000000 in
theorem index_p (v : Value) (L : List (List CSet)) (w : World) (hv : Lines w v L) :
    Calls Try.prog 64 #[v, .func (.func 38) #[] #[]] w (IndexP L w) := by
  obtain ⟨a, cap, rfl⟩ := hv.form
  have hm := hv.max
  have HV := Lib.hid hv
  clear hv
  go_enter Try.func64, Try.ntmps64
  go_wp2_with fail
  go_loop [8] (fun iv => ∃ i : Nat, i ≤ L.length ∧ iv = .int .i64 (i : Nat) ∧ ∀ (j : Nat) (h : j < L.length), j < i → L[j].isEmpty = false) (fun iv => L.length - (intOf iv).toNat)
  case atStart => exact ⟨0, by omega, rfl, fun j _ h => absurd h (Nat.not_lt_zero _)⟩
  case round =>
    obtain ⟨i, hi, rfl, hall⟩ := hrel
    have HA := Lib.hid hall
    clear hall
    have i0 : (0 : Int) ≤ (i : Int) := by omega
    by_cases hlt : i < L.length
    · have i1 : (i : Int) < (L.length : Int) := by omega
      obtain ⟨g, o, b, c, rfl, hg, hc, hL⟩ := HV.out.at hlt
      have HLI := Lib.hid (show L[i].length = L[i].length from rfl)
      generalize hLi : L[i].length = m at *
      have HM := Lib.hid hLi
      clear hL hLi HLI
      go_wp2_with fail
      refine (isEmpty_p _ _ _ _).mono ?_
      rintro e w1 ⟨rfl, rfl⟩
      cases hb : (m == 0)
      · have HB := Lib.hid hb
        clear hb
        go_wp2_with fail
        refine ⟨⟨i + 1, by omega, by go_num, fun j hj hji => ?_⟩, by simp [intOf]; omega⟩
        by_cases e : j = i
        · subst e
          have := HM.out
          have h2 := HB.out
          rw [← this] at h2
          cases h3 : L[j] with
          | nil => rw [h3] at h2; simp at h2
          | cons _ _ => rfl
        · exact HA.out j hj (by omega)
      · have HB := Lib.hid hb
        clear hb
        go_wp2_with fail
        go_ret
        refine show IndexP L w _ _ from ⟨_, rfl, .inl ⟨i0, List.any_eq_true.2 ⟨L[i], List.getElem_mem hlt, ?_⟩⟩, rfl⟩
        have h2 := HB.out
        rw [← HM.out] at h2
        cases h3 : L[i] with
        | nil => rfl
        | cons _ _ => rw [h3] at h2; simp at h2
    · have i1 : ¬ (i : Int) < (L.length : Int) := by omega
      go_wp2_with fail
      go_ret
      refine show IndexP L w _ _ from ⟨_, rfl, .inr ⟨rfl, ?_⟩, rfl⟩
      unfold hasNone
      rw [List.any_eq_false]
      intro l hl
      obtain ⟨j, hj, rfl⟩ := List.mem_iff_getElem.1 hl
      rw [HA.out j hj (by omega)]
      decide

theorem contains_p (v : Value) (L : List (List CSet)) (w : World) (hv : Lines w v L) :
    Calls Try.prog 37 #[v, .func (.func 38) #[] #[]] w fun e w' => e = .returned (.bool (hasNone L)) ∧ w = w' := by
  have HV := Lib.hid hv
  obtain ⟨a, cap, rfl⟩ := hv.form
  clear hv
  generalize hz0 : hasNone L = z
  have HZ := Lib.hid hz0
  clear hz0
  go_enter Try.func37, Try.ntmps37
  go_wp2_with fail
  refine (index_p _ L _ HV.out).mono ?_
  rintro e w1 ⟨r, rfl, hr, rfl⟩
  rw [HZ.out] at hr
  rcases hr with ⟨r0, rfl⟩ | ⟨rfl, rfl⟩
  · go_wp2_with fail
    go_ret
    exact ⟨rfl, rfl⟩
  · go_wp2_with fail
    go_ret
    exact ⟨rfl, rfl⟩
end Go.Proofs.Ytghdgenlkbocmaa
