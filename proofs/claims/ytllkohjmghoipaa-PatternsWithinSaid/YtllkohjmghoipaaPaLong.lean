/- Long: patterns that are not looked at. -/
import Derived.Test.YtllkohjmghoipaaPaShow2
import Derived.Test.YtllkohjmghoipaaPaArg
namespace Go.Proofs.Ytllkohjmghoipaa
open Go.RowKit Go.Sort

def longV (p : List El) : Bool := decide ((60 < p.length ∧ p.length ≤ 512) ∨ 520 < p.length)
theorem longV_no {p : List El} (h : longV p = false) : p.length ≤ 60 ∨ (512 < p.length ∧ p.length ≤ 520) := by
  unfold longV at h
  rw [decide_eq_false_iff_not] at h
  omega
set_option maxRecDepth 100000 in
theorem long_p (v : Value) (p : List El) (w : World) (h : Pats w v p) :
    Calls Try.prog 11 #[v] w fun e w' => e = .returned (.bool (longV p)) ∧ w = w' := by
  obtain ⟨a, cap, rfl⟩ := Row.form2 h
  clear h
  by_cases h1 : 60 < p.length
  · by_cases h2 : p.length ≤ 512
    · have HD := Lib.hid (show longV p = true by unfold longV; rw [decide_eq_true_eq]; omega)
      go_enter Try.func11, Try.ntmps11
      go_wp2_with fail
      go_ret
      exact ⟨by rw [HD.out]; rfl, rfl⟩
    · by_cases h3 : 520 < p.length
      · have HD := Lib.hid (show longV p = true by unfold longV; rw [decide_eq_true_eq]; omega)
        have e2 : decide ((p.length : Int) ≤ 512) = false := by rw [decide_eq_false_iff_not]; omega
        have e3 : decide (520 < (p.length : Int)) = true := by rw [decide_eq_true_eq]; omega
        go_enter Try.func11, Try.ntmps11
        go_wp2_with fail
        go_ret
        exact ⟨by rw [HD.out]; rfl, rfl⟩
      · have HD := Lib.hid (show longV p = false by unfold longV; rw [decide_eq_false_iff_not]; omega)
        have e2 : decide ((p.length : Int) ≤ 512) = false := by rw [decide_eq_false_iff_not]; omega
        have e3 : decide (520 < (p.length : Int)) = false := by rw [decide_eq_false_iff_not]; omega
        go_enter Try.func11, Try.ntmps11
        go_wp2_with fail
        go_ret
        exact ⟨by rw [HD.out]; rfl, rfl⟩
  · have HD := Lib.hid (show longV p = false by unfold longV; rw [decide_eq_false_iff_not]; omega)
    have e3 : decide (520 < (p.length : Int)) = false := by rw [decide_eq_false_iff_not]; omega
    go_enter Try.func11, Try.ntmps11
    go_wp2_with fail
    go_ret
    exact ⟨by rw [HD.out]; rfl, rfl⟩
end Go.Proofs.Ytllkohjmghoipaa
