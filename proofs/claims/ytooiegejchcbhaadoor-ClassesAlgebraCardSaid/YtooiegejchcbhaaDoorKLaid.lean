/- what the rows list as laid gives the walks: the library's table. -/
import Derived.Test.YtooiegejchcbhaaDoorKShown
import Derived.Test.YtooiegejchcbhaaDoorRows
import Derived.ProofKit
import Derived.LaidMore
import Derived.OpenShut
import Derived.Stop.Joined
import Derived.MakeChecks
namespace Go.Proofs.YtooiegejchcbhaaDoor
open Go.ChangeShapes Go.WideShapes Go.ChangeAt Go.RowKit

theorem gTab : Tryd.prog.globalNamed "math/bits.deBruijn64tab" = some 0 := by kernel_rfl
theorem tTab : (Tryd.prog.globals[0]?).map (·.type) = some 79 := by kernel_rfl
theorem tab_datum : (Rows.laid_math_bits_deBruijn64tab : DataW Unit) = .agg (tabN.map fun n => .lit (.int .u8 (n : Nat))) := rfl
theorem tab_of_laid {W : World} (h : laidMetH Tryd.prog [("math/bits.deBruijn64tab", Rows.laid_math_bits_deBruijn64tab)] W) : Tab W := by
  rw [MakeChecks.laidMetH_plain _ _ _ (by kernel_rfl)] at h
  obtain ⟨ps, ⟨g0, t0, cs0, f0, p0, q0, hg0, ht0, hv0, hd0, _, _⟩, _, _⟩ := h
  obtain rfl := Option.some.inj (gTab.symm.trans hg0)
  obtain rfl := Option.some.inj (tTab.symm.trans ht0)
  obtain ⟨xs, m, rfl, hx, hlen, hn, hel⟩ := DataW.trod_array Tryd.underlying79 hd0
  rw [tab_datum] at hx
  simp only [Prod.mk.injEq, DataW.agg.injEq] at hx
  have c1 : Tryd.prog.cellsOf 5 = 1 := by kernel_rfl
  intro i hi
  have hxi : i < xs.length := by omega
  have h0 := hel i hi
  rw [c1, List.getElem?_eq_getElem hxi, Nat.mul_one] at h0
  obtain ⟨k, e1, e2, _⟩ := DataW.trod_int Tryd.underlying5 h0
  have hk : (xs.map (·.1))[i]? = some (.lit (.int .u8 k)) := by rw [List.getElem?_map, List.getElem?_eq_getElem hxi, e2]; rfl
  have htl : i < tabN.length := by simpa [tabN] using hi
  rw [← hx.1, List.getElem?_map, List.getElem?_eq_getElem htl] at hk
  simp only [Option.map_some, Option.some.injEq, DataW.lit.injEq, Lit.int.injEq, true_and] at hk
  have hc := World.var?_cell hg0 hv0 i
  rw [hc, ← Array.getElem?_toList]
  have e3 : (cs0.toList.drop i)[0]? = some (.int .u8 k) := by
    have : ((cs0.toList.drop i).take 1)[0]? = some (.int .u8 k) := by rw [e1]; rfl
    rwa [List.getElem?_take_of_lt (by decide)] at this
  rw [List.getElem?_drop, Nat.add_zero] at e3
  rw [e3, ← hk, List.getD_eq_getElem?_getD, List.getElem?_eq_getElem htl]
  rfl
/-- the door's own heap meets the condition -/
theorem door_met (os : Os) (args : Array Value) : laidMetH Tryd.prog [("math/bits.deBruijn64tab", Rows.laid_math_bits_deBruijn64tab)] ((World.doorLaid Tryd.prog 400 os).forCall (fun _ _ => 0) ⟨#[], args, []⟩).memory :=
  laidMetH_of_parts3 (fuel := 8) (laidMet_of_run' 8 (by kernel_rfl) (by kernel_rfl)) (by kernel_rfl) (by kernel_rfl)
end Go.Proofs.YtooiegejchcbhaaDoor
