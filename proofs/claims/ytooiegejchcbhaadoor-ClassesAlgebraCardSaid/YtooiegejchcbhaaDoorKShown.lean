/- `shown` of classes. -/
import Derived.Test.YtooiegejchcbhaaDoorKConc
import Derived.Lib.SlBytesConst
namespace Go.Proofs.YtooiegejchcbhaaDoor
open Go.RowKit

theorem Row.marked (W : World) (t : TypeId) (size n : Nat) (fr : Nat × Nat) (cs : List Value) (hl : cs.length = n * size) (hm : n ≤ maxLen) :
    Row (W.alloc (.cells cs.toArray t fr)) size (.slice (some ⟨W.heap.size, 0, none⟩) n n) n cs := by
  have hh : (W.alloc (.cells cs.toArray t fr)).heap[W.heap.size]? = some (.cells cs.toArray t fr) := World.alloc_heap_new W _
  exact ⟨hl, hm, _, n, rfl, (by intro e; cases e), .inr ⟨_, _, rfl, fun j hj => by
    simp only [World.cell?, hh, Option.isSome_none, Bool.false_eq_true, if_false, Nat.zero_add, List.getElem?_toArray]⟩⟩

set_option maxRecDepth 100000 in
set_option maxHeartbeats 4000000 in
theorem shown_p (w : World) (hT : Tab w) : Calls Tryd.prog 9 #[] w fun e w' => e = .returned (.bool true) ∧ Below w.heap.size w w' := by
  have kc := fun (w : World) (C : Array Value) (n c : Nat) => Lib.run_convert_bytes_const (P := Tryd.prog) w 39 5 C n c Tryd.underlying39 Tryd.underlying5
  have KO := Lib.hid (fun v w h => of_p v [99, 97, 98, 48, 120] w h)
  have KP := Lib.hid (fun t h w => parse_p t h w)
  have KF := Lib.hid (fun t h w => prefix_p t h w)
  have KG := Lib.hid (range_p 5 4)
  have KPR := Lib.hid (fun s w h => print_p s w h)
  have HT := Lib.hid hT
  clear hT
  go_enter Tryd.func9, Tryd.ntmps9
  go_wp2_with fail
  refine (of_p _ [99, 97, 98, 48, 120] _ (Row.marked w 5 1 5 _ (bcells [99, 97, 98, 48, 120]) rfl (by decide))).mono ?_
  rintro e w1 ⟨rfl, hb1⟩
  have HB1 := Lib.hid (next ((Below.refl _ _).alloc (Nat.le_refl _) _) hb1)
  clear hb1 kc
  obtain ⟨S1, hS1⟩ : ∃ S, S = ofL [99, 97, 98, 48, 120] := ⟨_, rfl⟩
  rw [← hS1]
  have H1 := Lib.hid hS1
  clear hS1
  have HA1 := Lib.hid (SetAt.new w1 S1)
  have HB1' := Lib.hid (HB1.out.alloc HB1.out.size (.cells (setC S1) 24))
  unfold setV
  unfold setC at *
  go_wp2_with fail
  refine (KP.out [91, 120, 97, 45, 99, 98, 97, 93] (by decide) _).mono ?_
  rintro e w2 ⟨rfl, hb2⟩
  obtain ⟨S2, hS2⟩ : ∃ S, S = (parseV [91, 120, 97, 45, 99, 98, 97, 93]).1 := ⟨_, rfl⟩
  rw [sh2, ← hS2]
  have H2 := Lib.hid hS2
  clear hS2
  have HB2 := Lib.hid (next HB1'.out hb2)
  have HA2 := Lib.hid (HA1.out.below hb2 (by simp))
  clear hb2 HA1
  have HA2' := Lib.hid (HA2.out.alloc (.cells (setC S2) 24))
  have HC2 := Lib.hid (SetAt.new w2 S2)
  have HB2' := Lib.hid (HB2.out.alloc HB2.out.size (.cells (setC S2) 24))
  unfold setV
  unfold setC at *
  go_wp2_with fail
  refine (KP.out [91, 99, 45, 97, 97, 93] (by decide) _).mono ?_
  rintro e w3 ⟨rfl, hb3⟩
  rw [sh3]
  obtain ⟨Z, hZ⟩ : ∃ Z, Z = (0#256 : CSet) := ⟨_, rfl⟩
  rw [← hZ]
  clear hZ
  have HB3 := Lib.hid (next HB2'.out hb3)
  have HA3 := Lib.hid (HA2'.out.below hb3 (by have := HA2.out.lt; simp; omega))
  have HC3 := Lib.hid (HC2.out.below hb3 (by simp))
  clear hb3 HA2 HA2' HC2
  have HA3' := Lib.hid (HA3.out.alloc (.cells (setC Z) 24))
  have HC3' := Lib.hid (HC3.out.alloc (.cells (setC Z) 24))
  have HB3' := Lib.hid (HB3.out.alloc HB3.out.size (.cells (setC Z) 24))
  have k3 := HA3.out.lt
  have k3' := HC3.out.lt
  unfold setV
  unfold setC at *
  go_wp2_with fail
  refine (KF.out [91, 94, 97, 45, 122, 93, 43] (by decide) _).mono ?_
  rintro e w4 ⟨rfl, hb4⟩
  obtain ⟨S4, hS4⟩ : ∃ S, S = (prefixV [91, 94, 97, 45, 122, 93, 43]).1 := ⟨_, rfl⟩
  rw [sh4, ← hS4]
  clear hS4
  have HB4 := Lib.hid (next HB3'.out hb4)
  have HA4 := Lib.hid (HA3'.out.below hb4 (by simp; omega))
  have HC4 := Lib.hid (HC3'.out.below hb4 (by simp; omega))
  clear hb4 HA3 HA3' HC3 HC3' k3 k3'
  have HA4' := Lib.hid (HA4.out.alloc (.cells (setC S4) 24))
  have HC4' := Lib.hid (HC4.out.alloc (.cells (setC S4) 24))
  have HB4' := Lib.hid (HB4.out.alloc HB4.out.size (.cells (setC S4) 24))
  have k4 := HA4.out.lt
  have k4' := HC4.out.lt
  unfold setV
  unfold setC at *
  go_wp2_with fail
  refine (KG.out _).mono ?_
  rintro e w5 ⟨rfl, hb5⟩
  rw [sh5]
  obtain ⟨S5, hS5⟩ : ∃ S, S = rangeS 5 4 := ⟨_, rfl⟩
  rw [← hS5]
  clear hS5
  have HB5 := Lib.hid (next HB4'.out hb5)
  have HA5 := Lib.hid (HA4'.out.below hb5 (by simp; omega))
  have HC5 := Lib.hid (HC4'.out.below hb5 (by simp; omega))
  clear hb5 HA4 HA4' HC4 HC4' k4 k4'
  have HA5' := Lib.hid (HA5.out.alloc (.cells (setC S5) 24))
  have HC5' := Lib.hid (HC5.out.alloc (.cells (setC S5) 24))
  have HB5' := Lib.hid (HB5.out.alloc HB5.out.size (.cells (setC S5) 24))
  unfold setV
  unfold setC at *
  have p1 : printV S1 = [91, 48, 97, 45, 99, 120, 93] := by rw [H1.out]; exact sh1
  have p2 : printV S2 = [91, 97, 45, 99, 120, 93] := by rw [H2.out]; exact sh2p
  have K1 := Lib.hid (fun w h => KPR.out S1 w h)
  have K2 := Lib.hid (fun w h => KPR.out S2 w h)
  rw [p1, show str [91, 48, 97, 45, 99, 120, 93] = ⟨#[91, 48, 97, 45, 99, 120, 93]⟩ from rfl] at K1
  rw [p2, show str [91, 97, 45, 99, 120, 93] = ⟨#[91, 97, 45, 99, 120, 93]⟩ from rfl] at K2
  clear p1 p2
  obtain ⟨x0, x1, x2, x3⟩ := HA5'.out.cells
  unfold setV setC at K1 K2
  go_wp2_with fail
  refine (K1.out _ (HT.out.below HB5'.out)).mono ?_
  rintro e w6 ⟨rfl, hb6⟩
  have HB6 := Lib.hid (next HB5'.out hb6)
  have HC6 := HC5'.out.below hb6 (by have := HC5.out.lt; simp; omega)
  clear hb6 x0 x1 x2 x3
  obtain ⟨x0, x1, x2, x3⟩ := HC6.cells
  go_wp2_with fail
  refine (K2.out _ (HT.out.below HB6.out)).mono ?_
  rintro e w7 ⟨rfl, hb7⟩
  have HB7 := Lib.hid (next HB6.out hb7)
  clear hb7 x0 x1 x2 x3 HC6
  go_wp2_with fail
  go_ret
  exact ⟨rfl, HB7.out⟩
end Go.Proofs.YtooiegejchcbhaaDoor
