/- dragnetlaw04.shown: some calls of package fold return what the document says. -/
import Derived.Test.YtfgfjapjpiilfaaCollI
import Derived.Lib.SlBytesConst
namespace Go.Proofs.Ytfgfjapjpiilfaa
open Go.RowKit Go.Shelf

theorem Row.marked (W : World) (t : TypeId) (size n : Nat) (fr : Nat × Nat) (cs : List Value) (hl : cs.length = n * size) (hm : n ≤ maxLen) :
    Row (W.alloc (.cells cs.toArray t fr)) size (.slice (some ⟨W.heap.size, 0, none⟩) n n) n cs := by
  have hh : (W.alloc (.cells cs.toArray t fr)).heap[W.heap.size]? = some (.cells cs.toArray t fr) := World.alloc_heap_new W _
  exact ⟨hl, hm, _, n, rfl, (by intro e; cases e), .inr ⟨_, _, rfl, fun j hj => by
    simp only [World.cell?, hh, Option.isSome_none, Bool.false_eq_true, if_false, Nat.zero_add, List.getElem?_toArray]⟩⟩
theorem opened : ofL [97, 65, 98] &&& turnS (ofL [97, 65, 98]) = ofL [97, 65] := by decide +kernel
set_option maxRecDepth 100000 in
set_option maxHeartbeats 2000000 in
theorem shown_p (w : World) : Calls Try.prog 11 #[] w fun e w' => e = .returned (.bool true) ∧ Below w.heap.size w w' := by
  have k1 : ∀ w, Calls Try.prog 12 #[.string ⟨#[120, 65, 98, 65, 66]⟩, .string ⟨#[97, 66]⟩] w fun e w' => e = .returned (.tuple #[.int .i64 1, .int .i64 0]) ∧ Below w.heap.size w w' := fun w => find_p [120, 65, 98, 65, 66] [97, 66] w (by decide) (by decide)
  have k2 : ∀ w, Calls Try.prog 14 #[.string ⟨#[97, 98]⟩, .string ⟨#[]⟩] w fun e w' => ∃ v, e = .returned (.tuple #[v, .int .i64 0]) ∧ w'.ownsRow w.heap.size 3 1 v 3 (icells [0, 1, 2]) ∧ Below w.heap.size w w' := fun w => allP [97, 98] [] w (by decide) (by decide)
  have k3 : ∀ w, Calls Try.prog 27 #[.int .u8 97, .int .u8 65] w fun e w' => e = .returned (.bool true) ∧ w = w' := fun w => same_p 97 65 (by decide) (by decide) w
  have k4 : ∀ w, Calls Try.prog 27 #[.int .u8 91, .int .u8 123] w fun e w' => e = .returned (.bool false) ∧ w = w' := fun w => same_p 91 123 (by decide) (by decide) w
  have k5 : ∀ w, Calls Try.prog 27 #[.int .u8 48, .int .u8 80] w fun e w' => e = .returned (.bool false) ∧ w = w' := fun w => same_p 48 80 (by decide) (by decide) w
  have k6 : ∀ w, Calls Try.prog 19 #[.int .u8 64] w fun e w' => e = .returned (.int .u8 64) ∧ w = w' := fun w => lower_p 64 (by decide) w
  have k7 : ∀ w, Calls Try.prog 17 #[.string ⟨#[65, 98, 45, 49, 90]⟩] w fun e w' => e = .returned (.string ⟨#[97, 98, 45, 49, 122]⟩) ∧ Below w.heap.size w w' := fun w => key_p [65, 98, 45, 49, 90] w (by decide)
  have k8 : ∀ w, Calls Try.prog 18 #[.string ⟨#[65, 98]⟩, .string ⟨#[97, 66]⟩] w fun e w' => e = .returned (.bool true) ∧ Below w.heap.size w w' := fun w => alike_p [65, 98] [97, 66] w (by decide) (by decide)
  have k9 : ∀ w, Calls Try.prog 40 #[.string ⟨#[97, 66]⟩, .string ⟨#[65, 67]⟩] w fun e w' => e = .returned (.int .i64 (-1)) ∧ Below w.heap.size w w' := fun w => compare_p [97, 66] [65, 67] w (by decide) (by decide)
  have k10 : ∀ w, Calls Try.prog 25 #[setV (ofL [97, 65, 98])] w fun e w' => e = .returned (setV (ofL [97, 65])) ∧ Below w.heap.size w w' := fun w => by have := open_p (ofL [97, 65, 98]) w; rwa [opened] at this
  have K1 := Lib.hid k1
  have K2 := Lib.hid k2
  have K7 := Lib.hid k7
  have K8 := Lib.hid k8
  have K9 := Lib.hid k9
  have K10 := Lib.hid k10
  clear k1 k2 k7 k8 k9 k10
  go_enter Try.func11, Try.ntmps11
  go_wp2_with fail
  refine (K1.out _).mono ?_
  rintro e w1 ⟨rfl, hb1⟩
  have HB1 := Lib.hid hb1
  clear hb1
  go_wp2_with fail
  refine (K2.out _).mono ?_
  rintro e w2 ⟨v, rfl, hown, hb2⟩
  have HR := Lib.hid (Row.of_owns hown)
  have HB2 := Lib.hid (next HB1.out hb2)
  clear hown hb2
  go_wp2_with (first
    | (go_at_call 27; refine (k3 _).mono ?_; clear k3; rintro e w' ⟨rfl, rfl⟩)
    | (go_at_call 27; refine (k4 _).mono ?_; clear k4; rintro e w' ⟨rfl, rfl⟩)
    | (go_at_call 27; refine (k5 _).mono ?_; clear k5; rintro e w' ⟨rfl, rfl⟩)
    | (go_at_call 19; refine (k6 _).mono ?_; rintro e w' ⟨rfl, rfl⟩))
  refine (K7.out _).mono ?_
  rintro e w3 ⟨rfl, hb3⟩
  have HB3 := Lib.hid (next HB2.out hb3)
  have HR3 := Lib.hid (HR.out.below hb3)
  clear hb3
  go_wp2_with fail
  refine (K8.out _).mono ?_
  rintro e w4 ⟨rfl, hb3⟩
  have HB4 := Lib.hid (next HB3.out hb3)
  have HR4 := Lib.hid (HR3.out.below hb3)
  clear hb3
  go_wp2_with fail
  refine (K9.out _).mono ?_
  rintro e w5 ⟨rfl, hb3⟩
  have HB5 := Lib.hid (next HB4.out hb3)
  have HR5 := Lib.hid (HR4.out.below hb3)
  clear hb3
  have kc := fun (w : World) (C : Array Value) (n c : Nat) => Lib.run_convert_bytes_const (P := Try.prog) w 39 5 C n c Try.underlying39 Try.underlying5
  go_wp2_with fail
  refine (of_r _ [97, 65, 98] _ (Row.marked w5 5 1 3 _ (bcells [97, 65, 98]) rfl (by decide))).mono ?_
  rintro e w6 ⟨rfl, hb3⟩
  have HB6 := Lib.hid (next HB5.out (next ((Below.refl _ _).alloc (Nat.le_refl _) _) hb3))
  have HR6 := Lib.hid ((HR5.out.below ((Below.refl _ _).alloc (Nat.le_refl _) _)).below hb3)
  clear hb3
  go_wp2_with fail
  refine (K10.out _).mono ?_
  rintro e w7 ⟨rfl, hb3⟩
  have HB7 := Lib.hid (next HB6.out hb3)
  have HR7 := Lib.hid (HR6.out.below hb3)
  clear hb3
  go_wp2_with fail
  refine (of_r _ [97, 65] _ (Row.marked w7 5 1 2 _ (bcells [97, 65]) rfl (by decide))).mono ?_
  rintro e w8 ⟨rfl, hb3⟩
  have HB8 := Lib.hid (next HB7.out (next ((Below.refl _ _).alloc (Nat.le_refl _) _) hb3))
  have HR8 := Lib.hid ((HR7.out.below ((Below.refl _ _).alloc (Nat.le_refl _) _)).below hb3)
  clear hb3 kc
  have heq := fun w => eq_set w (ofL [97, 65]) (ofL [97, 65])
  generalize ofL [97, 65] = S at *
  unfold setV setC
  have hd : decide (S = S) = true := decide_eq_true rfl
  go_wp2_with fail
  refine (ints4 v _ [0, 1, 2] [0, 1, 2] _ (HR8.out.below ((Below.refl _ _).alloc (Nat.le_refl _) _)) (Row.lit w8 3 1 3 (icells [0, 1, 2]) rfl (by decide))).mono ?_
  rintro e w9 ⟨rfl, hb3⟩
  have HB9 := Lib.hid (next HB8.out (next ((Below.refl _ _).alloc (Nat.le_refl _) _) hb3))
  clear hb3
  go_wp2_with fail
  go_ret
  exact ⟨rfl, HB9.out⟩

end Go.Proofs.Ytfgfjapjpiilfaa
