/- Texts that the claims share, part 8. -/
import Derived.Test.YtafdaiidnphbaaaMg7
import Derived.Test.YtafdaiidnphbaaaMg5
import Derived.Lib.SlBytesConst
import Derived.Test.YtafdaiidnphbaaaMg4
import Derived.Test.YtafdaiidnphbaaaMg3
import Derived.Test.YtafdaiidnphbaaaMg1
import Derived.Deep.SlicePairs
import Derived.Laws.BytesArg
import Derived.Test.YtafdaiidnphbaaaMg6

/- awake. -/
namespace Go.Proofs.Ytafdaiidnphbaaa
open Go.RowKit Go.Sort Go.Lib

theorem hrow_marked (W : World) (t : TypeId) (size n : Nat) (fr : Nat × Nat) (cs : List Value) (hl : cs.length = n * size) (hm : n ≤ maxLen) :
    Row (W.alloc (.cells cs.toArray t fr)) size (.slice (some ⟨W.heap.size, 0, none⟩) n n) n cs := by
  have hh : (W.alloc (.cells cs.toArray t fr)).heap[W.heap.size]? = some (.cells cs.toArray t fr) := heap_alloc_new W _
  exact ⟨hl, hm, _, n, rfl, (by intro e; cases e), .inr ⟨_, _, rfl, fun j hj => by
    simp only [World.cell?, hh, Option.isSome_none, Bool.false_eq_true, if_false, Nat.zero_add, List.getElem?_toArray]⟩⟩
theorem awB_row (W : World) : Bytes (W.alloc (.cells #[.int .u8 97, .int .u8 97, .int .u8 98, .int .u8 120, .int .u8 98] 5 (5, 6))) (.slice (some ⟨W.heap.size, 0, none⟩) 5 5) awB := hrow_marked W 5 1 5 (5, 6) (bcells awB) rfl (by unfold maxLen; omega)
theorem awI_row (W : World) : Nums (W.alloc (.cells #[.int .i64 0, .int .i64 1] 3)) (.slice (some ⟨W.heap.size, 0, none⟩) 2 2) [0, 1] := Row.lit W 3 1 2 [.int .i64 0, .int .i64 1] rfl (by unfold maxLen; omega)
theorem awT_row (W : World) : Hits (W.alloc (.cells #[.int .i64 3, .int .i64 0, .int .i64 5, .int .i64 1] 38)) (.slice (some ⟨W.heap.size, 0, none⟩) 2 2) [(3, 0), (5, 1)] := Row.lit W 38 2 2 (hcells [(3, 0), (5, 1)]) rfl (by unfold maxLen; omega)
theorem awD_row {W : World} {g : Nat} (h : Hits W (.slice (some ⟨g, 0, none⟩) 3 3) awH) : Hits W (.slice (some ⟨g, 2, none⟩) 2 2) [(3, 1), (5, 1)] := hrow_cut h (lo := 1) (hi := 3) (by omega) (by decide) (Nat.le_refl _)
theorem awK_row {W : World} {g : Nat} (h : Hits W (.slice (some ⟨g, 0, none⟩) 3 3) awH) : Hits W (.slice (some ⟨g, 4, none⟩) 1 1) [(5, 1)] := hrow_cut h (lo := 2) (hi := 3) (by omega) (by decide) (Nat.le_refl _)
theorem awH_row (W : World) : Hits (W.alloc (.cells #[.int .i64 3, .int .i64 0, .int .i64 3, .int .i64 1, .int .i64 5, .int .i64 1] 38)) (.slice (some ⟨W.heap.size, 0, none⟩) 3 3) awH := Row.lit W 38 2 3 (hcells awH) rfl (by unfold maxLen; omega)
set_option maxRecDepth 100000 in
set_option maxHeartbeats 16000000 in
theorem awake_p (w : World) : Calls Try.prog 11 #[] w fun e w' => e = .returned (.bool true) ∧ Below w.heap.size w w' := by
  have kc := fun (w : World) (C : Array Value) (n c : Nat) => Lib.run_convert_bytes_const (P := Try.prog) w 23 5 C n c Try.underlying23 Try.underlying5
  go_enter Try.func11, Try.ntmps11
  go_wp2_with fail
  refine (example_p _).mono ?_
  rintro e w1 ⟨g1, rfl, hs1, hb1⟩
  have K1 := all_p _ _ exSet awB _ (hs1.below ((Below.refl _ w1).alloc (Nat.le_refl _) _)) (awB_row w1)
  rw [aw_all, aw_allE] at K1
  have HB1 := Lib.hid (next hb1 ((Below.refl _ w1).alloc (Nat.le_refl _) (.cells #[.int .u8 97, .int .u8 97, .int .u8 98, .int .u8 120, .int .u8 98] 5 (5, 6))))
  have KK1 := Lib.hid K1
  clear hb1 hs1 K1
  go_wp2_with fail
  refine KK1.out.mono ?_
  rintro e w2 ⟨v2, rfl, ho2, hb2⟩
  have HO2 := Lib.hid (Row.of_owns ho2)
  have HB2 := Lib.hid (next HB1.out hb2)
  clear ho2 hb2 KK1 HB1
  go_wp2_with fail
  refine (example_p _).mono ?_
  rintro e w3 ⟨g3, rfl, hs3, hb3⟩
  have K3 := within_p _ _ exSet awB 3 5 _ (hs3.below ((Below.refl _ w3).alloc (Nat.le_refl _) _)) (awB_row w3)
  rw [aw_with, aw_withE] at K3
  have hal3 : Below w3.heap.size w3 (w3.alloc (.cells #[.int .u8 97, .int .u8 97, .int .u8 98, .int .u8 120, .int .u8 98] 5 (5, 6))) := (Below.refl _ w3).alloc (Nat.le_refl _) _
  have HB3 := Lib.hid (next (next HB2.out hb3) hal3)
  have HO2' := Lib.hid (Row.below (Row.below HO2.out hb3) hal3)
  have KK3 := Lib.hid K3
  clear hb3 hs3 K3 hal3 HB2 HO2
  go_wp2_with fail
  refine KK3.out.mono ?_
  rintro e w4 ⟨v4, rfl, ho4, hb4⟩
  have HO4 := Lib.hid (Row.of_owns ho4)
  have HO2 := Lib.hid (Row.below HO2'.out hb4)
  have HB4 := Lib.hid (next HB3.out hb4)
  clear ho4 hb4 KK3 HB3 HO2'
  go_wp2_with fail
  refine (example_p _).mono ?_
  rintro e w5 ⟨g5, rfl, hs5, hb5⟩
  have hal5 : Below w5.heap.size w5 (w5.alloc (.cells #[.int .u8 97, .int .u8 97, .int .u8 98, .int .u8 120, .int .u8 98] 5 (5, 6))) := (Below.refl _ w5).alloc (Nat.le_refl _) _
  obtain ⟨gs, os, pa, pc, hga, hgl, d1, hp1⟩ := hs5.at (i := 1) (by decide)
  cases hga
  have HD1 := Lib.hid ((hal5.cell (p := ⟨g5, 1, none⟩) hgl).trans (show w5.cell? ⟨g5, 1, none⟩ = some (.slice pa 3 pc) from d1))
  have K5 := starts_p _ (some ⟨w5.heap.size, 0, none⟩) 5 [byteV 97, gapE, byteV 98] awB 3 _ (Row.below (show Pats w5 (.slice pa 3 pc) [byteV 97, gapE, byteV 98] from hp1) hal5) (awB_row w5) (Nat.le_refl _)
  rw [aw_start, aw_startE] at K5
  have D1 := (show w5.cell? ⟨g5, 1, none⟩ = some (.slice pa 3 pc) from d1)
  have HB5 := Lib.hid (next (next HB4.out hb5) hal5)
  have HO2' := Lib.hid (Row.below (Row.below HO2.out hb5) hal5)
  have HO4' := Lib.hid (Row.below (Row.below HO4.out hb5) hal5)
  have KK5 := Lib.hid K5
  clear hb5 hs5 K5 hal5 HB4 HO2 HO4 hp1 d1
  go_wp2_with fail
  refine KK5.out.mono ?_
  rintro e w6 ⟨v6, rfl, ho6, hb6⟩
  have HO6 := Lib.hid (Row.of_owns ho6)
  have HO2 := Lib.hid (Row.below HO2'.out hb6)
  have HO4 := Lib.hid (Row.below HO4'.out hb6)
  have HB6 := Lib.hid (next HB5.out hb6)
  clear ho6 hb6 KK5 HB5 HO2' HO4' D1 HD1
  go_wp2_with fail
  refine (hits_p _).mono ?_
  rintro e w7 ⟨rfl, rfl⟩
  have hal7 : Below w6.heap.size w6 (w6.alloc (.cells #[.int .i64 3, .int .i64 0, .int .i64 3, .int .i64 1, .int .i64 5, .int .i64 1] 38)) := (Below.refl _ w6).alloc (Nat.le_refl _) _
  have K7 := first_p (some ⟨w6.heap.size, 0, none⟩) 3 awH 2 _ (awH_row w6) (Nat.le_refl _)
  rw [aw_first.1, aw_first.2.1, aw_first.2.2] at K7
  have KK7 := Lib.hid K7
  have HB7 := Lib.hid (next HB6.out hal7)
  have HO2' := Lib.hid (Row.below HO2.out hal7)
  have HO4' := Lib.hid (Row.below HO4.out hal7)
  have HO6' := Lib.hid (Row.below HO6.out hal7)
  clear K7 hal7 HB6 HO2 HO4 HO6
  go_wp2_with fail
  refine KK7.out.mono ?_
  rintro e w8 ⟨v8, rfl, ho8, hb8⟩
  have HO8 := Lib.hid (Row.of_owns ho8)
  have HO2 := Lib.hid (Row.below HO2'.out hb8)
  have HO4 := Lib.hid (Row.below HO4'.out hb8)
  have HO6 := Lib.hid (Row.below HO6'.out hb8)
  have HB8 := Lib.hid (next HB7.out hb8)
  clear ho8 hb8 KK7 HB7 HO2' HO4' HO6'
  go_wp2_with fail
  refine (hits_p _).mono ?_
  rintro e w9 ⟨rfl, rfl⟩
  have hal8 : Below w8.heap.size w8 (w8.alloc (.cells #[.int .i64 3, .int .i64 0, .int .i64 5, .int .i64 1] 38)) := (Below.refl _ w8).alloc (Nat.le_refl _) _
  have hal9 : Below (w8.alloc (.cells #[.int .i64 3, .int .i64 0, .int .i64 5, .int .i64 1] 38)).heap.size (w8.alloc (.cells #[.int .i64 3, .int .i64 0, .int .i64 5, .int .i64 1] 38)) ((w8.alloc (.cells #[.int .i64 3, .int .i64 0, .int .i64 5, .int .i64 1] 38)).alloc (.cells #[.int .i64 3, .int .i64 0, .int .i64 3, .int .i64 1, .int .i64 5, .int .i64 1] 38)) := (Below.refl _ _).alloc (Nat.le_refl _) _
  have K9 := merge_p _ _ [(3, 0), (5, 1)] [(3, 1), (5, 1)] _ (Row.below (awT_row w8) hal9) (awD_row (awH_row (w8.alloc (.cells #[.int .i64 3, .int .i64 0, .int .i64 5, .int .i64 1] 38))))
  rw [aw_merge, aw_mergeE] at K9
  have KK9 := Lib.hid K9
  have HB9 := Lib.hid (next (next HB8.out hal8) hal9)
  have HO2' := Lib.hid (Row.below (Row.below HO2.out hal8) hal9)
  have HO4' := Lib.hid (Row.below (Row.below HO4.out hal8) hal9)
  have HO6' := Lib.hid (Row.below (Row.below HO6.out hal8) hal9)
  have HO8' := Lib.hid (Row.below (Row.below HO8.out hal8) hal9)
  rw [World.size_alloc] at KK9 ⊢
  clear K9 hal8 hal9 HB8 HO2 HO4 HO6 HO8
  go_wp2_with fail
  refine KK9.out.mono ?_
  rintro e w10 ⟨v10, rfl, ho10, hb10⟩
  have HO10 := Lib.hid (Row.of_owns ho10)
  have HO2 := Lib.hid (Row.below HO2'.out hb10)
  have HO4 := Lib.hid (Row.below HO4'.out hb10)
  have HO6 := Lib.hid (Row.below HO6'.out hb10)
  have HO8 := Lib.hid (Row.below HO8'.out hb10)
  have HB10 := Lib.hid (next HB9.out hb10)
  clear ho10 hb10 KK9 HB9 HO2' HO4' HO6' HO8'
  go_wp2_with fail
  refine (hits_p _).mono ?_
  rintro e w11 ⟨rfl, rfl⟩
  have hal : ∀ W : World, Below W.heap.size W (W.alloc (.cells #[.int .i64 3, .int .i64 0, .int .i64 3, .int .i64 1, .int .i64 5, .int .i64 1] 38)) := fun W => (Below.refl _ W).alloc (Nat.le_refl _) _
  have KA := Lib.hid (shift_p _ awH (-3) _ (awH_row w10))
  rw [aw_shift] at KA
  have HAL := Lib.hid hal
  have HB11 := Lib.hid (next HB10.out (hal w10))
  have HO2' := Lib.hid (Row.below HO2.out (hal w10))
  have HO4' := Lib.hid (Row.below HO4.out (hal w10))
  have HO6' := Lib.hid (Row.below HO6.out (hal w10))
  have HO8' := Lib.hid (Row.below HO8.out (hal w10))
  have HO10' := Lib.hid (Row.below HO10.out (hal w10))
  clear hal HB10 HO2 HO4 HO6 HO8 HO10
  go_wp2_with fail
  refine KA.out.mono ?_
  rintro e w12 ⟨v12, rfl, ho12, hb12⟩
  have HO2 := Lib.hid (Row.below HO2'.out hb12)
  have HO4 := Lib.hid (Row.below HO4'.out hb12)
  have HO6 := Lib.hid (Row.below HO6'.out hb12)
  have HO8 := Lib.hid (Row.below HO8'.out hb12)
  have HO10 := Lib.hid (Row.below HO10'.out hb12)
  have HB := Lib.hid (next HB11.out hb12)
  clear ho12 hb12 KA HB11 HO2' HO4' HO6' HO8' HO10'
  go_wp2_with fail
  refine (hits_p _).mono ?_
  rintro e wq12 ⟨rfl, rfl⟩
  have hal : Below w12.heap.size w12 (w12.alloc (.cells #[.int .i64 3, .int .i64 0, .int .i64 3, .int .i64 1, .int .i64 5, .int .i64 1] 38)) := (Below.refl _ _).alloc (Nat.le_refl _) _
  have HO2' := Lib.hid (Row.below HO2.out hal)
  have HO4' := Lib.hid (Row.below HO4.out hal)
  have HO6' := Lib.hid (Row.below HO6.out hal)
  have HO8' := Lib.hid (Row.below HO8.out hal)
  have HO10' := Lib.hid (Row.below HO10.out hal)
  have KS := Lib.hid (same_r _ _ awH awH _ HO2'.out (awH_row w12))
  rw [show decide (awH = awH) = true from by decide] at KS
  have HBn := Lib.hid (next HB.out hal)
  clear hal HB HO2 HO4 HO6 HO8 HO10
  go_wp2_with fail
  refine KS.out.mono ?_
  rintro e w13 ⟨rfl, hbn⟩
  have HO4 := Lib.hid (Row.below HO4'.out hbn)
  have HO6 := Lib.hid (Row.below HO6'.out hbn)
  have HO8 := Lib.hid (Row.below HO8'.out hbn)
  have HO10 := Lib.hid (Row.below HO10'.out hbn)
  have HB := Lib.hid (next HBn.out hbn)
  clear hbn KS HBn HO2' HO4' HO6' HO8' HO10'
  go_wp2_with fail
  refine (hits_p _).mono ?_
  rintro e wq13 ⟨rfl, rfl⟩
  have hal : Below w13.heap.size w13 (w13.alloc (.cells #[.int .i64 3, .int .i64 0, .int .i64 3, .int .i64 1, .int .i64 5, .int .i64 1] 38)) := (Below.refl _ _).alloc (Nat.le_refl _) _
  have HO4' := Lib.hid (Row.below HO4.out hal)
  have HO6' := Lib.hid (Row.below HO6.out hal)
  have HO8' := Lib.hid (Row.below HO8.out hal)
  have HO10' := Lib.hid (Row.below HO10.out hal)
  have KS := Lib.hid (same_r _ _ [(5, 1)] [(5, 1)] _ HO4'.out (awK_row (awH_row w13)))
  rw [show decide ([((5 : Int), (1 : Int))] = [(5, 1)]) = true from by decide] at KS
  have HBn := Lib.hid (next HB.out hal)
  clear hal HB HO4 HO6 HO8 HO10
  go_wp2_with fail
  refine KS.out.mono ?_
  rintro e w14 ⟨rfl, hbn⟩
  have HO6 := Lib.hid (Row.below HO6'.out hbn)
  have HO8 := Lib.hid (Row.below HO8'.out hbn)
  have HO10 := Lib.hid (Row.below HO10'.out hbn)
  have HB := Lib.hid (next HBn.out hbn)
  clear hbn KS HBn HO4' HO6' HO8' HO10'
  go_wp2_with fail
  have hal : Below w14.heap.size w14 (w14.alloc (.cells #[.int .i64 0, .int .i64 1] 3)) := (Below.refl _ _).alloc (Nat.le_refl _) _
  have HO6' := Lib.hid (Row.below HO6.out hal)
  have HO8' := Lib.hid (Row.below HO8.out hal)
  have HO10' := Lib.hid (Row.below HO10.out hal)
  have KS := Lib.hid (ints_r _ _ [0, 1] [0, 1] _ HO6'.out (awI_row w14))
  rw [show decide ([(0 : Int), 1] = [0, 1]) = true from by decide] at KS
  have HBn := Lib.hid (next HB.out hal)
  clear hal HB HO6 HO8 HO10
  go_wp2_with fail
  refine KS.out.mono ?_
  rintro e w15 ⟨rfl, hbn⟩
  have HO8 := Lib.hid (Row.below HO8'.out hbn)
  have HO10 := Lib.hid (Row.below HO10'.out hbn)
  have HB := Lib.hid (next HBn.out hbn)
  clear hbn KS HBn HO6' HO8' HO10'
  go_wp2_with fail
  refine (hits_p _).mono ?_
  rintro e wq15 ⟨rfl, rfl⟩
  have hal : Below w15.heap.size w15 (w15.alloc (.cells #[.int .i64 3, .int .i64 0, .int .i64 3, .int .i64 1, .int .i64 5, .int .i64 1] 38)) := (Below.refl _ _).alloc (Nat.le_refl _) _
  have HO8' := Lib.hid (Row.below HO8.out hal)
  have HO10' := Lib.hid (Row.below HO10.out hal)
  have KS := Lib.hid (same_r _ _ [(3, 0), (3, 1)] [(3, 0), (3, 1)] _ HO8'.out (hits_take (awH_row w15) 2 (by decide)))
  rw [show decide ([((3 : Int), (0 : Int)), (3, 1)] = [(3, 0), (3, 1)]) = true from by decide] at KS
  have HBn := Lib.hid (next HB.out hal)
  clear hal HB HO8 HO10
  go_wp2_with fail
  refine KS.out.mono ?_
  rintro e w16 ⟨rfl, hbn⟩
  have HO10 := Lib.hid (Row.below HO10'.out hbn)
  have HB := Lib.hid (next HBn.out hbn)
  clear hbn KS HBn HO8' HO10'
  go_wp2_with fail
  refine (hits_p _).mono ?_
  rintro e wq16 ⟨rfl, rfl⟩
  have hal : Below w16.heap.size w16 (w16.alloc (.cells #[.int .i64 3, .int .i64 0, .int .i64 3, .int .i64 1, .int .i64 5, .int .i64 1] 38)) := (Below.refl _ _).alloc (Nat.le_refl _) _
  have HO10' := Lib.hid (Row.below HO10.out hal)
  have KS := Lib.hid (same_r _ _ awH awH _ HO10'.out (awH_row w16))
  rw [show decide (awH = awH) = true from by decide] at KS
  have HBn := Lib.hid (next HB.out hal)
  clear hal HB HO10
  go_wp2_with fail
  refine KS.out.mono ?_
  rintro e w17 ⟨rfl, hbn⟩
  have HB := Lib.hid (next HBn.out hbn)
  clear hbn KS HBn HO10'
  go_wp2_with fail
  go_ret
  exact ⟨rfl, HB.out⟩
end Go.Proofs.Ytafdaiidnphbaaa

/- far: some truth value. -/
namespace Go.Proofs.Ytafdaiidnphbaaa
open Go.RowKit Go.Sort

def FarP (w : World) (e : Ending) (w' : World) : Prop := (∃ c : Bool, e = .returned (.bool c)) ∧ w' = w
set_option maxRecDepth 100000 in
set_option maxHeartbeats 8000000 in
theorem far_p (v u : Value) (L : List (List El)) (b : List UInt8) (w : World) (h : Sets w v L) (hb : Bytes w u b) :
    Calls Try.prog 10 #[v, u] w (FarP w) := by
  have HS := Lib.hid h
  have hmax : L.length ≤ maxLen := h.le
  unfold maxLen at hmax
  obtain ⟨a, cap, rfl⟩ := h.form
  obtain ⟨ua, ucap, rfl⟩ := Row.form2 hb
  clear h hb
  go_enter Try.func10, Try.ntmps10
  go_wp2_with fail
  all_goals first | (go_ret; exact ⟨⟨_, rfl⟩, rfl⟩) | skip
  all_goals
    go_loopw [5] (fun iv wr => ∃ i : Nat, i ≤ L.length ∧ iv = .int .i64 (i : Nat) ∧ w = wr) (fun iv _ => L.length - (intOf iv).toNat)
    case atStart => exact ⟨0, by omega, rfl, rfl⟩
    case round =>
      obtain ⟨i, hi, rfl, rfl⟩ := hrel
      by_cases hlt : i < L.length
      · obtain ⟨g, o, pa, pc, hga, hg, d0, hp⟩ := HS.out.at hlt
        subst hga
        have i1 : (0 : Int) ≤ (i : Int) := by omega
        have i2 : (i : Int) < (L.length : Int) := by omega
        have wi1 : IntKind.i64.wrap ((i : Int) + 1) = (i : Int) + 1 := IntWalk.i64_in _ (by omega)
        clear hp
        generalize L[i].length = n at *
        go_wp2_with fail
        all_goals first | (go_ret; exact ⟨⟨_, rfl⟩, rfl⟩) | exact ⟨⟨i + 1, by omega, by go_num, rfl⟩, by simp [intOf]; omega⟩ | exact ⟨⟨i + 1, by omega, by go_num, trivial⟩, by simp [intOf]; omega⟩
      · obtain rfl : i = L.length := by omega
        have i2 : ¬ ((L.length : Int) < (L.length : Int)) := by omega
        go_wp2_with fail
        all_goals (go_ret; exact ⟨⟨_, rfl⟩, rfl⟩)
end Go.Proofs.Ytafdaiidnphbaaa

/- Patterns freshly made: append, the values of Join. -/
namespace Go.Proofs.Ytafdaiidnphbaaa
open Go.RowKit Go.Sort

/-- a pattern freshly made, and an error's number -/
def PatP (w : World) (l : List El) (x : Int) (e : Ending) (w' : World) : Prop := ∃ v, e = .returned (.tuple #[v, .int .i64 x]) ∧ w'.ownsRow w.heap.size 70 7 v l.length (pcells l) ∧ Below w.heap.size w w'
theorem infoEl : (Try.prog.info? 70).map (fun i => (i.zero, i.size, i.bytes)) = some (some (.agg #[.bool false, .int .u64 0, .int .u64 0, .int .u64 0, .int .u64 0, .int .i64 0, .int .i64 0]), 7, 56) := by kernel_rfl
theorem pcells_len (l : List El) : (pcells l).length = l.length * 7 := by
  induction l with
  | nil => rfl
  | cons x l ih => simp [pcells, pcell] at ih ⊢; omega
theorem pcells_append (l m : List El) : pcells (l ++ m) = pcells l ++ pcells m := by simp [pcells]
/-- append to a pattern that the call owns -/
theorem app_el {w : World} {base : Nat} {v v2 : Value} {l m : List El} (hown : w.ownsRow base 70 7 v l.length (pcells l)) (hr : Pats w v2 m) (hl : l.length + m.length ≤ 2000) (hbase : base ≤ w.heap.size) :
    ∃ a cap w', (Builtin.append_ #[22, 22] 22 #[v, v2]).run Try.prog w = .ok (.slice a (l ++ m).length cap) w' ∧ w'.ownsRow base 70 7 (.slice a (l ++ m).length cap) (l ++ m).length (pcells (l ++ m)) ∧ Below base w w' := by
  obtain ⟨j0, hj, hy0, hy1, hy2⟩ := info_parts infoEl
  obtain ⟨v', w', h1, h2, h3⟩ := append_row (P := Try.prog) base 22 22 70 Try.underlying22 hj hy0 hy1 hy2 rfl (by decide) hown hr (pcells_one _) (by unfold maxLen; omega) (by omega) hbase
  rw [← List.length_append, ← pcells_append] at h2
  obtain ⟨a, cap, rfl⟩ := Row.form2 (Row.of_owns h2)
  exact ⟨a, cap, w', h1, h2, (Below.refl base w).grown h3 hbase (fun q e => (hown.lt q e).1)⟩
def gapV (low high : Int) : El := ⟨true, 0#256, low, high⟩
def joinL (p q : List El) (low high : Int) : List El := p ++ (if 0 < high then [gapV low high] else []) ++ q
def joinE (p q : List El) (low high : Int) : Int :=
  if (checkV p).2 = 0 then if (checkV q).2 = 0 then if low < 0 ∨ high < low ∨ 16 < high then 7 else if 512 < (joinL p q low high).length then 3 else 0 else (checkV q).2 else (checkV p).2
def joinV (p q : List El) (low high : Int) : List El := if joinE p q low high = 0 then joinL p q low high else []
theorem joinV_bad {p q : List El} {low high E : Int} (h : joinE p q low high = E) (h0 : E ≠ 0) : joinV p q low high = [] := by unfold joinV; rw [if_neg (h ▸ h0)]
theorem joinV_ok {p q : List El} {low high : Int} (h : joinE p q low high = 0) : joinV p q low high = joinL p q low high := by unfold joinV; rw [if_pos h]
theorem lit_el (W : World) (x : El) : Pats (W.alloc (.cells (pcell x).toArray 70)) (.slice (some ⟨W.heap.size, 0, none⟩) 1 1) [x] := by
  have := Row.lit W 70 7 1 (pcells [x]) (by simp [pcells, pcell]) (by unfold maxLen; omega)
  exact this
abbrev gcell (low high : Int) : Array Value := #[.bool true, .int .u64 0, .int .u64 0, .int .u64 0, .int .u64 0, .int .i64 low, .int .i64 high]
theorem gcell_eq (low high : Int) : (pcell (gapV low high)).toArray = gcell low high := by
  have h0 : word 0#256 0 = 0 := by decide
  have h1 : word 0#256 1 = 0 := by decide
  have h2 : word 0#256 2 = 0 := by decide
  have h3 : word 0#256 3 = 0 := by decide
  simp [pcell, gapV, h0, h1, h2, h3]
theorem lit_gap (W : World) (low high : Int) : Pats (W.alloc (.cells (gcell low high) 70)) (.slice (some ⟨W.heap.size, 0, none⟩) 1 1) [gapV low high] := by
  have := lit_el W (gapV low high)
  rwa [gcell_eq] at this
end Go.Proofs.Ytafdaiidnphbaaa

/- Arguments: patterns, bytes, lists of bytes. -/
namespace Go.Proofs.Ytafdaiidnphbaaa
open Go.RowKit Go.ChangeShapes Go.WideShapes Go.Deep

theorem flat_len {f : Nat → List Value} {size : Nat} : ∀ n, (∀ i, i < n → (f i).length = size) → ((List.range n).flatMap f).length = n * size
  | 0, _ => by simp
  | n + 1, h => by
    rw [List.range_succ, List.flatMap_append, List.length_append, flat_len n (fun i hi => h i (by omega)), List.flatMap_cons, List.flatMap_nil, List.append_nil, h n (by omega), Nat.add_mul]
    omega
theorem flat_get {f : Nat → List Value} {size : Nat} : ∀ n, (∀ i, i < n → (f i).length = size) → ∀ i r, i < n → r < size → ((List.range n).flatMap f)[i * size + r]? = (f i)[r]?
  | 0, _, i, r, hi, _ => by omega
  | n + 1, h, i, r, hi, hr => by
    have hl := flat_len (f := f) n (fun i hi => h i (by omega))
    rw [List.range_succ, List.flatMap_append, List.flatMap_cons, List.flatMap_nil, List.append_nil]
    by_cases e : i = n
    · subst e
      rw [List.getElem?_append_right (by omega), hl, show i * size + r - i * size = r by omega]
    · have : (i + 1) * size ≤ n * size := Nat.mul_le_mul_right _ (by omega)
      rw [Nat.add_mul] at this
      rw [List.getElem?_append_left (by omega)]
      exact flat_get n (fun i hi => h i (by omega)) i r (by omega) hr

theorem row_of {H : Type} {enc : TypeId × Value → H} {P : Program} {W : World} {fuel : Nat} {t e : TypeId} {size : Nat} {v : Value} {x : DataW H × List MemPlace} (ht : P.underlying t = some (.slice e)) (hC : P.cellsOf e = size) (hs : 0 < size)
    (h : DataW.trod enc P W 0 (fun _ => true) true fuel t [v] = some x) :
    ∃ (len : Nat) (f : Nat → List Value), (∀ i, i < len → (f i).length = size) ∧ Row W size v len ((List.range len).flatMap f) ∧ ∀ i, i < len → ∃ n y, DataW.trod enc P W 0 (fun _ => true) true n e (f i) = some y := by
  rcases open_slice ht h with ⟨e1, _⟩ | ⟨a, len, cap, m, n, D, Pl, e1, hb, hl, hm, hmm, _, hx⟩
  · obtain rfl : v = .slice none 0 0 := by simpa using e1
    exact ⟨0, fun _ => [], fun i hi => by omega, ⟨by simp, by simp, none, 0, rfl, fun _ => rfl, .inl rfl⟩, fun i hi => by omega⟩
  · obtain rfl : v = .slice (some a) len cap := by simpa using e1
    have hm' : m = cap := by simpa using hmm
    subst hm'
    have hx' : ∀ i, ∃ cs : List Value, i < m → (cs.length = size ∧ (∀ j (h : j < cs.length), W.cell? ((a.add (i * size)).add j) = some cs[j]) ∧ ∃ n y, DataW.trod enc P W 0 (fun _ => true) true n e cs = some y) := by
      intro i
      by_cases hi : i < m
      · obtain ⟨cs', hc, ht'⟩ := hx i hi
        rw [hC] at hc
        obtain ⟨_, hcl, hat⟩ := World.cells?_some hc
        refine ⟨cs', fun _ => ⟨by omega, fun j hj => ?_, _, _, ht'⟩⟩
        have := hat j (by omega)
        first | exact this | (rw [this]; exact List.getElem?_eq_getElem hj)
      · exact ⟨[], fun h => absurd h hi⟩
    obtain ⟨f, hf⟩ := Classical.axiomOfChoice hx'
    have hfl : ∀ i, i < len → (f i).length = size := fun i hi => (hf i (by omega)).1
    refine ⟨len, f, hfl, ⟨flat_len len hfl, by omega, some a, m, rfl, (by intro e; cases e), ?_⟩, fun i hi => (hf i (by omega)).2.2⟩
    by_cases h0 : len = 0
    · exact .inl h0
    · right
      obtain ⟨g, o, z⟩ := a
      have hc0 := (hf 0 (by omega)).2.1 0 (by rw [(hf 0 (by omega)).1]; exact hs)
      cases z with
      | some z => have := World.cell?_spot hc0; simp [Addr.add] at this
      | none =>
        refine ⟨g, o, rfl, fun j hj => ?_⟩
        have hjq : j / size < len := (Nat.div_lt_iff_lt_mul hs).2 hj
        have hjr : j % size < size := Nat.mod_lt _ hs
        have e2 := flat_get len hfl (j / size) (j % size) hjq hjr
        rw [Nat.mul_comm, Nat.div_add_mod] at e2
        rw [e2]
        have hl2 := (hf (j / size) (by omega)).1
        have hc := (hf (j / size) (by omega)).2.1 (j % size) (by omega)
        rw [List.getElem?_eq_getElem (by omega), ← hc, add_plain, add_plain]
        congr 2
        rw [Nat.add_assoc, Nat.mul_comm, Nat.div_add_mod]

theorem choose_list {α : Type} {f : Nat → List Value} {encz : α → List Value} : ∀ len, (∀ i, i < len → ∃ z, f i = encz z) → ∃ l : List α, l.length = len ∧ (List.range len).flatMap f = l.flatMap encz
  | 0, _ => ⟨[], rfl, by simp⟩
  | n + 1, h => by
    obtain ⟨l, h1, h2⟩ := choose_list n (fun i hi => h i (by omega))
    obtain ⟨z, hz⟩ := h n (by omega)
    exact ⟨l ++ [z], by simp [h1], by rw [List.range_succ, List.flatMap_append, h2, List.flatMap_append]; simp [hz]⟩

set_option maxRecDepth 100000 in
theorem class_cells {H : Type} {enc : TypeId × Value → H} {W : World} {n : Nat} {cs : List Value} {y : DataW H × List MemPlace}
    (h : DataW.trod enc Try.prog W 0 (fun _ => true) true n 68 cs = some y) : ∃ s : CSet, cs = (setC s).toList := by
  obtain ⟨xs, m, _, _, hcl, hxl, hf⟩ := DataW.trod_array Try.underlying68 h
  have hc : cs.length = 4 := hcl.trans (by kernel_rfl)
  have h1 : Try.prog.cellsOf 66 = 1 := by kernel_rfl
  match cs, hc, xs, hxl with
  | [c0, c1, c2, c3], _, [x0, x1, x2, x3], _ =>
    have g0 := hf 0 (by omega)
    have g1 := hf 1 (by omega)
    have g2 := hf 2 (by omega)
    have g3 := hf 3 (by omega)
    rw [h1] at g0 g1 g2 g3
    obtain ⟨a, e0, _, w0⟩ := DataW.trod_int Try.underlying66 (g0.trans rfl)
    obtain ⟨b, e1, _, w1⟩ := DataW.trod_int Try.underlying66 (g1.trans rfl)
    obtain ⟨c, e2, _, w2⟩ := DataW.trod_int Try.underlying66 (g2.trans rfl)
    obtain ⟨d, e3, _, w3⟩ := DataW.trod_int Try.underlying66 (g3.trans rfl)
    simp at e0 e1 e2 e3
    have hu : ∀ n : Int, (Lit.int .u64 n).wf = true → 0 ≤ n ∧ n ≤ 18446744073709551615 := fun n h => by
      simpa [Lit.wf, IntKind.min, IntKind.max, IntKind.signed, IntKind.bits] using h
    have ha := hu _ w0
    have hb := hu _ w1
    have hcc := hu _ w2
    have hd := hu _ w3
    obtain ⟨a, rfl⟩ : ∃ n : Nat, a = n := ⟨a.toNat, by omega⟩
    obtain ⟨b, rfl⟩ : ∃ n : Nat, b = n := ⟨b.toNat, by omega⟩
    obtain ⟨c, rfl⟩ : ∃ n : Nat, c = n := ⟨c.toNat, by omega⟩
    obtain ⟨d, rfl⟩ : ∃ n : Nat, d = n := ⟨d.toNat, by omega⟩
    refine ⟨BitVec.ofNat 256 (a + 2 ^ 64 * b + 2 ^ 128 * c + 2 ^ 192 * d), ?_⟩
    have h : a + 2 ^ 64 * b + 2 ^ 128 * c + 2 ^ 192 * d < 2 ^ 256 := by omega
    rw [e0, e1, e2, e3]
    unfold setC word
    rw [BitVec.toNat_ofNat, Nat.mod_eq_of_lt h]
    have e0 : (a + 2 ^ 64 * b + 2 ^ 128 * c + 2 ^ 192 * d) / 2 ^ (64 * 0) % 2 ^ 64 = a := by omega
    have e1 : (a + 2 ^ 64 * b + 2 ^ 128 * c + 2 ^ 192 * d) / 2 ^ (64 * 1) % 2 ^ 64 = b := by omega
    have e2 : (a + 2 ^ 64 * b + 2 ^ 128 * c + 2 ^ 192 * d) / 2 ^ (64 * 2) % 2 ^ 64 = c := by omega
    have e3 : (a + 2 ^ 64 * b + 2 ^ 128 * c + 2 ^ 192 * d) / 2 ^ (64 * 3) % 2 ^ 64 = d := by omega
    rw [e0, e1, e2, e3]


set_option maxRecDepth 100000 in
theorem elem_cells {H : Type} {enc : TypeId × Value → H} {W : World} {n : Nat} {cs : List Value} {y : DataW H × List MemPlace}
    (h : DataW.trod enc Try.prog W 0 (fun _ => true) true n 70 cs = some y) : ∃ x : El, cs = pcell x := by
  obtain ⟨xs, m, _, _, hcl, hxl, hf⟩ := DataW.trod_struct Try.underlying70 h
  have hc : cs.length = 7 := hcl.trans (by kernel_rfl)
  have h1 : Try.prog.cellsOf 3 = 1 := by kernel_rfl
  have h2 : Try.prog.cellsOf 4 = 1 := by kernel_rfl
  have h3 : Try.prog.cellsOf 68 = 4 := by kernel_rfl
  match cs, hc, xs, hxl with
  | [c0, c1, c2, c3, c4, c5, c6], _, [x0, x1, x2, x3], _ =>
    have g0 : DataW.trod enc Try.prog W 0 (fun _ => true) true m 4 (([c0, c1, c2, c3, c4, c5, c6].drop 0).take (Try.prog.cellsOf 4)) = _ := hf 0 _ rfl
    have g1 : DataW.trod enc Try.prog W 0 (fun _ => true) true m 68 (([c0, c1, c2, c3, c4, c5, c6].drop 1).take (Try.prog.cellsOf 68)) = _ := hf 1 _ rfl
    have g2 : DataW.trod enc Try.prog W 0 (fun _ => true) true m 3 (([c0, c1, c2, c3, c4, c5, c6].drop 5).take (Try.prog.cellsOf 3)) = _ := hf 2 _ rfl
    have g3 : DataW.trod enc Try.prog W 0 (fun _ => true) true m 3 (([c0, c1, c2, c3, c4, c5, c6].drop 6).take (Try.prog.cellsOf 3)) = _ := hf 3 _ rfl
    rw [h2] at g0
    rw [h3] at g1
    rw [h1] at g2 g3
    obtain ⟨a, e0, _⟩ := DataW.trod_bool Try.underlying4 (g0.trans rfl)
    obtain ⟨s, e1⟩ := class_cells (g1.trans rfl)
    obtain ⟨b, e2, _⟩ := DataW.trod_int Try.underlying3 (g2.trans rfl)
    obtain ⟨c, e3, _⟩ := DataW.trod_int Try.underlying3 (g3.trans rfl)
    simp [setC] at e0 e1 e2 e3
    obtain ⟨e4, e5, e6, e7⟩ := e1
    exact ⟨⟨a, s, b, c⟩, by rw [e0, e2, e3, e4, e5, e6, e7]; rfl⟩
/-- an argument that is a pattern -/
theorem pats_of {H : Type} {enc : TypeId × Value → H} {W : World} {n : Nat} {v : Value} {y : DataW H × List MemPlace}
    (h : DataW.trod enc Try.prog W 0 (fun _ => true) true n 22 [v] = some y) : ∃ l, Pats W v l := by
  obtain ⟨len, f, _, hr, hf⟩ := row_of Try.underlying22 (size := 7) (by kernel_rfl) (by omega) h
  obtain ⟨l, h1, h2⟩ := choose_list (encz := pcell) len (fun i hi => by obtain ⟨_, _, ht⟩ := hf i hi; exact elem_cells ht)
  refine ⟨l, ?_⟩
  unfold Pats pcells
  rw [h1, ← h2]
  exact hr
theorem byte_cell {H : Type} {enc : TypeId × Value → H} {W : World} {n : Nat} {cs : List Value} {y : DataW H × List MemPlace}
    (h : DataW.trod enc Try.prog W 0 (fun _ => true) true n 5 cs = some y) (hl : cs.length = 1) : ∃ z : UInt8, cs = [.int .u8 (z.toNat : Int)] := by
  match cs, hl with
  | [c], _ =>
    obtain ⟨a, e0, _, w0⟩ := DataW.trod_int Try.underlying5 h
    have h0 : 0 ≤ a ∧ a ≤ 255 := by simpa [Lit.wf, IntKind.min, IntKind.max, IntKind.signed, IntKind.bits] using w0
    simp at e0
    exact ⟨UInt8.ofNat a.toNat, by rw [e0, UInt8.toNat_ofNat']; congr 3; omega⟩
/-- a slice of bytes -/
theorem bytes_of {H : Type} {enc : TypeId × Value → H} {W : World} {n : Nat} {v : Value} {y : DataW H × List MemPlace}
    (h : DataW.trod enc Try.prog W 0 (fun _ => true) true n 23 [v] = some y) : ∃ l : List UInt8, Row W 1 v l.length (bcells l) := by
  obtain ⟨len, f, h1, h2, h3⟩ := row_of Try.underlying23 (size := 1) (by kernel_rfl) (by omega) h
  obtain ⟨l, hl, he⟩ := choose_list (α := UInt8) (encz := fun z => [.int .u8 (z.toNat : Int)]) len (fun i hi => by
    obtain ⟨n, y, hy⟩ := h3 i hi
    exact byte_cell hy (h1 i hi))
  have e : ∀ l : List UInt8, l.flatMap (fun z => [Value.int .u8 (z.toNat : Int)]) = bcells l := fun l => by
    unfold bcells
    induction l with
    | nil => rfl
    | cons a l ih => rw [List.flatMap_cons, ih]; rfl
  rw [he, e l, ← hl] at h2
  exact ⟨l, h2⟩
end Go.Proofs.Ytafdaiidnphbaaa

/- Parts of slices of bytes. -/
namespace Go.Proofs.Ytafdaiidnphbaaa
open Go.RowKit Go.Deep

/-- a slice within its capacity -/
def CapOk (v : Value) : Prop := ∃ a n c, v = .slice a n c ∧ n ≤ c
theorem CapOk.le {a : Option Addr} {n c : Nat} (h : CapOk (.slice a n c)) : n ≤ c := by
  obtain ⟨_, _, _, e, h⟩ := h
  cases e; exact h
theorem cap_of {H : Type} {enc : TypeId × Value → H} {P : Program} {W : World} {fuel : Nat} {t e : TypeId} {v : Value} {x : DataW H × List MemPlace} (ht : P.underlying t = some (.slice e))
    (h : DataW.trod enc P W 0 (fun _ => true) true fuel t [v] = some x) : CapOk v := by
  rcases open_slice ht h with ⟨e1, _⟩ | ⟨a, len, cap, m, n, D, Pl, e1, hb, hl, hm, hmm, _, hx⟩
  · obtain rfl : v = .slice none 0 0 := by simpa using e1
    exact ⟨_, _, _, rfl, Nat.le_refl _⟩
  · obtain rfl : v = .slice (some a) len cap := by simpa using e1
    exact ⟨_, _, _, rfl, hl⟩
theorem row_cut {w : World} {s n cap : Nat} {a : Option Addr} {xs : List Value} (h : Row w s (.slice a n cap) n xs) {lo hi : Nat} (h1 : lo ≤ hi) (h2 : hi ≤ n) (hc : n ≤ cap) :
    Row w s (.slice (if cap = lo then a else a.map (·.add (lo * s))) (hi - lo) (cap - lo)) (hi - lo) ((xs.take (hi * s)).drop (lo * s)) := by
  obtain ⟨hl, hm, a', cap', e, hn, hr⟩ := h
  cases e
  have hmul : hi * s ≤ n * s := Nat.mul_le_mul_right _ h2
  have hlen : ((xs.take (hi * s)).drop (lo * s)).length = (hi - lo) * s := by rw [List.length_drop, List.length_take, hl, Nat.sub_mul, Nat.min_eq_left hmul]
  refine ⟨hlen, by omega, _, _, rfl, fun h0 => ?_, ?_⟩
  · by_cases hcl : cap = lo
    · omega
    · rw [if_neg hcl] at h0
      cases a with
      | none => have := hn rfl; omega
      | some a => simp at h0
  · by_cases h0 : hi - lo = 0
    · exact .inl h0
    · right
      rcases hr with hr | ⟨g, o, rfl, hr⟩
      · omega
      · rw [if_neg (by omega)]
        refine ⟨g, o + lo * s, by simp [Addr.add], fun j hj => ?_⟩
        have hj2 : lo * s + j < hi * s := by rw [Nat.sub_mul] at hj; omega
        rw [List.getElem?_drop, List.getElem?_take, if_pos hj2, ← hr (lo * s + j) (by omega), Nat.add_assoc]
theorem bcells_cut (b : List UInt8) (lo hi : Nat) : ((bcells b).take (hi * 1)).drop (lo * 1) = bcells ((b.take hi).drop lo) := by
  simp only [bcells, Nat.mul_one, List.map_drop, List.map_take]
theorem bytes_cut {w : World} {a : Option Addr} {cap : Nat} {b : List UInt8} (h : Bytes w (.slice a b.length cap) b) (hc : b.length ≤ cap) {lo hi : Nat} (h1 : lo ≤ hi) (h2 : hi ≤ b.length) (L H : Int) (eL : L = lo) (eH : H = hi) :
    ∃ a' cap', (∀ w', (Instr.slice 23 (.slice a b.length cap) (some (.int .i64 L)) (some (.int .i64 H)) none).run Try.prog w' = .ok (.slice a' (hi - lo) cap') w') ∧ Bytes w (.slice a' (hi - lo) cap') ((b.take hi).drop lo) := by
  refine ⟨if cap = lo then a else a.map (·.add (lo * 1)), cap - lo, fun w' => ?_, ?_⟩
  rotate_left
  · have := row_cut h h1 h2 hc
    rw [bcells_cut] at this
    have hl : ((b.take hi).drop lo).length = hi - lo := by rw [List.length_drop, List.length_take, Nat.min_eq_left h2]
    unfold Bytes
    rw [hl]
    exact this
  · have hsz : ∀ w', (sizeOf (Try.prog.elem 23)).run Try.prog w' = .ok 1 w' := fun w' => by kernel_rfl
    rw [run_slice_lh (P := Try.prog) w' 23 a b.length cap (by kernel_rfl) .i64 .i64 L H (by omega) (by omega) (by omega), hsz]
    subst eL eH
    simp only [Result.andThen, sliced, Int.toNat_natCast]
theorem bytes_head {w : World} {a : Option Addr} {cap : Nat} {b : List UInt8} (h : Bytes w (.slice a b.length cap) b) (hc : b.length ≤ cap) {hi : Nat} (h2 : hi ≤ b.length) (H : Int) (eH : H = hi) :
    ∃ a' cap', (∀ w', (Instr.slice 23 (.slice a b.length cap) none (some (.int .i64 H)) none).run Try.prog w' = .ok (.slice a' hi cap') w') ∧ Bytes w (.slice a' hi cap') (b.take hi) := by
  refine ⟨if cap = 0 then a else a.map (·.add (0 * 1)), cap - 0, fun w' => ?_, ?_⟩
  rotate_left
  · have := row_cut h (Nat.zero_le hi) h2 hc
    rw [bcells_cut, List.drop_zero] at this
    have hl : (b.take hi).length = hi - 0 := by rw [List.length_take, Nat.min_eq_left h2]; rfl
    unfold Bytes
    rw [hl]
    exact this
  · have hsz : ∀ w', (sizeOf (Try.prog.elem 23)).run Try.prog w' = .ok 1 w' := fun w' => by kernel_rfl
    rw [run_slice_h (P := Try.prog) w' 23 a b.length cap (by kernel_rfl) .i64 H (by omega) (by omega), hsz]
    subst eH
    simp only [Result.andThen, sliced, Int.toNat_natCast]
    rfl
theorem bytes_tail {w : World} {a : Option Addr} {cap : Nat} {b : List UInt8} (h : Bytes w (.slice a b.length cap) b) (hc : b.length ≤ cap) {lo : Nat} (h1 : lo ≤ b.length) (L : Int) (eL : L = lo) :
    ∃ a' cap', (∀ w', (Instr.slice 23 (.slice a b.length cap) (some (.int .i64 L)) none none).run Try.prog w' = .ok (.slice a' (b.length - lo) cap') w') ∧ Bytes w (.slice a' (b.length - lo) cap') (b.drop lo) := by
  refine ⟨if cap = lo then a else a.map (·.add (lo * 1)), cap - lo, fun w' => ?_, ?_⟩
  rotate_left
  · have := row_cut h h1 (Nat.le_refl _) hc
    rw [bcells_cut, List.take_length] at this
    have hl : (b.drop lo).length = b.length - lo := by rw [List.length_drop]
    unfold Bytes
    rw [hl]
    exact this
  · have hsz : ∀ w', (sizeOf (Try.prog.elem 23)).run Try.prog w' = .ok 1 w' := fun w' => by kernel_rfl
    rw [run_slice_l (P := Try.prog) w' 23 a b.length cap (by kernel_rfl) .i64 L (by omega) (by omega), hsz]
    subst eL
    simp only [Result.andThen, sliced, Int.toNat_natCast]
end Go.Proofs.Ytafdaiidnphbaaa

/- Arguments: lists of hits, sets of patterns. -/
namespace Go.Proofs.Ytafdaiidnphbaaa
open Go.RowKit Go.ChangeShapes Go.WideShapes Go.Deep

set_option maxRecDepth 100000 in
theorem hit_cells {H : Type} {enc : TypeId × Value → H} {W : World} {n : Nat} {cs : List Value} {y : DataW H × List MemPlace}
    (h : DataW.trod enc Try.prog W 0 (fun _ => true) true n 38 cs = some y) : ∃ x : Hit, cs = hcell x := by
  obtain ⟨xs, m, _, _, hcl, hxl, hf⟩ := DataW.trod_struct Try.underlying38 h
  have hc : cs.length = 2 := hcl.trans (by kernel_rfl)
  have h1 : Try.prog.cellsOf 3 = 1 := by kernel_rfl
  match cs, hc, xs, hxl with
  | [c0, c1], _, [x0, x1], _ =>
    have g0 : DataW.trod enc Try.prog W 0 (fun _ => true) true m 3 (([c0, c1].drop 0).take (Try.prog.cellsOf 3)) = _ := hf 0 _ rfl
    have g1 : DataW.trod enc Try.prog W 0 (fun _ => true) true m 3 (([c0, c1].drop 1).take (Try.prog.cellsOf 3)) = _ := hf 1 _ rfl
    rw [h1] at g0 g1
    obtain ⟨a, e0, _⟩ := DataW.trod_int Try.underlying3 (g0.trans rfl)
    obtain ⟨b, e1, _⟩ := DataW.trod_int Try.underlying3 (g1.trans rfl)
    simp at e0 e1
    exact ⟨(a, b), by rw [e0, e1]; rfl⟩
/-- an argument that is a list of hits -/
theorem hits_of {H : Type} {enc : TypeId × Value → H} {W : World} {n : Nat} {v : Value} {y : DataW H × List MemPlace}
    (h : DataW.trod enc Try.prog W 0 (fun _ => true) true n 34 [v] = some y) : ∃ l, Hits W v l := by
  obtain ⟨len, f, _, hr, hf⟩ := row_of Try.underlying34 (size := 2) (by kernel_rfl) (by omega) h
  obtain ⟨l, h1, h2⟩ := choose_list (encz := hcell) len (fun i hi => by obtain ⟨_, _, ht⟩ := hf i hi; exact hit_cells ht)
  refine ⟨l, ?_⟩
  unfold Hits hcells
  rw [h1, ← h2]
  exact hr
theorem choose_row {Q : Value → List El → Prop} {f : Nat → List Value} : ∀ len, (∀ i, i < len → ∃ v p, f i = [v] ∧ Q v p) → ∃ (vs : List Value) (L : List (List El)), vs.length = len ∧ L.length = len ∧ (List.range len).flatMap f = vs ∧ ∀ (i : Nat) (h : i < L.length) (h' : i < vs.length), Q vs[i] L[i]
  | 0, _ => ⟨[], [], rfl, rfl, by simp, fun i h => absurd h (by simp)⟩
  | n + 1, h => by
    obtain ⟨vs, L, h1, h2, h3, h4⟩ := choose_row n (fun i hi => h i (by omega))
    obtain ⟨v, p, hz, hq⟩ := h n (by omega)
    refine ⟨vs ++ [v], L ++ [p], by simp [h1], by simp [h2], by rw [List.range_succ, List.flatMap_append, h3]; simp [hz], fun i hi hi' => ?_⟩
    by_cases e : i < n
    · rw [List.getElem_append_left (by omega), List.getElem_append_left (by omega)]
      exact h4 i _ _
    · obtain rfl : i = n := by simp at hi; omega
      rw [List.getElem_append_right (by omega), List.getElem_append_right (by omega)]
      simpa [h1, h2] using hq
/-- an argument that is a set of patterns -/
theorem sets_of {H : Type} {enc : TypeId × Value → H} {W : World} {n : Nat} {v : Value} {y : DataW H × List MemPlace}
    (h : DataW.trod enc Try.prog W 0 (fun _ => true) true n 25 [v] = some y) : ∃ L, Sets W v L := by
  obtain ⟨len, f, h1, hr, hf⟩ := row_of Try.underlying25 (size := 1) (by kernel_rfl) (by omega) h
  obtain ⟨vs, L, h2, h3, h4, h5⟩ := choose_row (Q := fun v p => Pats W v p) (f := f) len (fun i hi => by
    obtain ⟨m, z, ht⟩ := hf i hi
    have hl := h1 i hi
    match hfi : f i, hl with
    | [u], _ =>
      rw [hfi] at ht
      obtain ⟨p, hp⟩ := pats_of ht
      exact ⟨u, p, rfl, hp⟩)
  rw [h4] at hr
  exact ⟨L, vs, by omega, by rw [h3]; exact hr, h5⟩
/-- string of a slice of bytes -/
theorem row_str {w : World} {v : Value} {l : List UInt8} (h : Row w 1 v l.length (bcells l)) : (convert 23 9 v).run Try.prog w = .ok (.string (str l)) w := by
  obtain ⟨h1, h2, a, cap, rfl, h4, h3⟩ := h
  by_cases hz : l.length = 0
  · obtain rfl : l = [] := List.length_eq_zero_iff.1 hz
    show (convert 23 9 (.slice a 0 cap)).run Try.prog w = .ok (.string (str [])) w
    rw [run_convert_bytes_string w 23 9 5 _ 0 cap Try.underlying23 Try.underlying5 Try.underlying9]
    cases a <;> simp [Conv.bytesToString, loadCells]
    all_goals rfl
  · rcases h3 with h3 | ⟨g, o, rfl, hc⟩
    · exact absurd h3 hz
    · rw [← strOfNums_bytes]
      refine run_convert_bytes_arg w 23 5 Try.underlying23 Try.underlying5 g o l.length cap _ (by simp) (fun i hi => ?_) _ Try.underlying9
      rw [hc i (by omega)]
      simp [bcells, List.getElem?_eq_getElem hi, List.getD]
/-- a set of one pattern, freshly made -/
theorem sets_one {w : World} {v : Value} {p : List El} (h : Pats w v p) : Sets (w.alloc (.cells #[v] 22)) (.slice (some ⟨w.heap.size, 0, none⟩) 1 1) [p] := by
  have hr : Row (w.alloc (.cells #[v] 22)) 1 (.slice (some ⟨w.heap.size, 0, none⟩) 1 1) 1 [v] := Row.of_owns (base := w.heap.size) (e := 22) (World.ownsRow_lit w #[v] 1 (Nat.le_refl _) (by decide) rfl)
  refine ⟨[v], rfl, hr, fun i hi hi' => ?_⟩
  match i, hi with
  | 0, _ => exact Row.below h ((Below.refl _ w).alloc (Nat.le_refl _) _)
end Go.Proofs.Ytafdaiidnphbaaa

/- Plain laws of hits: parts of bytes, cut and moved. -/
namespace Go.Proofs.Ytafdaiidnphbaaa
open Go.RowKit Go.Sort Go.Lib

theorem fit1_part {b : List UInt8} {x : El} {f n i k : Nat} (hk : f + k ≤ n) : Fit1 ((b.take n).drop f) x i k ↔ Fit1 b x (f + i) (f + k) := by
  unfold Fit1
  by_cases hg : x.gap = true
  · rw [if_pos hg, if_pos hg]
    constructor
    · rintro ⟨c, h1, h2, rfl⟩; exact ⟨c, h1, h2, by omega⟩
    · rintro ⟨c, h1, h2, h3⟩; exact ⟨c, h1, h2, by omega⟩
  · rw [if_neg hg, if_neg hg]
    constructor
    · rintro ⟨rfl, y, hy, hh⟩
      refine ⟨by omega, y, ?_, hh⟩
      rw [List.getElem?_drop, List.getElem?_take, if_pos (by omega)] at hy
      exact hy
    · rintro ⟨h3, y, hy, hh⟩
      refine ⟨by omega, y, ?_, hh⟩
      rw [List.getElem?_drop, List.getElem?_take, if_pos (by omega)]
      exact hy
theorem fits_part {b : List UInt8} {f n : Nat} : ∀ {p : List El} {i j : Nat}, f + j ≤ n → (Fits ((b.take n).drop f) p i j ↔ Fits b p (f + i) (f + j))
  | [], i, j, _ => by
    show i = j ↔ f + i = f + j
    omega
  | x :: p, i, j, hj => by
    rw [fits_cons, fits_cons]
    constructor
    · rintro ⟨k, h1, h2⟩
      have := fits_le h2
      exact ⟨f + k, (fit1_part (by omega)).1 h1, (fits_part hj).1 h2⟩
    · rintro ⟨k, h1, h2⟩
      have e1 := fits_le h2
      have e2 := fit1_le h1
      obtain ⟨k, rfl⟩ : ∃ k', k = f + k' := ⟨k - f, by omega⟩
      exact ⟨k, (fit1_part (by omega)).2 h1, (fits_part hj).2 h2⟩
theorem matchV_part {p : List El} {b : List UInt8} {f n : Nat} (hf : f ≤ n) (hn : n ≤ b.length) : matchV p ((b.take n).drop f) = true ↔ Fits b p f n := by
  rw [matchV_fits]
  have hl : ((b.take n).drop f).length = n - f := by rw [List.length_drop, List.length_take, Nat.min_eq_left hn]
  rw [hl, fits_part (by omega)]
  rw [show f + (n - f) = n by omega, Nat.add_zero]

theorem OkP.high {p : List El} (h : OkP p) : ∀ x ∈ p, x.gap = true → 0 ≤ x.low ∧ x.low ≤ x.high ∧ x.high ≤ 16 := by
  intro x hx hg
  obtain ⟨i, hi, rfl⟩ := List.mem_iff_getElem.1 hx
  obtain ⟨_, a, b, c, _⟩ := h.gap hi hg
  exact ⟨a, b, c⟩
theorem fits_lens {b : List UInt8} : ∀ {p : List El} {i j : Nat}, (∀ x ∈ p, x.gap = true → 0 ≤ x.low ∧ x.low ≤ x.high ∧ x.high ≤ 16) → Fits b p i j → (i : Int) + leastV p ≤ j ∧ (j : Int) ≤ i + mostV p
  | [], i, j, _, h => by
    have : i = j := h
    subst this
    simp [leastV, mostV]
  | x :: p, i, j, hg, h => by
    obtain ⟨k, h1, h2⟩ := fits_cons.1 h
    have ih := fits_lens (fun z hz => hg z (by simp [hz])) h2
    have e1 : leastV (x :: p) = lowOf x + leastV p := by simp [leastV]
    have e2 : mostV (x :: p) = highOf x + mostV p := by simp [mostV]
    rw [e1, e2]
    unfold Fit1 at h1
    unfold lowOf highOf
    by_cases hx : x.gap = true
    · rw [if_pos hx] at h1
      rw [if_pos hx, if_pos hx]
      obtain ⟨c, h3, h4, rfl⟩ := h1
      have := hg x (by simp) hx
      simp only [Int.natCast_add] at ih
      omega
    · rw [if_neg hx] at h1
      rw [if_neg hx, if_neg hx]
      obtain ⟨rfl, _⟩ := h1
      simp only [Int.natCast_add, Int.natCast_one] at ih
      omega

theorem hitAt_fits {L : List (List El)} {b : List UInt8} {i m : Nat} (h : i < L.length) : hitAt L b i m = true ↔ ∃ s, Fits b L[i] s m := by
  rw [hitAt_at h, reachP_fits]
  constructor
  · rintro ⟨s, _, hs⟩; exact ⟨s, hs⟩
  · rintro ⟨s, hs⟩; exact ⟨s, rfl, hs⟩
theorem mem_all {L : List (List El)} {b : List UInt8} (h0 : allE L b = 0) (x : Hit) : x ∈ allV L b ↔ ∃ (i e : Nat) (hi : i < L.length), 1 ≤ e ∧ e ≤ b.length ∧ (∃ s, Fits b L[i] s e) ∧ x = ((e : Int), (i : Int)) := by
  rw [allV_eq]
  unfold allR
  rw [if_pos h0, mem_refTo]
  constructor
  · rintro ⟨i, e, hi, h1, h2, hh, hx⟩
    exact ⟨i, e, hi, h1, h2, (hitAt_fits hi).1 hh, hx⟩
  · rintro ⟨i, e, hi, h1, h2, hh, hx⟩
    exact ⟨i, e, hi, h1, h2, (hitAt_fits hi).2 hh, hx⟩
theorem all_strict (L : List (List El)) (b : List UInt8) : Strict (allV L b) := by
  rw [allV_eq]
  unfold allR
  split
  · exact refTo_strict _ _ _
  · exact List.Pairwise.nil
theorem strict_filter {l : List Hit} (f : Hit → Bool) (h : Strict l) : Strict (l.filter f) := List.Pairwise.filter f h
theorem okH_strict {l : List Hit} (h : Strict l) (hl : l.length ≤ 70000) (hr : ∀ x ∈ l, 1 ≤ x.1 ∧ x.1 ≤ 1000000000 ∧ 0 ≤ x.2 ∧ x.2 < 16) : OkH l :=
  ⟨hl, fun _ hi => hr _ (List.getElem_mem hi), fun i hi => (ltOf_iff _ _).2 (pair_at h (Nat.lt_succ_self i) hi)⟩
theorem all_range {L : List (List El)} {b : List UInt8} (h0 : allE L b = 0) : ∀ x ∈ allV L b, 1 ≤ x.1 ∧ x.1 ≤ 4096 ∧ 0 ≤ x.2 ∧ x.2 < 16 := by
  intro x hx
  obtain ⟨i, e, hi, h1, h2, _, rfl⟩ := (mem_all h0 x).1 hx
  obtain ⟨hs, hb⟩ := okS_of_all h0
  have := hs.le
  refine ⟨?_, ?_, ?_, ?_⟩ <;> simp only <;> omega
theorem all_okH {L : List (List El)} {b : List UInt8} (h0 : allE L b = 0) : OkH (allV L b) :=
  okH_strict (all_strict L b) (all_len h0) fun x hx => by have := all_range h0 x hx; omega
theorem okH_filter {l : List Hit} (f : Hit → Bool) (h : OkH l) : OkH (l.filter f) :=
  okH_strict (strict_filter f (strict_of h)) (Nat.le_trans (List.length_filter_le _ _) h.le) fun x hx => by
    obtain ⟨i, hi, rfl⟩ := List.mem_iff_getElem.1 (List.mem_filter.1 hx).1
    exact h.el i hi
theorem allE_take {L : List (List El)} {b : List UInt8} (h0 : allE L b = 0) (n : Nat) : allE L (b.take n) = 0 := by
  unfold allE at *
  by_cases h1 : (checkS L).2 ≠ 0
  · rw [if_pos h1] at h0; exact absurd h0 h1
  · rw [if_neg h1] at h0 ⊢
    by_cases h2 : 4096 < b.length
    · rw [if_pos h2] at h0; exact absurd h0 (by decide)
    · rw [if_neg]
      rw [List.length_take]; omega
theorem allE_part {L : List (List El)} {b : List UInt8} (h0 : allE L b = 0) (f n : Nat) : allE L ((b.take n).drop f) = 0 := by
  have h0 := allE_take h0 n
  unfold allE at *
  by_cases h1 : (checkS L).2 ≠ 0
  · rw [if_pos h1] at h0; exact absurd h0 h1
  · rw [if_neg h1] at h0 ⊢
    by_cases h2 : 4096 < (b.take n).length
    · rw [if_pos h2] at h0; exact absurd h0 (by decide)
    · rw [if_neg]
      rw [List.length_drop]; omega
theorem inPart_iff (lo hi : Int) (h : Hit) : inPart lo hi h = true ↔ lo < h.1 ∧ h.1 ≤ hi := by unfold inPart; rw [Bool.and_eq_true, decide_eq_true_eq, decide_eq_true_eq]

/-! ### parts, one after the other -/
def hitsTo (L : List (List El)) (b : List UInt8) (n : Nat) : List Hit := (allV L b).filter (inPart 0 (n : Int))
theorem all_take {L : List (List El)} {b : List UInt8} (h0 : allE L b = 0) {n : Nat} (hn : n ≤ b.length) : allV L (b.take n) = hitsTo L b n := by
  refine strict_ext (all_strict _ _) (strict_filter _ (all_strict _ _)) fun x => ?_
  unfold hitsTo
  rw [List.mem_filter, inPart_iff, mem_all (allE_take h0 n), mem_all h0]
  have hl : (b.take n).length = n := by rw [List.length_take, Nat.min_eq_left hn]
  have hp : ∀ (p : List El) (s e : Nat), e ≤ n → (Fits (b.take n) p s e ↔ Fits b p s e) := fun p s e he => by
    have := @fits_part b 0 n p s e (by omega)
    rwa [List.drop_zero, Nat.zero_add, Nat.zero_add] at this
  constructor
  · rintro ⟨i, e, hi, h1, h2, ⟨s, hs⟩, rfl⟩
    rw [hl] at h2
    refine ⟨⟨i, e, hi, h1, by omega, ⟨s, (hp _ _ _ h2).1 hs⟩, rfl⟩, ?_, ?_⟩ <;> simp only <;> omega
  · rintro ⟨⟨i, e, hi, h1, h2, ⟨s, hs⟩, rfl⟩, h3, h4⟩
    simp only at h3 h4
    exact ⟨i, e, hi, h1, by omega, ⟨s, (hp _ _ _ (by omega)).2 hs⟩, rfl⟩
theorem hitsTo_zero (L : List (List El)) (b : List UInt8) : hitsTo L b 0 = [] := by
  unfold hitsTo
  rw [List.filter_eq_nil_iff]
  intro x _ hx
  have := (inPart_iff _ _ _).1 hx
  omega
theorem hitsTo_all {L : List (List El)} {b : List UInt8} (h0 : allE L b = 0) : hitsTo L b b.length = allV L b := by
  unfold hitsTo
  rw [List.filter_eq_self]
  intro x hx
  rw [inPart_iff]
  obtain ⟨i, e, hi, h1, h2, _, rfl⟩ := (mem_all h0 x).1 hx
  simp only; omega
theorem hitsTo_join (L : List (List El)) (b : List UInt8) {m n : Nat} (h : m ≤ n) : hitsTo L b m ++ (allV L b).filter (inPart (m : Int) (n : Int)) = hitsTo L b n := by
  unfold hitsTo
  refine strict_ext ?_ (strict_filter _ (all_strict _ _)) fun x => ?_
  · unfold Strict
    rw [List.pairwise_append]
    refine ⟨strict_filter _ (all_strict _ _), strict_filter _ (all_strict _ _), fun x hx y hy => ?_⟩
    have h1 := (inPart_iff _ _ _).1 (List.mem_filter.1 hx).2
    have h2 := (inPart_iff _ _ _).1 (List.mem_filter.1 hy).2
    left; omega
  · simp only [List.mem_append, List.mem_filter, inPart_iff]
    constructor
    · rintro (⟨a, c⟩ | ⟨a, c⟩) <;> exact ⟨a, by omega⟩
    · rintro ⟨a, c⟩
      by_cases hx : x.1 ≤ (m : Int)
      · exact .inl ⟨a, by omega⟩
      · exact .inr ⟨a, by omega⟩
theorem withE_ok {L : List (List El)} {b : List UInt8} (h0 : allE L b = 0) {lo hi : Int} (h1 : 0 ≤ lo) (h2 : lo ≤ hi) (h3 : hi ≤ b.length) : withE L b lo hi = 0 := by
  unfold withE
  rw [if_neg (by rw [h0]; simp), if_neg (by unfold badPart; omega)]
theorem withL_ok {L : List (List El)} {b : List UInt8} (h0 : allE L b = 0) {lo hi : Int} (h1 : 0 ≤ lo) (h2 : lo ≤ hi) (h3 : hi ≤ b.length) : withL L b lo hi = (allV L b).filter (inPart lo hi) := by
  unfold withL
  rw [if_pos (withE_ok h0 h1 h2 h3)]
theorem hitsTo_len {L : List (List El)} {b : List UInt8} (h0 : allE L b = 0) (n : Nat) : (hitsTo L b n).length ≤ 70000 := Nat.le_trans (List.length_filter_le _ _) (all_len h0)
theorem sorted_ok {l : List Hit} (h : OkH l) : (sortedV l).2 = 0 := by rw [h.sorted]

/-! ### a part and fewer bytes before it than the longest length -/
def longTo (L : List (List El)) (k : Nat) : Int := ((L.take k).map fun p => (lenV p).2.1).foldl max 0
theorem longTo_succ {L : List (List El)} {k : Nat} (h : k < L.length) : longTo L (k + 1) = max (longTo L k) (lenV L[k]).2.1 := by
  unfold longTo
  rw [List.take_succ_eq_append_getElem h, List.map_append, List.foldl_append]
  rfl
theorem longTo_ge {L : List (List El)} : ∀ {k i : Nat} (h : i < L.length), i < k → k ≤ L.length → (lenV L[i]).2.1 ≤ longTo L k
  | 0, _, _, h, _ => by omega
  | k + 1, i, h, h1, h2 => by
    rw [longTo_succ (by omega)]
    by_cases e : i = k
    · subst e; omega
    · have := longTo_ge h (show i < k by omega) (by omega)
      omega
theorem lenV_ok {p : List El} (h : OkP p) : lenV p = (leastV p, mostV p, 0) := by unfold lenV; rw [h.check, if_pos rfl]
theorem longTo_in {L : List (List El)} (h : OkS L) : ∀ {k : Nat}, k ≤ L.length → 0 ≤ longTo L k ∧ longTo L k ≤ 8192
  | 0, _ => by simp [longTo]
  | k + 1, hk => by
    rw [longTo_succ (by omega), lenV_ok (h.pat k (by omega))]
    have := longTo_in h (show k ≤ L.length by omega)
    have := most_in (h.pat k (by omega))
    simp only; omega
theorem high_in {p : List El} (h : OkP p) : ∀ x ∈ p, 0 ≤ highOf x := by
  intro x hx
  unfold highOf
  split
  · have := h.high x hx ‹_›; omega
  · omega
theorem sum_nonneg : ∀ {l : List Int}, (∀ x ∈ l, 0 ≤ x) → 0 ≤ l.sum
  | [], _ => by simp
  | x :: l, h => by
    rw [List.sum_cons]
    have := h x (by simp)
    have := sum_nonneg (fun y hy => h y (List.mem_cons_of_mem x hy))
    omega
theorem most_one {p : List El} (h : OkP p) : 1 ≤ mostV p := by
  have hp := h.pos
  have hh := high_in h
  have hg : ∀ h0 : 0 < p.length, p[0].gap = false := fun h0 => by
    cases hx : p[0].gap
    · rfl
    · exact absurd rfl (h.gap h0 hx).2.2.2.2.1
  cases p with
  | nil => simp at hp
  | cons x p =>
    have hx : highOf x = 1 := by
      have := hg (by simp)
      unfold highOf
      rw [if_neg (by simpa using this)]
    unfold mostV
    rw [List.map_cons, List.sum_cons, hx]
    have : 0 ≤ (p.map highOf).sum := sum_nonneg fun y hy => by
      obtain ⟨z, hz, rfl⟩ := List.mem_map.1 hy
      exact hh z (List.mem_cons_of_mem x hz)
    omega
theorem long_one {L : List (List El)} (h : OkS L) : 1 ≤ longTo L L.length := by
  have h1 := longTo_ge (L := L) (k := L.length) h.pos h.pos (Nat.le_refl _)
  rw [lenV_ok (h.pat 0 h.pos)] at h1
  have := most_one (h.pat 0 h.pos)
  simp only at h1; omega
theorem local_eq {L : List (List El)} {b : List UInt8} (h0 : allE L b = 0) {f n lo : Nat} (hf : f ≤ n) (hn : n ≤ b.length) (hlo : (lo : Int) = max 0 ((f : Int) - (longTo L L.length - 1))) :
    (withL L ((b.take n).drop lo) ((f : Int) - lo) ((n : Int) - lo)).map (moveH lo) = withL L b f n := by
  obtain ⟨hs, hb⟩ := okS_of_all h0
  have hl1 := long_one hs
  have hlf : lo ≤ f := by omega
  have hl : ((b.take n).drop lo).length = n - lo := by rw [List.length_drop, List.length_take, Nat.min_eq_left hn]
  have h0' := allE_part h0 lo n
  rw [withL_ok h0' (by omega) (by omega) (by rw [hl]; omega), withL_ok h0 (by omega) (by omega) (by omega)]
  refine strict_ext ?_ (strict_filter _ (all_strict _ _)) fun x => ?_
  · unfold Strict
    rw [List.pairwise_map]
    exact (strict_filter _ (all_strict _ _)).imp fun {x y} h => by
      unfold HLt moveH at *
      simp only
      omega
  · rw [List.mem_map, List.mem_filter, inPart_iff, mem_all h0]
    constructor
    · rintro ⟨y, hy, rfl⟩
      rw [List.mem_filter, inPart_iff, mem_all h0'] at hy
      obtain ⟨⟨i, e, hi, h1, h2, ⟨s, hs⟩, rfl⟩, h3, h4⟩ := hy
      rw [hl] at h2
      simp only at h3 h4
      have := (fits_part (b := b) (f := lo) (n := n) (by omega)).1 hs
      refine ⟨⟨i, lo + e, hi, by omega, by omega, ⟨_, this⟩, ?_⟩, ?_, ?_⟩
      · unfold moveH; simp only; rw [Int.natCast_add, Int.add_comm]
      all_goals (unfold moveH; simp only; omega)
    · rintro ⟨⟨i, e, hi, h1, h2, ⟨s, hs'⟩, rfl⟩, h3, h4⟩
      simp only at h3 h4
      have hln := fits_lens (hs.pat i hi).high hs'
      have hle := fits_le hs'
      have hge := longTo_ge (L := L) (k := L.length) hi hi (Nat.le_refl _)
      rw [lenV_ok (hs.pat i hi)] at hge
      simp only at hge
      have hsl : lo ≤ s := by omega
      refine ⟨(((e - lo : Nat) : Int), (i : Int)), ?_, ?_⟩
      · rw [List.mem_filter, inPart_iff, mem_all h0']
        refine ⟨⟨i, e - lo, hi, by omega, by rw [hl]; omega, ⟨s - lo, ?_⟩, rfl⟩, ?_, ?_⟩
        · rw [fits_part (by omega), show lo + (s - lo) = s by omega, show lo + (e - lo) = e by omega]
          exact hs'
        · simp only; omega
        · simp only; omega
      · unfold moveH; simp only
        rw [show ((e - lo : Nat) : Int) + (lo : Int) = (e : Int) by omega]
theorem local_shift {L : List (List El)} {b : List UInt8} (h0 : allE L b = 0) {f n lo : Nat} (hf : f ≤ n) (hn : n ≤ b.length) (hlo : (lo : Int) = max 0 ((f : Int) - (longTo L L.length - 1))) :
    shiftE (withL L ((b.take n).drop lo) ((f : Int) - lo) ((n : Int) - lo)) lo = 0 ∧ shiftL (withL L ((b.take n).drop lo) ((f : Int) - lo) ((n : Int) - lo)) lo = withL L b f n := by
  obtain ⟨hs, hb⟩ := okS_of_all h0
  have hl1 := long_one hs
  have hlf : lo ≤ f := by omega
  have hl : ((b.take n).drop lo).length = n - lo := by rw [List.length_drop, List.length_take, Nat.min_eq_left hn]
  have h0' := allE_part h0 lo n
  have ho : OkH (withL L ((b.take n).drop lo) ((f : Int) - lo) ((n : Int) - lo)) := by
    rw [withL_ok h0' (by omega) (by omega) (by rw [hl]; omega)]
    exact okH_filter _ (all_okH h0')
  have hr : ∀ x ∈ withL L ((b.take n).drop lo) ((f : Int) - lo) ((n : Int) - lo), 1 ≤ x.1 ∧ x.1 ≤ 4096 := fun x hx => by
    rw [withL_ok h0' (by omega) (by omega) (by rw [hl]; omega)] at hx
    have := all_range h0' x (List.mem_filter.1 hx).1
    omega
  have hg := shift_good (k := (lo : Int)) (sorted_ok ho) fun i hi => by
    have := hr _ (List.getElem_mem hi)
    unfold stuckH
    omega
  exact ⟨hg.1, hg.2.trans (local_eq h0 hf hn hlo)⟩
end Go.Proofs.Ytafdaiidnphbaaa

/- far: some truth value; if it is false, there are at most 4100 bytes. -/
namespace Go.Proofs.Ytafdaiidnphbaaa
open Go.RowKit Go.Sort

def FarB (n : Nat) (w : World) (e : Ending) (w' : World) : Prop := (∃ c : Bool, e = .returned (.bool c) ∧ (c = false → n ≤ 4100)) ∧ w' = w
set_option maxRecDepth 100000 in
set_option maxHeartbeats 8000000 in
theorem farb_p (v u : Value) (L : List (List El)) (b : List UInt8) (w : World) (h : Sets w v L) (hb : Bytes w u b) :
    Calls Try.prog 10 #[v, u] w (FarB b.length w) := by
  have HS := Lib.hid h
  have hmax : L.length ≤ maxLen := h.le
  unfold maxLen at hmax
  obtain ⟨a, cap, rfl⟩ := h.form
  obtain ⟨ua, ucap, rfl⟩ := Row.form2 hb
  clear h hb
  go_enter Try.func10, Try.ntmps10
  go_wp2_with fail
  all_goals first | (go_ret; exact ⟨⟨_, rfl, fun h => by first | (cases h; done) | omega⟩, rfl⟩) | skip
  all_goals
    go_loopw [5] (fun iv wr => ∃ i : Nat, i ≤ L.length ∧ iv = .int .i64 (i : Nat) ∧ w = wr) (fun iv _ => L.length - (intOf iv).toNat)
    case atStart => exact ⟨0, by omega, rfl, rfl⟩
    case round =>
      obtain ⟨i, hi, rfl, rfl⟩ := hrel
      by_cases hlt : i < L.length
      · obtain ⟨g, o, pa, pc, hga, hg, d0, hp⟩ := HS.out.at hlt
        subst hga
        have i1 : (0 : Int) ≤ (i : Int) := by omega
        have i2 : (i : Int) < (L.length : Int) := by omega
        have wi1 : IntKind.i64.wrap ((i : Int) + 1) = (i : Int) + 1 := IntWalk.i64_in _ (by omega)
        clear hp
        generalize L[i].length = n at *
        go_wp2_with fail
        all_goals first | (go_ret; exact ⟨⟨_, rfl, fun h => by first | (cases h; done) | omega⟩, rfl⟩) | exact ⟨⟨i + 1, by omega, by go_num, rfl⟩, by simp [intOf]; omega⟩ | exact ⟨⟨i + 1, by omega, by go_num, trivial⟩, by simp [intOf]; omega⟩
      · obtain rfl : i = L.length := by omega
        have i2 : ¬ ((L.length : Int) < (L.length : Int)) := by omega
        go_wp2_with fail
        all_goals (go_ret; exact ⟨⟨_, rfl, fun h => by first | (cases h; done) | omega⟩, rfl⟩)
end Go.Proofs.Ytafdaiidnphbaaa

/- Plain laws of rules: each alone, and merged; parts of a set of patterns. -/
namespace Go.Proofs.Ytafdaiidnphbaaa
open Go.RowKit Go.Sort Go.Lib

theorem okS_one {L : List (List El)} (h : OkS L) {i : Nat} (hi : i < L.length) : OkS [L[i]] :=
  ⟨by simp, by simp, fun j hj => by
    obtain rfl : j = 0 := by simp at hj; omega
    exact h.pat i hi⟩
theorem allE_one {L : List (List El)} {b : List UInt8} (h0 : allE L b = 0) {i : Nat} (hi : i < L.length) : allE [L[i]] b = 0 := by
  obtain ⟨hs, hb⟩ := okS_of_all h0
  unfold allE
  rw [(okS_one hs hi).check, if_neg (by simp), if_neg (by omega)]
def ruleTo (L : List (List El)) (b : List UInt8) (n : Nat) : List Hit := (allV L b).filter fun x => decide (x.2 < (n : Int))
def setR (i : Nat) (x : Hit) : Hit := (x.1, (i : Int))
theorem ruleTo_zero {L : List (List El)} {b : List UInt8} (h0 : allE L b = 0) : ruleTo L b 0 = [] := by
  unfold ruleTo
  rw [List.filter_eq_nil_iff]
  intro x hx h
  have := all_range h0 x hx
  rw [decide_eq_true_eq] at h
  omega
theorem ruleTo_all {L : List (List El)} {b : List UInt8} (h0 : allE L b = 0) : ruleTo L b L.length = allV L b := by
  unfold ruleTo
  rw [List.filter_eq_self]
  intro x hx
  obtain ⟨i, e, hi, _, _, _, rfl⟩ := (mem_all h0 x).1 hx
  rw [decide_eq_true_eq]
  simp only
  omega
theorem own_eq {L : List (List El)} {b : List UInt8} (h0 : allE L b = 0) {i : Nat} (hi : i < L.length) : (allV [L[i]] b).map (setR i) = (allV L b).filter fun x => decide (x.2 = (i : Int)) := by
  have h1 := allE_one h0 hi
  refine strict_ext ?_ (strict_filter _ (all_strict _ _)) fun x => ?_
  · unfold Strict
    rw [List.pairwise_map]
    refine (all_strict [L[i]] b).imp_of_mem fun {x y} hx hy h => ?_
    obtain ⟨j, e, hj, _, _, _, rfl⟩ := (mem_all h1 x).1 hx
    obtain ⟨k, f, hk, _, _, _, rfl⟩ := (mem_all h1 y).1 hy
    simp at hj hk
    unfold HLt setR at *
    simp only at h ⊢
    omega
  · rw [List.mem_map, List.mem_filter, decide_eq_true_eq, mem_all h0]
    constructor
    · rintro ⟨y, hy, rfl⟩
      obtain ⟨j, e, hj, h2, h3, ⟨s, hs⟩, rfl⟩ := (mem_all h1 y).1 hy
      obtain rfl : j = 0 := by simp at hj; omega
      exact ⟨⟨i, e, hi, h2, h3, ⟨s, hs⟩, rfl⟩, rfl⟩
    · rintro ⟨⟨j, e, hj, h2, h3, ⟨s, hs⟩, rfl⟩, h4⟩
      obtain rfl : j = i := by simp only at h4; omega
      exact ⟨((e : Int), ((0 : Nat) : Int)), (mem_all h1 _).2 ⟨0, e, by simp, h2, h3, ⟨s, hs⟩, rfl⟩, rfl⟩
theorem own_len {L : List (List El)} {b : List UInt8} (h0 : allE L b = 0) {i : Nat} (hi : i < L.length) : ((allV [L[i]] b).length : Int) = cntH (allV L b) i := by
  unfold cntH
  rw [← own_eq h0 hi, List.length_map]
theorem own_ok {L : List (List El)} {b : List UInt8} (h0 : allE L b = 0) {i : Nat} (hi : i < L.length) : OkH ((allV [L[i]] b).map (setR i)) := by
  rw [own_eq h0 hi]
  exact okH_filter _ (all_okH h0)
theorem rule_merge {L : List (List El)} {b : List UInt8} (h0 : allE L b = 0) {i : Nat} (hi : i < L.length) : mergeE (ruleTo L b i) ((allV [L[i]] b).map (setR i)) = 0 ∧ mergeL (ruleTo L b i) ((allV [L[i]] b).map (setR i)) = ruleTo L b (i + 1) := by
  have a1 : OkH (ruleTo L b i) := okH_filter _ (all_okH h0)
  have a2 := own_ok h0 hi
  have he : mergeE (ruleTo L b i) ((allV [L[i]] b).map (setR i)) = 0 := by
    unfold mergeE
    rw [sorted_ok a1, if_neg (by simp), sorted_ok a2]
  refine ⟨he, ?_⟩
  unfold mergeL
  rw [if_pos he]
  refine strict_ext (mergeH_strict _ _ (strict_of a1) (strict_of a2)) (strict_filter _ (all_strict _ _)) fun x => ?_
  rw [mergeH_mem, own_eq h0 hi]
  unfold ruleTo
  simp only [List.mem_filter, decide_eq_true_eq]
  constructor
  · rintro (⟨h1, h2⟩ | ⟨h1, h2⟩) <;> exact ⟨h1, by omega⟩
  · rintro ⟨h1, h2⟩
    by_cases h3 : x.2 < (i : Int)
    · exact .inl ⟨h1, h3⟩
    · exact .inr ⟨h1, by omega⟩
theorem countsV_ok {L : List (List El)} {b : List UInt8} (h0 : allE L b = 0) : countsV L b = cntL (allV L b) L.length := by unfold countsV; rw [if_pos h0]
theorem countsV_len {L : List (List El)} {b : List UInt8} (h0 : allE L b = 0) : (countsV L b).length = L.length := by rw [countsV_ok h0, cntL_len]
theorem countsV_at {L : List (List El)} {b : List UInt8} (h0 : allE L b = 0) {i : Nat} (hi : i < L.length) (hi' : i < (countsV L b).length) : (countsV L b)[i] = ((allV [L[i]] b).length : Int) := by
  rw [own_len h0 hi]
  simp only [countsV_ok h0]
  exact cntL_at _ hi
theorem nums_at {w : World} {a : Option Addr} {n cap : Nat} {l : List Int} (h : Row w 1 (.slice a n cap) n (l.map (Value.int .i64))) {i : Nat} (hn : i < n) (hi : i < l.length) : ∃ g o, a = some ⟨g, o, none⟩ ∧ g < w.heap.size ∧ w.cell? ⟨g, o + i, none⟩ = some (.int .i64 l[i]) := by
  obtain ⟨g, o, cp, e, hg, hc⟩ := Row.cellAt2 h hn (by omega)
  cases e
  have := hc 0 (by omega)
  rw [Nat.mul_one, Nat.add_zero, Nat.add_zero, List.getElem?_map, List.getElem?_eq_getElem hi] at this
  exact ⟨g, o, rfl, hg, this⟩
/-- one pattern of a set -/
theorem sets_cut {w : World} {a : Option Addr} {cap : Nat} {L : List (List El)} (h : Sets w (.slice a L.length cap) L) (hc : L.length ≤ cap) {i : Nat} (hi : i < L.length) (H : Int) (eH : H = ((i + 1 : Nat) : Int)) :
    ∃ a' cap', (∀ w', (Instr.slice 25 (.slice a L.length cap) (some (.int .i64 (i : Int))) (some (.int .i64 H)) none).run Try.prog w' = .ok (.slice a' 1 cap') w') ∧ Sets w (.slice a' 1 cap') [L[i]] := by
  obtain ⟨vs, h1, h2, h3⟩ := h
  have hcut := row_cut h2 (Nat.le_succ i) (show i + 1 ≤ L.length by omega) hc
  rw [show i + 1 - i = 1 by omega, Nat.mul_one, Nat.mul_one] at hcut
  have e1 : (vs.take (i + 1)).drop i = [vs[i]] := by
    rw [List.take_succ_eq_append_getElem (by omega), List.drop_append_of_le_length (by rw [List.length_take]; omega)]
    rw [List.drop_eq_nil_of_le (by rw [List.length_take]; omega)]
    rfl
  rw [e1] at hcut
  refine ⟨if cap = i then a else a.map (·.add (i * 1)), cap - i, fun w' => ?_, [vs[i]], rfl, by rw [Nat.mul_one]; exact hcut, fun j hj hj' => ?_⟩
  · have hsz : ∀ w', (sizeOf (Try.prog.elem 25)).run Try.prog w' = .ok 1 w' := fun w' => by kernel_rfl
    rw [run_slice_lh (P := Try.prog) w' 25 a L.length cap (by kernel_rfl) .i64 .i64 (i : Int) H (by omega) (by omega) (by omega), hsz]
    subst eH
    simp only [Result.andThen, sliced, Int.toNat_natCast]
    rw [show i + 1 - i = 1 by omega]
  · obtain rfl : j = 0 := by simp at hj; omega
    exact h3 i hi (by omega)
/-- hits whose first k have the rule i -/
def markTo (i : Nat) (l : List Hit) (k : Nat) : List Hit := (l.take k).map (setR i) ++ l.drop k
theorem markTo_len (i : Nat) (l : List Hit) (k : Nat) : (markTo i l k).length = l.length := by
  unfold markTo
  rw [List.length_append, List.length_map, List.length_take, List.length_drop]
  omega
theorem markTo_at (i : Nat) (l : List Hit) (k : Nat) (h : k < l.length) : (markTo i l k)[k]'(by rw [markTo_len]; exact h) = l[k] := by
  unfold markTo
  rw [List.getElem_append_right (by rw [List.length_map, List.length_take]; omega)]
  simp [List.getElem_drop, show k - min k l.length = 0 by omega]
theorem markTo_set (i : Nat) (l : List Hit) (k : Nat) (h : k < l.length) : (markTo i l k).set k (setR i l[k]) = markTo i l (k + 1) := by
  unfold markTo
  rw [List.set_append_right _ _ (by rw [List.length_map, List.length_take]; omega), List.take_succ_eq_append_getElem h, List.map_append, List.append_assoc]
  congr 1
  rw [List.length_map, List.length_take, show k - min k l.length = 0 by omega, List.drop_eq_getElem_cons h]
  rfl
theorem markTo_zero (i : Nat) (l : List Hit) : markTo i l 0 = l := by simp [markTo]
theorem markTo_end (i : Nat) (l : List Hit) : markTo i l l.length = l.map (setR i) := by simp [markTo]
end Go.Proofs.Ytafdaiidnphbaaa

/- Plain laws of the places from which a pattern matches up to an end. -/
namespace Go.Proofs.Ytafdaiidnphbaaa
open Go.RowKit Go.Sort Go.Lib

theorem low_in {p : List El} (h : OkP p) : ∀ x ∈ p, 0 ≤ lowOf x := by
  intro x hx
  unfold lowOf
  split
  · have := h.high x hx ‹_›; omega
  · omega
theorem least_one {p : List El} (h : OkP p) : 1 ≤ leastV p := by
  have hp := h.pos
  have hh := low_in h
  have hg : ∀ h0 : 0 < p.length, p[0].gap = false := fun h0 => by
    cases hx : p[0].gap
    · rfl
    · exact absurd rfl (h.gap h0 hx).2.2.2.2.1
  cases p with
  | nil => simp at hp
  | cons x p =>
    have hx : lowOf x = 1 := by
      have := hg (by simp)
      unfold lowOf
      rw [if_neg (by simpa using this)]
    unfold leastV
    rw [List.map_cons, List.sum_cons, hx]
    have : 0 ≤ (p.map lowOf).sum := sum_nonneg fun y hy => by
      obtain ⟨z, hz, rfl⟩ := List.mem_map.1 hy
      exact hh z (List.mem_cons_of_mem x hz)
    omega
theorem startE_ok {p : List El} {b : List UInt8} {n : Nat} (h : startE p b n = 0) : OkP p ∧ b.length ≤ 4096 := by
  unfold startE at h
  by_cases h1 : (checkV p).2 ≠ 0
  · rw [if_pos h1] at h; exact absurd h h1
  · rw [if_neg h1] at h
    by_cases h2 : 4096 < b.length
    · rw [if_pos h2] at h; exact absurd h (by decide)
    · exact ⟨okP_of (by simpa using h1), by omega⟩
theorem allE_sole {p : List El} {b : List UInt8} (h : OkP p) (hb : b.length ≤ 4096) : allE [p] b = 0 := by
  have hs : OkS [p] := ⟨by simp, by simp, fun j hj => by
    obtain rfl : j = 0 := by simp at hj; omega
    exact h⟩
  unfold allE
  rw [hs.check, if_neg (by simp), if_neg (by omega)]
/-- the first of the places -/
def loOf (p : List El) (n : Nat) : Nat := (max 0 ((n : Int) - mostV p)).toNat
/-- the places below s -/
def begin' (p : List El) (b : List UInt8) (n s : Nat) : List Nat := startTo p b n (loOf p n) s
theorem startL_ok {p : List El} {b : List UInt8} {n : Nat} (h : startE p b n = 0) : startL p b n = (begin' p b n n).map (fun (s : Nat) => (s : Int)) := by
  unfold startL
  rw [if_pos h]
  rfl
theorem begin_lo {p : List El} {b : List UInt8} {n s : Nat} (h : OkP p) (hs : s ≤ n) (hn : n ≤ b.length) (hm : matchV p ((b.take n).drop s) = true) : loOf p n ≤ s ∧ s < n ∧ leastV p ≤ (n : Int) - s ∧ (n : Int) - s ≤ mostV p := by
  have hf := (matchV_part hs hn).1 hm
  have := fits_lens h.high hf
  have := least_one h
  unfold loOf
  omega
theorem begin_yes {p : List El} {b : List UInt8} {n s : Nat} (h : OkP p) (hs : s ≤ n) (hn : n ≤ b.length) (hm : matchV p ((b.take n).drop s) = true) : begin' p b n (s + 1) = begin' p b n s ++ [s] := startTo_yes (begin_lo h hs hn hm).1 hm
theorem begin_no {p : List El} {b : List UInt8} {n s : Nat} (hm : matchV p ((b.take n).drop s) = false) : begin' p b n (s + 1) = begin' p b n s := startTo_no hm
theorem begin_pre {p : List El} {b : List UInt8} {n s : Nat} : ∀ {m : Nat}, s ≤ m → begin' p b n s <+: begin' p b n m
  | 0, h => by obtain rfl : s = 0 := by omega
               exact List.prefix_rfl
  | m + 1, h => by
    by_cases e : s = m + 1
    · subst e; exact List.prefix_rfl
    · refine (begin_pre (show s ≤ m by omega)).trans ?_
      unfold begin' startTo
      rw [List.range_succ, List.filter_append]
      exact List.prefix_append _ _
theorem begin_at {p : List El} {b : List UInt8} {n s : Nat} (h : OkP p) (hs : s < n) (hn : n ≤ b.length) (hm : matchV p ((b.take n).drop s) = true) :
    ∃ hk : (begin' p b n s).length < (begin' p b n n).length, (begin' p b n n)[(begin' p b n s).length] = s := by
  have h1 := begin_yes h (Nat.le_of_lt hs) hn hm
  have h2 : begin' p b n (s + 1) <+: begin' p b n n := begin_pre (by omega)
  rw [h1] at h2
  obtain ⟨t, ht⟩ := h2
  have hl : (begin' p b n s).length < (begin' p b n n).length := by
    rw [← ht]; simp
  refine ⟨hl, ?_⟩
  have : (begin' p b n n)[(begin' p b n s).length]? = some s := by
    rw [← ht, List.getElem?_append_left (by simp), List.getElem?_append_right (Nat.le_refl _)]
    simp
  rw [List.getElem?_eq_getElem hl] at this
  exact Option.some.inj this
def hitTo (l : List Hit) (n k : Nat) : Bool := (l.take k).any fun x => decide (x.1 = (n : Int))
theorem hitTo_zero (l : List Hit) (n : Nat) : hitTo l n 0 = false := by simp [hitTo]
theorem hitTo_succ {l : List Hit} {n k : Nat} (h : k < l.length) : hitTo l n (k + 1) = (hitTo l n k || decide (l[k].1 = (n : Int))) := by
  unfold hitTo
  rw [List.take_succ_eq_append_getElem h, List.any_append]
  simp
theorem hit_iff {p : List El} {b : List UInt8} {n : Nat} (h : OkP p) (hb : b.length ≤ 4096) (hn : n ≤ b.length) : hitTo (allV [p] b) n (allV [p] b).length = decide (0 < (begin' p b n n).length) := by
  have h0 := allE_sole h hb
  unfold hitTo
  rw [List.take_length, Bool.eq_iff_iff, List.any_eq_true, decide_eq_true_eq]
  constructor
  · rintro ⟨x, hx, he⟩
    obtain ⟨i, e, hi, h1, h2, ⟨s, hs⟩, rfl⟩ := (mem_all h0 x).1 hx
    obtain rfl : i = 0 := by simp at hi; omega
    have he' : e = n := by
      rw [decide_eq_true_eq] at he
      simp only at he
      omega
    subst he'
    have hm := (matchV_part (fits_le hs) hn).2 hs
    obtain ⟨hk, _⟩ := begin_at h (begin_lo h (fits_le hs) hn hm).2.1 hn hm
    omega
  · intro hp
    have hmem : (begin' p b n n)[0] ∈ begin' p b n n := List.getElem_mem hp
    unfold begin' startTo at hmem
    rw [List.mem_filter, List.mem_range, Bool.and_eq_true] at hmem
    obtain ⟨hsn, _, hm⟩ := hmem
    have hf := (matchV_part (Nat.le_of_lt hsn) hn).1 hm
    exact ⟨((n : Int), ((0 : Nat) : Int)), (mem_all h0 _).2 ⟨0, n, by simp, by omega, hn, ⟨_, hf⟩, rfl⟩, by simp⟩
theorem seek0 {p : List El} {b : List UInt8} (h : OkP p) (hb : b.length ≤ 4096) : seekE p b = 0 := by
  unfold seekE
  rw [h.check, if_neg (by simp), if_neg (by omega)]
theorem mat0 {p : List El} {b : List UInt8} (h : OkP p) (hb : b.length ≤ 4096) : matV p b = matchV p b := by
  unfold matV; rw [if_pos (seek0 h hb)]
theorem nums_at' {w : World} {a : Option Addr} {n cap : Nat} {l : List Nat} (h : Row w 1 (.slice a n cap) n (l.map fun (s : Nat) => Value.int .i64 (s : Int))) {i : Nat} (hn : i < n) (hi : i < l.length) : ∃ g o, a = some ⟨g, o, none⟩ ∧ g < w.heap.size ∧ w.cell? ⟨g, o + i, none⟩ = some (.int .i64 (l[i] : Int)) := by
  obtain ⟨g, o, cp, e, hg, hc⟩ := Row.cellAt2 h hn (by omega)
  cases e
  have := hc 0 (by omega)
  rw [Nat.mul_one, Nat.add_zero, Nat.add_zero, List.getElem?_map, List.getElem?_eq_getElem hi] at this
  exact ⟨g, o, rfl, hg, this⟩
theorem Row.cellAt2' {w : World} {a : Option Addr} {cap : Nat} {l : List Hit} (h : Hits w (.slice a l.length cap) l) {i : Nat} (hi : i < l.length) : ∃ g o, a = some ⟨g, o, none⟩ ∧ g < w.heap.size ∧ (w.cell? ⟨g, o + i * 2, none⟩ = some (.int .i64 l[i].1) ∧ w.cell? ⟨g, o + i * 2 + 1, none⟩ = some (.int .i64 l[i].2)) := by
  obtain ⟨g, o, cp, e, hg, hc⟩ := Row.cellAt2 h hi (by omega)
  cases e
  have d := Hits.ats h hi
  refine ⟨g, o, rfl, hg, ?_⟩
  exact d
end Go.Proofs.Ytafdaiidnphbaaa
