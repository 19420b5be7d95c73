/- ClassesKnown: the law returns true: the examples of the document. No conditions beside the laid table. -/
import Derived.Test.YtooiegejchcbhaaDoorKLawS
import Derived.Test.YtooiegejchcbhaaDoorTie
import Derived.Test.YtooiegejchcbhaaDoorCards
import Derived.SevenTiedAt
import Derived.Deep.RegionHeld3
import Derived.Lib.SlBytesConst
namespace Go.Proofs.YtooiegejchcbhaaDoor.classesKnown
open Go.ChangeShapes Go.WideShapes Go.ChangeAt Go.RowKit

theorem v1 : printV (rangeS 0 255) = [91, 94, 93] := by decide +kernel
theorem v2 : printV 0#256 = [91, 93] := by decide +kernel
theorem v3 : printV (rangeS 0 255 &&& ~~~(bit 32)) = [91, 94, 92, 120, 50, 48, 93] := by decide +kernel
theorem v4 : ofL [97, 98, 99] = rangeS 97 99 := by decide +kernel
theorem v5 : printV (ofL [45, 94]) = [91, 92, 45, 92, 94, 93] := by decide +kernel
theorem v6 : printV (ofL [97, 98]) = [91, 97, 98, 93] := by decide +kernel
theorem v7 : (parseV [91, 97]).2 = (2, 6) := by decide +kernel
theorem v8 : (parseV [91, 97, 93, 98]).2 = (3, 6) := by decide +kernel
theorem v9 : (parseV [91, 97, 32, 98, 93]).2 = (2, 6) := by decide +kernel

theorem held_size {W0 W : World} {B C : Nat} {s t : CSet} (h : HR W0 B C s t W) : W0.heap.size ≤ W.heap.size := h.2.2.size

set_option maxRecDepth 100000 in
set_option maxHeartbeats 20000000 in
theorem walk (w : World) (hT : Tab w) :
    Calls Tryd.prog 4 #[] w fun e w' => e = .returned (.bool true) ∧ Below w.heap.size w w' := by
  have kc := fun (w : World) (C : Array Value) (n c : Nat) => Lib.run_convert_bytes_const (P := Tryd.prog) w 39 5 C n c Tryd.underlying39 Tryd.underlying5
  have es := eq_self
  have HT := Lib.hid hT
  clear hT
  have kg1 := fun w => range_p 0 255 w
  rw [show rangeE 0 255 = 0 from rfl] at kg1
  have kg2 := fun w => range_p 97 99 w
  rw [show rangeE 97 99 = 0 from rfl] at kg2
  have kp1 := fun w h => print_p (rangeS 0 255) w h
  rw [v1, show str [91, 94, 93] = ⟨#[91, 94, 93]⟩ from rfl] at kp1
  have kp2 := fun w h => print_p 0#256 w h
  rw [v2, show str [91, 93] = ⟨#[91, 93]⟩ from rfl] at kp2
  have kd := fun w => drop_p (rangeS 0 255) 32 (by decide) w
  have kp3 := fun w h => print_p (rangeS 0 255 &&& ~~~(bit 32)) w h
  rw [v3, show str [91, 94, 92, 120, 50, 48, 93] = ⟨#[91, 94, 92, 120, 50, 48, 93]⟩ from rfl] at kp3
  have ko1 := fun v w h => of_p v [97, 98, 99] w h
  rw [v4] at ko1
  have ko2 := fun v w h => of_p v [45, 94] w h
  have kp5 := fun w h => print_p (ofL [45, 94]) w h
  rw [v5, show str [91, 92, 45, 92, 94, 93] = ⟨#[91, 92, 45, 92, 94, 93]⟩ from rfl] at kp5
  have ko3 := fun v w h => of_p v [97, 98] w h
  have kp6 := fun w h => print_p (ofL [97, 98]) w h
  rw [v6, show str [91, 97, 98, 93] = ⟨#[91, 97, 98, 93]⟩ from rfl] at kp6
  have kq1 := fun w => parse_p [91, 97] (by decide) w
  have kq2 := fun w => parse_p [91, 97, 93, 98] (by decide) w
  have kq3 := fun w => parse_p [91, 97, 32, 98, 93] (by decide) w
  unfold PrefP at kq1 kq2 kq3
  rw [v7] at kq1
  rw [v8] at kq2
  rw [v9] at kq3
  generalize (parseV [91, 97]).1 = P1 at *
  generalize (parseV [91, 97, 93, 98]).1 = P2 at *
  generalize (parseV [91, 97, 32, 98, 93]).1 = P3 at *
  generalize rangeS 0 255 &&& ~~~(bit 32) = D at *
  generalize rangeS 0 255 = A at *
  generalize rangeS 97 99 = C at *
  generalize ofL [45, 94] = E at *
  generalize ofL [97, 98] = F at *
  have KG1 := Lib.hid kg1
  have KG2 := Lib.hid kg2
  have KP1 := Lib.hid kp1
  have KP2 := Lib.hid kp2
  have KD := Lib.hid kd
  have KP3 := Lib.hid kp3
  have KO1 := Lib.hid (show ∀ (w : World) (fr : Nat × Nat), Calls Tryd.prog 17 #[.slice (some ⟨w.heap.size, 0, none⟩) 3 3] (w.alloc (.cells #[.int .u8 97, .int .u8 98, .int .u8 99] 5 fr)) fun e w' => e = .returned (setV C) ∧ Below (w.alloc (.cells #[.int .u8 97, .int .u8 98, .int .u8 99] 5 fr)).heap.size (w.alloc (.cells #[.int .u8 97, .int .u8 98, .int .u8 99] 5 fr)) w' from
    fun w fr => ko1 _ _ (Row.marked w 5 1 3 fr (bcells [97, 98, 99]) rfl (by decide)))
  have KO2 := Lib.hid (show ∀ (w : World) (fr : Nat × Nat), Calls Tryd.prog 17 #[.slice (some ⟨w.heap.size, 0, none⟩) 2 2] (w.alloc (.cells #[.int .u8 45, .int .u8 94] 5 fr)) fun e w' => e = .returned (setV E) ∧ Below (w.alloc (.cells #[.int .u8 45, .int .u8 94] 5 fr)).heap.size (w.alloc (.cells #[.int .u8 45, .int .u8 94] 5 fr)) w' from
    fun w fr => ko2 _ _ (Row.marked w 5 1 2 fr (bcells [45, 94]) rfl (by decide)))
  have KP5 := Lib.hid kp5
  have KO3 := Lib.hid (show ∀ (w : World) (fr : Nat × Nat), Calls Tryd.prog 17 #[.slice (some ⟨w.heap.size, 0, none⟩) 2 2] (w.alloc (.cells #[.int .u8 97, .int .u8 98] 5 fr)) fun e w' => e = .returned (setV F) ∧ Below (w.alloc (.cells #[.int .u8 97, .int .u8 98] 5 fr)).heap.size (w.alloc (.cells #[.int .u8 97, .int .u8 98] 5 fr)) w' from
    fun w fr => ko3 _ _ (Row.marked w 5 1 2 fr (bcells [97, 98]) rfl (by decide)))
  have KP6 := Lib.hid kp6
  have KQ1 := Lib.hid kq1
  have KQ2 := Lib.hid kq2
  have KQ3 := Lib.hid kq3
  clear kg1 kg2 kp1 kp2 kd kp3 ko1 ko2 kp5 ko3 kp6 kq1 kq2 kq3
  unfold setV setC at *
  rw [show (word 0#256 0 : Int) = 0 from rfl, show (word 0#256 1 : Int) = 0 from rfl, show (word 0#256 2 : Int) = 0 from rfl, show (word 0#256 3 : Int) = 0 from rfl] at KP2
  go_enter Tryd.func4, Tryd.ntmps4
  go_wp2_with fail
  refine (KG1.out _).mono ?_
  rintro e w1 ⟨rfl, hb1⟩
  have HA1 := Lib.hid (SetAt.new w1 A)
  have HB1 := Lib.hid (hb1.alloc hb1.size (.cells (setC A) 24))
  clear hb1
  unfold setC at *
  go_wp2_with fail
  refine (KG2.out _).mono ?_
  rintro e w2 ⟨rfl, hb2⟩
  have HA2 := Lib.hid ((HA1.out.below hb2 (by simp)).alloc (.cells (setC C) 24))
  have HC2 := Lib.hid (SetAt.new w2 C)
  have hB2 := next HB1.out hb2
  have HB2 := Lib.hid (hB2.alloc hB2.size (.cells (setC C) 24))
  have l2 : w1.heap.size < w2.heap.size := by have h := hb2.size; simp at h; omega
  clear hb2 hB2 HA1 HB1
  unfold setC at *
  go_wp2_with fail
  have hsz : w2.heap.size + 1 = (w2.alloc (.cells #[.int .u64 (word C 0 : Int), .int .u64 (word C 1 : Int), .int .u64 (word C 2 : Int), .int .u64 (word C 3 : Int)] 24)).heap.size := by rw [World.size_alloc]
  generalize w2.alloc (.cells #[.int .u64 (word C 0 : Int), .int .u64 (word C 1 : Int), .int .u64 (word C 2 : Int), .int .u64 (word C 3 : Int)] 24) = W at *
  have HS := Lib.hid (⟨⟨HA2.out.cells, HC2.out.cells⟩, ⟨by omega, by omega⟩, (Below.refl _ _).drew⟩ : HR W w1.heap.size w2.heap.size A C W.drew)
  have hH0 := HS.out
  obtain ⟨⟨⟨x0, x1, x2, x3⟩, ⟨y0, y1, y2, y3⟩⟩, ⟨s1, s2⟩, hBv⟩ := id hH0
  go_region_with (first
    | (go_at_call 10; first
        | (with_reducible refine (KP1.out _ (tab_held HT.out HB2.out (by first | with_reducible assumption | with_reducible exact HR.keep ((Below.refl _ _).alloc (Nat.le_refl _) _) (by with_reducible assumption)))).mono ?_; rintro e v ⟨rfl, hb⟩; have hH := HR.keep hb (by first | with_reducible assumption | with_reducible exact HR.keep ((Below.refl _ _).alloc (Nat.le_refl _) _) (by with_reducible assumption)); obtain ⟨⟨⟨x0, x1, x2, x3⟩, ⟨y0, y1, y2, y3⟩⟩, ⟨s1, s2⟩, hBv⟩ := id hH; have sv := hBv.size; have sa := Nat.lt_of_lt_of_le s1 sv; have sc := Nat.lt_of_lt_of_le s2 sv; clear hb)
        | (with_reducible refine (KP2.out _ (tab_held HT.out HB2.out (by first | with_reducible assumption | with_reducible exact HR.keep ((Below.refl _ _).alloc (Nat.le_refl _) _) (by with_reducible assumption)))).mono ?_; rintro e v ⟨rfl, hb⟩; have hH := HR.keep hb (by first | with_reducible assumption | with_reducible exact HR.keep ((Below.refl _ _).alloc (Nat.le_refl _) _) (by with_reducible assumption)); obtain ⟨⟨⟨x0, x1, x2, x3⟩, ⟨y0, y1, y2, y3⟩⟩, ⟨s1, s2⟩, hBv⟩ := id hH; have sv := hBv.size; have sa := Nat.lt_of_lt_of_le s1 sv; have sc := Nat.lt_of_lt_of_le s2 sv; clear hb)
        | (with_reducible refine (KP3.out _ (tab_held HT.out HB2.out (by first | with_reducible assumption | with_reducible exact HR.keep ((Below.refl _ _).alloc (Nat.le_refl _) _) (by with_reducible assumption)))).mono ?_; rintro e v ⟨rfl, hb⟩; have hH := HR.keep hb (by first | with_reducible assumption | with_reducible exact HR.keep ((Below.refl _ _).alloc (Nat.le_refl _) _) (by with_reducible assumption)); obtain ⟨⟨⟨x0, x1, x2, x3⟩, ⟨y0, y1, y2, y3⟩⟩, ⟨s1, s2⟩, hBv⟩ := id hH; have sv := hBv.size; have sa := Nat.lt_of_lt_of_le s1 sv; have sc := Nat.lt_of_lt_of_le s2 sv; clear hb)
        | (with_reducible refine (KP5.out _ (tab_held HT.out HB2.out (by first | with_reducible assumption | with_reducible exact HR.keep ((Below.refl _ _).alloc (Nat.le_refl _) _) (by with_reducible assumption)))).mono ?_; rintro e v ⟨rfl, hb⟩; have hH := HR.keep hb (by first | with_reducible assumption | with_reducible exact HR.keep ((Below.refl _ _).alloc (Nat.le_refl _) _) (by with_reducible assumption)); obtain ⟨⟨⟨x0, x1, x2, x3⟩, ⟨y0, y1, y2, y3⟩⟩, ⟨s1, s2⟩, hBv⟩ := id hH; have sv := hBv.size; have sa := Nat.lt_of_lt_of_le s1 sv; have sc := Nat.lt_of_lt_of_le s2 sv; clear hb)
        | (with_reducible refine (KP6.out _ (tab_held HT.out HB2.out (by first | with_reducible assumption | with_reducible exact HR.keep ((Below.refl _ _).alloc (Nat.le_refl _) _) (by with_reducible assumption)))).mono ?_; rintro e v ⟨rfl, hb⟩; have hH := HR.keep hb (by first | with_reducible assumption | with_reducible exact HR.keep ((Below.refl _ _).alloc (Nat.le_refl _) _) (by with_reducible assumption)); obtain ⟨⟨⟨x0, x1, x2, x3⟩, ⟨y0, y1, y2, y3⟩⟩, ⟨s1, s2⟩, hBv⟩ := id hH; have sv := hBv.size; have sa := Nat.lt_of_lt_of_le s1 sv; have sc := Nat.lt_of_lt_of_le s2 sv; clear hb))
    | (go_at_call 16; refine (KD.out _).mono ?_; rintro e v ⟨rfl, hb⟩; have hH := HR.keep hb (by first | with_reducible assumption | with_reducible exact HR.keep ((Below.refl _ _).alloc (Nat.le_refl _) _) (by with_reducible assumption)); obtain ⟨⟨⟨x0, x1, x2, x3⟩, ⟨y0, y1, y2, y3⟩⟩, ⟨s1, s2⟩, hBv⟩ := id hH; have sv := hBv.size; have sa := Nat.lt_of_lt_of_le s1 sv; have sc := Nat.lt_of_lt_of_le s2 sv; clear hb)
    | (go_at_call 17; first
        | (with_reducible refine (KO1.out _ _).mono ?_; rintro e v ⟨rfl, hb⟩; have hH := HR.keep hb (by first | with_reducible assumption | with_reducible exact HR.keep ((Below.refl _ _).alloc (Nat.le_refl _) _) (by with_reducible assumption)); obtain ⟨⟨⟨x0, x1, x2, x3⟩, ⟨y0, y1, y2, y3⟩⟩, ⟨s1, s2⟩, hBv⟩ := id hH; have sv := hBv.size; have sa := Nat.lt_of_lt_of_le s1 sv; have sc := Nat.lt_of_lt_of_le s2 sv; clear hb)
        | (with_reducible refine (KO2.out _ _).mono ?_; rintro e v ⟨rfl, hb⟩; have hH := HR.keep hb (by first | with_reducible assumption | with_reducible exact HR.keep ((Below.refl _ _).alloc (Nat.le_refl _) _) (by with_reducible assumption)); obtain ⟨⟨⟨x0, x1, x2, x3⟩, ⟨y0, y1, y2, y3⟩⟩, ⟨s1, s2⟩, hBv⟩ := id hH; have sv := hBv.size; have sa := Nat.lt_of_lt_of_le s1 sv; have sc := Nat.lt_of_lt_of_le s2 sv; clear hb)
        | (with_reducible refine (KO3.out _ _).mono ?_; rintro e v ⟨rfl, hb⟩; have hH := HR.keep hb (by first | with_reducible assumption | with_reducible exact HR.keep ((Below.refl _ _).alloc (Nat.le_refl _) _) (by with_reducible assumption)); obtain ⟨⟨⟨x0, x1, x2, x3⟩, ⟨y0, y1, y2, y3⟩⟩, ⟨s1, s2⟩, hBv⟩ := id hH; have sv := hBv.size; have sa := Nat.lt_of_lt_of_le s1 sv; have sc := Nat.lt_of_lt_of_le s2 sv; clear hb)))
  all_goals
    rename HR W w1.heap.size w2.heap.size A C _ => hS
    have HB3 := Lib.hid (next HB2.out hS.2.2)
    clear hS HS
    go_wp2_with fail
    refine (KQ1.out _).mono ?_
    rintro e w4 ⟨rfl, hb4⟩
    have hB4 := next HB3.out hb4
    have HB4 := Lib.hid (hB4.alloc hB4.size (.cells (setC P1) 24))
    clear hb4 hB4
    unfold setC at *
    go_wp2_with fail
    refine (KQ2.out _).mono ?_
    rintro e w5 ⟨rfl, hb5⟩
    have hB5 := next HB4.out hb5
    have HB5 := Lib.hid (hB5.alloc hB5.size (.cells (setC P2) 24))
    clear hb5 hB5
    unfold setC at *
    go_wp2_with fail
    refine (KQ3.out _).mono ?_
    rintro e w6 ⟨rfl, hb6⟩
    have hB6 := next HB5.out hb6
    have HB6 := Lib.hid (hB6.alloc hB6.size (.cells (setC P3) 24))
    clear hb6 hB6
    unfold setC at *
    go_wp2_with fail
    refine (shown_p _ (HT.out.below HB6.out)).mono ?_
    rintro e w7 ⟨rfl, hb7⟩
    go_wp2_with fail
    go_ret
    exact ⟨rfl, next HB6.out hb7⟩

theorem own : ownKnob Tryd.prog.godebug = none := by kernel_rfl
theorem laidOut : laidOutB Tryd.prog = true := by kernel_rfl
abbrev laidL : List (String × DataW Unit) := [("math/bits.deBruijn64tab", Rows.laid_math_bits_deBruijn64tab)]

set_option maxRecDepth 100000 in
theorem lifted (os : Os) (started : os.Started) (H : Type) (enc : TypeId × Value → H) :
    ReturnsInHanded {} Tryd.checked os 4 .any (fun w args => (Rows.classesKnownSpec.pre enc Tryd.prog Tryd.f4 [] false w args ∧ laidMetH Tryd.prog laidL w) ∧ sizedMet enc Tryd.prog Tryd.f4 (OpenSpec.ofChange Rows.classesKnownSpec) false w args) (Rows.classesKnownSpec.post enc Tryd.prog Tryd.f4 false true false false) := by
  refine returnsInHanded_of_change_and (C := Tryd.checked) (X := fun w _ => laidMetH Tryd.prog laidL w) (fun _ _ _ hh h => h.of_heap hh) own started (by kernel_rfl) Tryd.func4
    (ChangeSpec.witness_shaped (enc := enc) (C := Tryd.checked) (os := os) (X := fun w _ => laidMetH Tryd.prog laidL w) false (World.doorLaid Tryd.prog 400 os) #[] 8 rfl (World.shaped_of_RefB (by kernel_rfl) (by kernel_rfl)) (by kernel_rfl) (by kernel_rfl) (by kernel_rfl) (door_met os _)) ?_
  intro W base args ds gs before hval0 hW _ _ hL _
  have hT : Tab W := tab_of_laid hL
  have hval : ∀ (j : Nat) t v, Tryd.f4.params[j]? = some t → args[j]? = some v → Value.okWide Tryd.prog W .any base t v := hval0
  have hW' := hW
  obtain ⟨p, q, hA0, hV, rfl, hfz, hnd⟩ := hW
  have hA : DataW.TrodAll enc Tryd.prog W 0 (fun _ => true) true Tryd.f4.params.toList args.toList ds p := hA0
  rw [Tryd.params4] at hA hval
  obtain ⟨hargs, rfl, rfl⟩ := trodAll_nil hA
  obtain rfl : args = #[] := by cases args; simp_all
  obtain ⟨rfl, rfl⟩ := trodVars_none hV
  clear hA0 hval0
  refine (walk W hT).mono fun e W' ⟨he, bel⟩ => ?_
  subst he
  exact ⟨_, rfl, _, _, _, [], _, [], hW', trodAll_mk1 (shut_bool Tryd.underlying4 _), trodAll_mk0, rfl, bel.frame _, fun h => by cases h⟩

theorem over : Rows.classesKnownRow.holds Tryd.pinned (OpenSpec.ofChange Rows.classesKnownSpec) :=
  OpenClaim.holds_of_wide 4 Tryd.f4 rfl rfl rfl rfl rfl rfl rfl ⟨rfl, rfl, rfl, rfl, rfl⟩ rfl rfl rfl rfl rfl (by kernel_rfl) Tryd.func4 (by kernel_rfl)
    (of_decide_eq_true (by kernel_rfl)) (by unfold Func.isWrapper; first | (rw [if_pos (by decide +kernel)]; kernel_rfl) | (rw [if_neg (by decide +kernel)]; exact ⟨rfl, rfl⟩))
    (fun os started H enc _ => lifted os started H enc)

theorem proved : Rows.ClassesKnownCardSaid :=
  Claim7.holds_tied_plain_at .later [] [.data] true (true, "22bfa03ded28fcdf6dce186b205dc0d6516f7b640c39f0a6a20e7c48906351c0") false
    over (fun _ h => by cases h) (by kernel_rfl) (fun _ h => by cases h) classesKnown_row_tie rfl ⟨rfl, rfl⟩ (by kernel_rfl) rfl
    (fun f fn hf hfn => by
      obtain rfl : f = 4 := Option.some.inj ((show Tryd.prog.funcNamed "dragnet/dragnetlaw03.ClassesKnown" = some 4 by kernel_rfl).symm.trans hf) |>.symm
      obtain rfl : fn = Tryd.f4 := (Option.some.inj (Tryd.func4.symm.trans hfn)).symm
      exact ⟨by kernel_rfl, fun j t ht => by
        rw [Tryd.params4] at ht
        have hm : t ∈ ([] : List Nat) := by simpa using Array.mem_of_getElem? ht
        have hall : (([] : List Nat).all fun u => !Tryd.prog.wantsStandIn u) = true := by kernel_rfl
        exact (show Tryd.prog.wantsStandIn t = false by simpa using List.all_eq_true.1 hall t hm)⟩)
    (by kernel_rfl)
#print axioms proved
end Go.Proofs.YtooiegejchcbhaaDoor.classesKnown
