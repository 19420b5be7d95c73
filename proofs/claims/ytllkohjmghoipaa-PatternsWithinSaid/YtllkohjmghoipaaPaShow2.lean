/- shown: the calls of the example return what the document says. -/
import Derived.Test.YtllkohjmghoipaaPaShown
namespace Go.Proofs.Ytllkohjmghoipaa
open Go.RowKit Go.Sort

theorem al (W : World) (o : Obj) : Below W.heap.size W (W.alloc o) := (Below.refl _ _).alloc (Nat.le_refl _) _
set_option maxRecDepth 100000 in
set_option maxHeartbeats 20000000 in
theorem shown_p (w : World) : Calls Try.prog 12 #[] w fun e w' => e = .returned (.bool true) ∧ Below w.heap.size w w' := by
  have kc := fun (w : World) (C : Array Value) (n c : Nat) => Lib.run_convert_bytes_const (P := Try.prog) w 30 5 C n c Try.underlying30 Try.underlying5
  go_enter Try.func12, Try.ntmps12
  go_wp2_with fail
  refine (example_p _).mono ?_
  rintro e w1 ⟨a1, cp1, rfl, hp1, hb1⟩
  have K := Lib.hid (lengths_p _ _ w1 hp1)
  rw [sh_len] at K
  have HB1 := Lib.hid hb1
  clear hp1 hb1
  go_wp2_with fail
  refine K.out.mono ?_
  rintro e w2 ⟨rfl, hb2⟩
  have HB2 := Lib.hid (next HB1.out hb2)
  clear hb2 K HB1
  go_wp2_with fail
  refine (example_p _).mono ?_
  rintro e w3 ⟨a3, cp3, rfl, hp3, hb3⟩
  have HB3 := Lib.hid (next HB2.out hb3)
  have HP3 := Lib.hid hp3
  clear hp3 hb3 HB2
  go_wp2_with fail
  have K := Lib.hid (ends_p _ _ exV [97, 120, 98, 120, 120, 98] _ (Row.below HP3.out (al _ _)) (Row.marked w3 5 1 6 (6, 7) (bcells [97, 120, 98, 120, 120, 98]) rfl (by decide)))
  rw [sh_e1.1, sh_e1.2] at K
  refine K.out.mono ?_
  rintro e w4 ⟨v4, rfl, ho4, hb4⟩
  have HV4 := Lib.hid (Row.of_owns ho4)
  have HB4 := Lib.hid (next (next HB3.out (al _ _)) hb4)
  clear ho4 hb4 K HB3 HP3
  go_wp2_with fail
  refine (example_p _).mono ?_
  rintro e w5 ⟨a5, cp5, rfl, hp5, hb5⟩
  have HB5 := Lib.hid (next HB4.out hb5)
  have HP5 := Lib.hid hp5
  replace HV4 := Lib.hid (Row.below HV4.out hb5)
  clear hp5 hb5 HB4
  go_wp2_with fail
  have K := Lib.hid (ends_p _ _ exV [97, 97, 98, 98] _ (Row.below HP5.out (al _ _)) (Row.marked w5 5 1 4 (4, 5) (bcells [97, 97, 98, 98]) rfl (by decide)))
  rw [sh_e2.1, sh_e2.2] at K
  refine K.out.mono ?_
  rintro e w6 ⟨v6, rfl, ho6, hb6⟩
  have HV6 := Lib.hid (Row.of_owns ho6)
  have HB6 := Lib.hid (next (next HB5.out (al _ _)) hb6)
  replace HV4 := Lib.hid (Row.below HV4.out (next (al _ _) hb6))
  clear ho6 hb6 K HB5 HP5
  go_wp2_with fail
  refine (byte_p 97 _).mono ?_
  rintro e w7 ⟨rfl, hb7⟩
  have HB7 := Lib.hid (next HB6.out hb7)
  replace HV4 := Lib.hid (Row.below HV4.out hb7)
  replace HV6 := Lib.hid (Row.below HV6.out hb7)
  clear hb7 HB6
  have hp7 := lit_el w7 (byteV 97)
  have HP7 := Lib.hid hp7
  clear hp7
  unfold elV
  go_wp2_with fail
  refine (byte_p 98 _).mono ?_
  rintro e w8 ⟨rfl, hb8⟩
  have HB8 := Lib.hid (next (next HB7.out (al _ _)) hb8)
  replace HV4 := Lib.hid (Row.below HV4.out (next (al _ _) hb8))
  replace HV6 := Lib.hid (Row.below HV6.out (next (al _ _) hb8))
  replace HP7 := Lib.hid (Row.below HP7.out hb8)
  have HP8 := Lib.hid (lit_el w8 (byteV 98))
  clear hb8 HB7
  unfold elV
  go_wp2_with fail
  have K := Lib.hid (join_p _ _ [byteV 97] [byteV 98] 1 2 _ (Row.below HP7.out (al _ _)) HP8.out)
  rw [sh_j.1, sh_j.2] at K
  refine K.out.mono ?_
  rintro e w9 ⟨v9, rfl, ho9, hb9⟩
  have HV9 := Lib.hid (Row.of_owns ho9)
  have HB9 := Lib.hid (next (next HB8.out (al _ _)) hb9)
  replace HV4 := Lib.hid (Row.below HV4.out (next (al _ _) hb9))
  replace HV6 := Lib.hid (Row.below HV6.out (next (al _ _) hb9))
  clear ho9 hb9 K HB8 HP7 HP8
  obtain ⟨a4, c4, rfl⟩ := Row.form2 HV4.out
  obtain ⟨a6, c6, rfl⟩ := Row.form2 HV6.out
  obtain ⟨a9, c9, rfl⟩ := Row.form2 HV9.out
  go_wp2_with fail
  refine (is_p [97, 120, 98] true (by decide) sh_m1.1 sh_m1.2 _).mono ?_
  rintro e w10 ⟨rfl, hb10⟩
  have HB10 := Lib.hid (next HB9.out hb10)
  replace HV4 := Lib.hid (Row.below HV4.out hb10)
  replace HV6 := Lib.hid (Row.below HV6.out hb10)
  replace HV9 := Lib.hid (Row.below HV9.out hb10)
  clear hb10 HB9
  go_wp2_with fail
  refine (is_p [97, 120, 120, 98] true (by decide) sh_m2.1 sh_m2.2 _).mono ?_
  rintro e w11 ⟨rfl, hb11⟩
  have HB11 := Lib.hid (next HB10.out hb11)
  replace HV4 := Lib.hid (Row.below HV4.out hb11)
  replace HV6 := Lib.hid (Row.below HV6.out hb11)
  replace HV9 := Lib.hid (Row.below HV9.out hb11)
  clear hb11 HB10
  go_wp2_with fail
  refine (is_p [97, 98] false (by decide) sh_m3.1 sh_m3.2 _).mono ?_
  rintro e w12 ⟨rfl, hb12⟩
  have HB12 := Lib.hid (next HB11.out hb12)
  replace HV4 := Lib.hid (Row.below HV4.out hb12)
  replace HV6 := Lib.hid (Row.below HV6.out hb12)
  replace HV9 := Lib.hid (Row.below HV9.out hb12)
  clear hb12 HB11
  go_wp2_with fail
  refine (is_p [97, 120, 120, 120, 98] false (by decide) sh_m4.1 sh_m4.2 _).mono ?_
  rintro e w13 ⟨rfl, hb13⟩
  have HB13 := Lib.hid (next HB12.out hb13)
  replace HV4 := Lib.hid (Row.below HV4.out hb13)
  replace HV6 := Lib.hid (Row.below HV6.out hb13)
  replace HV9 := Lib.hid (Row.below HV9.out hb13)
  clear hb13 HB12
  go_wp2_with fail
  have K := Lib.hid (ints_r _ _ [3] [3] _ (Row.below HV4.out (al _ _)) (Row.lit w13 3 1 1 (ncells [3]) rfl (by decide)))
  rw [show decide ([3] = [3]) = true by decide] at K
  refine K.out.mono ?_
  rintro e w14 ⟨rfl, hb14⟩
  have HB14 := Lib.hid (next (next HB13.out (al _ _)) hb14)
  replace HV6 := Lib.hid (Row.below HV6.out (next (al _ _) hb14))
  replace HV9 := Lib.hid (Row.below HV9.out (next (al _ _) hb14))
  clear hb14 HB13 K HV4
  go_wp2_with fail
  have K := Lib.hid (ints_r _ _ [3, 4] [3, 4] _ (Row.below HV6.out (al _ _)) (Row.lit w14 3 1 2 (ncells [3, 4]) rfl (by decide)))
  rw [show decide ([3, 4] = [3, 4]) = true by decide] at K
  refine K.out.mono ?_
  rintro e w15 ⟨rfl, hb15⟩
  have HB15 := Lib.hid (next (next HB14.out (al _ _)) hb15)
  replace HV9 := Lib.hid (Row.below HV9.out (next (al _ _) hb15))
  clear hb15 HB14 K HV6
  go_wp2_with fail
  refine (example_p _).mono ?_
  rintro e w16 ⟨a16, cp16, rfl, hp16, hb16⟩
  have K := Lib.hid (same_r _ _ exV exV w16 (Row.below HV9.out hb16) hp16)
  rw [decide_eq_true (rfl : exV = exV)] at K
  have HB16 := Lib.hid (next HB15.out hb16)
  clear hb16 HB15 hp16
  go_wp2_with fail
  refine K.out.mono ?_
  rintro e w17 ⟨rfl, hb17⟩
  have HB17 := Lib.hid (next HB16.out hb17)
  clear hb17 HB16 K
  go_wp2_with fail
  go_ret
  exact ⟨rfl, HB17.out⟩
end Go.Proofs.Ytllkohjmghoipaa
