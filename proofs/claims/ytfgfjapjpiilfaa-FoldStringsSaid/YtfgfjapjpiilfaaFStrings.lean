/- FoldStrings: the law returns true: Alike, Key, Compare and Sets of package fold return what the reference returns. No conditions. -/
import Derived.Test.YtfgfjapjpiilfaaArgs
import Derived.Test.YtfgfjapjpiilfaaFoldH
namespace Go.Proofs.Ytfgfjapjpiilfaa.foldStrings
open Go.ChangeShapes Go.WideShapes Go.ChangeAt Go.RowKit

set_option maxRecDepth 100000 in
set_option maxHeartbeats 1000000 in
theorem walkL (a b : List UInt8) (ha : a.length ≤ maxLen) (hb : b.length ≤ maxLen) (w : World) :
    Calls Try.prog 9 #[.string (str a), .string (str b)] w fun e w' => e = .returned (.bool true) ∧ Below w.heap.size w w' := by
  have za := size_str a
  have zb := size_str b
  by_cases h1 : 600 < a.length
  · have t1 : (600 : Int) < (a.length : Int) := by omega
    unfold maxLen at ha hb
    go_enter Try.func9, Try.ntmps9
    go_wp2_with (go_at_call 11; refine (shown_p _).mono ?_; rintro e w3 ⟨rfl, hb3⟩; have HB3 := Lib.hid hb3; clear hb3)
    go_ret
    exact ⟨rfl, HB3.out⟩
  · have t1 : ¬ (600 : Int) < (a.length : Int) := by omega
    by_cases h2 : 600 < b.length
    · have t2 : (600 : Int) < (b.length : Int) := by omega
      unfold maxLen at ha hb
      go_enter Try.func9, Try.ntmps9
      go_wp2_with (go_at_call 11; refine (shown_p _).mono ?_; rintro e w3 ⟨rfl, hb3⟩; have HB3 := Lib.hid hb3; clear hb3)
      go_ret
      exact ⟨rfl, HB3.out⟩
    · have t2 : ¬ (600 : Int) < (b.length : Int) := by omega
      have C1 := Lib.hid (fun w => sets_p a w ha)
      have C2 := Lib.hid (fun w => sets4 a w ha)
      have C3 := Lib.hid (fun w => alike_p a b w ha hb)
      have C4 := Lib.hid (fun w => alike4 a b w ha hb)
      have C5 := Lib.hid (fun w => key_p a w ha)
      have C6 := Lib.hid (fun w => key4 a w ha)
      have C7 := Lib.hid (fun w => compare_p a b w ha hb)
      have C8 := Lib.hid (fun w => compare4 a b w ha hb)
      generalize setsL a = S at *
      generalize setsE a = E at *
      generalize alikeL a b = t at *
      generalize cmpB (keyL a) (keyL b) = c at *
      generalize str (keyL a) = ks at *
      have hdS : decide (S = S) = true := decide_eq_true rfl
      unfold maxLen at ha hb
      go_enter Try.func9, Try.ntmps9
      go_wp2_with fail
      refine (C1.out _).mono ?_
      rintro e w1 ⟨v1, rfl, hr1, hb1⟩
      have HR1 := Lib.hid (Row.of_owns hr1)
      have HB1 := Lib.hid hb1
      clear hr1 hb1
      go_wp2_with fail
      refine (C2.out _).mono ?_
      rintro e w2 ⟨v2, rfl, hr2, hb2⟩
      have HR2 := Lib.hid (Row.of_owns hr2)
      have HR1' := Lib.hid (HR1.out.below hb2)
      have HB2 := Lib.hid (next HB1.out hb2)
      clear hr2 hb2
      go_wp2_with (first
        | (go_at_call 18; refine (C3.out _).mono ?_; rintro e w3 ⟨rfl, hb3⟩; have HB3 := Lib.hid hb3; clear hb3)
        | (go_at_call 38; refine (C4.out _).mono ?_; rintro e w4 ⟨rfl, hb4⟩; have HB4 := Lib.hid (next HB3.out hb4); clear hb4)
        | (go_at_call 17; refine (C5.out _).mono ?_; rintro e w5 ⟨rfl, hb5⟩; have HB5 := Lib.hid (next HB4.out hb5); clear hb5)
        | (go_at_call 39; refine (C6.out _).mono ?_; rintro e w6 ⟨rfl, hb6⟩; have HB6 := Lib.hid (next HB5.out hb6); clear hb6)
        | (go_at_call 40; refine (C7.out _).mono ?_; rintro e w7 ⟨rfl, hb7⟩; have HB7 := Lib.hid (next HB6.out hb7); clear hb7)
        | (go_at_call 41; refine (C8.out _).mono ?_; rintro e w8 ⟨rfl, hb8⟩; have HB8 := Lib.hid (next HB7.out hb8); clear hb8)
        | (go_at_call 42; refine (sameSets4 v1 v2 S S _ (HR1'.out.below HB8.out) (HR2.out.below HB8.out)).mono ?_; rintro e w9 ⟨rfl, hb9⟩; have HB9 := Lib.hid (next HB8.out hb9); clear hb9)
        | (go_at_call 11; refine (shown_p _).mono ?_; rintro e w10 ⟨rfl, hb10⟩; have HB10 := Lib.hid (next HB2.out (next HB9.out hb10)); clear hb10))
      go_ret
      exact ⟨rfl, HB10.out⟩

theorem walk (a b : ByteArray) (w : World) (ha : a.size ≤ maxLen) (hb : b.size ≤ maxLen) :
    Calls Try.prog 9 #[.string a, .string b] w fun e w' => e = .returned (.bool true) ∧ Below w.heap.size w w' := by
  have := walkL a.data.toList b.data.toList (by simpa using ha) (by simpa using hb) w
  rwa [str_data, str_data] at this

theorem own : ownKnob Try.prog.godebug = none := by kernel_rfl
theorem laidOut : laidOutB Try.prog = true := by kernel_rfl

set_option maxRecDepth 100000 in
theorem lifted (os : Os) (started : os.Started) (H : Type) (enc : TypeId × Value → H) :
    ReturnsInHanded {} Try.checked os 9 .any (Rows.foldStringsSpec.pre6 enc Try.prog Try.f9 Rows.foldStringsRow.domain false) (Rows.foldStringsSpec.post enc Try.prog Try.f9 false true false false) := by
  refine returnsInHanded_of_change (C := Try.checked) own started (by kernel_rfl) Try.func9
    (ChangeSpec.witness6 (enc := enc) (C := Try.checked) false ⟨#[], #[.string .empty, .string .empty], []⟩ 8 (by kernel_rfl) (by kernel_rfl) (by kernel_rfl) (by kernel_rfl)) ?_
  intro W base args ds gs before hval0 hW hcnd _
  have hval : ∀ (j : Nat) t v, Try.f9.params[j]? = some t → args[j]? = some v → Value.okWide Try.prog W .any base t v := hval0
  have hW' := hW
  obtain ⟨p, q, hA0, hV, rfl, hfz, hnd⟩ := hW
  have hA : DataW.TrodAll enc Try.prog W 0 (fun _ => true) true Try.f9.params.toList args.toList ds p := hA0
  rw [Try.params9] at hA hval
  obtain ⟨v0, vs0, d0, ds0, p0, q0, hargs, rfl, rfl, k0, r0⟩ := trodAll_cons hA
  obtain ⟨v1, vs1, d1, ds1, p1, q1, rfl, rfl, rfl, k1, r1⟩ := trodAll_cons r0
  obtain ⟨rfl, rfl, rfl⟩ := trodAll_nil r1
  obtain rfl : args = #[v0, v1] := by cases args; simp_all
  obtain ⟨rfl, rfl⟩ := trodVars_none hV
  have lt0 : ∀ x ∈ p0, x.block < W.heap.size := by obtain ⟨m, hm⟩ := k0; exact DataW.trod_lt m _ _ _ hm
  have lt1 : ∀ x ∈ p1, x.block < W.heap.size := by obtain ⟨m, hm⟩ := k1; exact DataW.trod_lt m _ _ _ hm
  obtain ⟨s0, rfl, m0⟩ := arg_string Try.underlying9 (hval 0 9 v0 rfl rfl)
  obtain ⟨s1, rfl, m1⟩ := arg_string Try.underlying9 (hval 1 9 v1 rfl rfl)
  clear hA0 hval0
  refine (walk s0 s1 W m0 m1).mono fun e W' ⟨he, bel⟩ => ?_
  subst he
  exact ⟨_, rfl, _, _, _, [], _, [], hW', trodAll_mk1 (shut_bool Try.underlying4 _), (trodAll_cons_mk (Below.trod laidOut (by kernel_rfl) (of_decide_eq_true (by kernel_rfl)) k0 bel lt0) (trodAll_cons_mk (Below.trod laidOut (by kernel_rfl) (of_decide_eq_true (by kernel_rfl)) k1 bel lt1) trodAll_mk0)), rfl, bel.frame _, fun h => by cases h⟩

theorem over : Rows.foldStringsRow.holds Try.pinned (OpenSpec.ofChange Rows.foldStringsSpec) :=
  OpenClaim.holds_of_wide 9 Try.f9 rfl rfl rfl rfl rfl rfl rfl ⟨rfl, rfl, rfl, rfl, rfl⟩ rfl rfl rfl rfl rfl (by kernel_rfl) Try.func9 (by kernel_rfl)
    (of_decide_eq_true (by kernel_rfl)) (by unfold Func.isWrapper; first | (rw [if_pos (by decide +kernel)]; kernel_rfl) | (rw [if_neg (by decide +kernel)]; exact ⟨rfl, rfl⟩))
    (fun os started H enc _ => lifted os started H enc)

theorem proved : Rows.FoldStringsSaid := over
#print axioms proved
end Go.Proofs.Ytfgfjapjpiilfaa.foldStrings
