/- FoldFinds: the law returns true: Find and All of package fold return what the reference returns. No conditions. -/
import Derived.Test.YtfgfjapjpiilfaaArgs
import Derived.Test.YtfgfjapjpiilfaaFoldH
namespace Go.Proofs.Ytfgfjapjpiilfaa.foldFinds
open Go.ChangeShapes Go.WideShapes Go.ChangeAt Go.RowKit

set_option maxRecDepth 100000 in
set_option maxHeartbeats 2000000 in
theorem walkL (a b : List UInt8) (ha : a.length ≤ maxLen) (hb : b.length ≤ maxLen) (w : World) :
    Calls Try.prog 3 #[.string (str a), .string (str b)] w fun e w' => e = .returned (.bool true) ∧ Below w.heap.size w w' := by
  have za := size_str a
  have zb := size_str b
  have C1 := Lib.hid (fun w => find_p a b w ha hb)
  have C2 := Lib.hid (fun w => find4 a b w ha hb)
  have C3 := Lib.hid (fun w => allP a b w ha hb)
  have C4 := Lib.hid (fun w => all4 a b w ha hb)
  unfold maxLen at ha hb
  by_cases h1 : 300 < a.length ∧ a.length ≤ 4096 ∨ 4200 < a.length ∨ 600 < b.length
  · have h2 : (300 < a.length ∧ a.length ≤ 4096) ∨ (4200 < a.length) ∨ (a.length ≤ 300 ∧ 600 < b.length) ∨ (4096 < a.length ∧ a.length ≤ 4200 ∧ 600 < b.length) := by omega
    clear h1
    rcases h2 with ⟨h1, h2⟩ | h1 | ⟨h1, h2⟩ | ⟨h1, h2, h3⟩
    · have t1 : (300 : Int) < (a.length : Int) := by omega
      have t2 : (a.length : Int) ≤ 4096 := by omega
      go_enter Try.func3, Try.ntmps3
      go_wp2_with (go_at_call 11; refine (shown_p _).mono ?_; rintro e w3 ⟨rfl, hb3⟩; have HB3 := Lib.hid hb3; clear hb3)
      go_ret
      exact ⟨rfl, HB3.out⟩
    · have t1 : (300 : Int) < (a.length : Int) := by omega
      have t2 : ¬ (a.length : Int) ≤ 4096 := by omega
      have t3 : (4200 : Int) < (a.length : Int) := by omega
      go_enter Try.func3, Try.ntmps3
      go_wp2_with (go_at_call 11; refine (shown_p _).mono ?_; rintro e w3 ⟨rfl, hb3⟩; have HB3 := Lib.hid hb3; clear hb3)
      go_ret
      exact ⟨rfl, HB3.out⟩
    · have t1 : ¬ (300 : Int) < (a.length : Int) := by omega
      have t2 : ¬ (4200 : Int) < (a.length : Int) := by omega
      have t3 : (600 : Int) < (b.length : Int) := by omega
      go_enter Try.func3, Try.ntmps3
      go_wp2_with (go_at_call 11; refine (shown_p _).mono ?_; rintro e w3 ⟨rfl, hb3⟩; have HB3 := Lib.hid hb3; clear hb3)
      go_ret
      exact ⟨rfl, HB3.out⟩
    · have t1 : (300 : Int) < (a.length : Int) := by omega
      have t2 : ¬ (a.length : Int) ≤ 4096 := by omega
      have t3 : ¬ (4200 : Int) < (a.length : Int) := by omega
      have t4 : (600 : Int) < (b.length : Int) := by omega
      go_enter Try.func3, Try.ntmps3
      go_wp2_with (go_at_call 11; refine (shown_p _).mono ?_; rintro e w3 ⟨rfl, hb3⟩; have HB3 := Lib.hid hb3; clear hb3)
      go_ret
      exact ⟨rfl, HB3.out⟩
  · have h2 : (a.length ≤ 300) ∨ (4096 < a.length ∧ a.length ≤ 4200) := by omega
    have h3 : ¬ 600 < b.length := by omega
    have t9 : ¬ (600 : Int) < (b.length : Int) := by omega
    have t8 : ¬ (4200 : Int) < (a.length : Int) := by omega
    clear h1
    generalize (findI a b : Int) = fi at *
    generalize findE a b = fe at *
    generalize allL a b = L at *
    generalize allE a b = ae at *
    have hL : decide (L = L) = true := decide_eq_true rfl
    rcases h2 with h1 | ⟨h1, h2⟩
    · have t1 : ¬ (300 : Int) < (a.length : Int) := by omega
      go_enter Try.func3, Try.ntmps3
      go_wp2_with fail
      refine (C1.out _).mono ?_
      rintro e w1 ⟨rfl, hb1⟩
      have HB1 := Lib.hid hb1
      clear hb1
      go_wp2_with fail
      refine (C2.out _).mono ?_
      rintro e w2 ⟨rfl, hb2⟩
      have HB2 := Lib.hid (next HB1.out hb2)
      clear hb2
      go_wp2_with fail
      refine (C3.out _).mono ?_
      rintro e w3 ⟨v3, rfl, hr3, hb3⟩
      have HR3 := Lib.hid (Row.of_owns hr3)
      have HB3 := Lib.hid (next HB2.out hb3)
      clear hr3 hb3
      go_wp2_with fail
      refine (C4.out _).mono ?_
      rintro e w4 ⟨v4, rfl, hr4, hb4⟩
      have HR4 := Lib.hid (Row.of_owns hr4)
      have HR3' := Lib.hid (HR3.out.below hb4)
      have HB4 := Lib.hid (next HB3.out hb4)
      clear hr4 hb4
      go_wp2_with (first
        | (go_at_call 16; refine (ints4 v3 v4 L L _ HR3'.out HR4.out).mono ?_; rintro e w5 ⟨rfl, hb5⟩; have HB5 := Lib.hid (next HB4.out hb5); clear hb5)
        | (go_at_call 11; refine (shown_p _).mono ?_; rintro e w6 ⟨rfl, hb6⟩; have HB6 := Lib.hid (next HB5.out hb6); clear hb6))
      go_ret
      exact ⟨rfl, HB6.out⟩
    · have t1 : (300 : Int) < (a.length : Int) := by omega
      have t2 : ¬ (a.length : Int) ≤ 4096 := by omega
      go_enter Try.func3, Try.ntmps3
      go_wp2_with fail
      refine (C1.out _).mono ?_
      rintro e w1 ⟨rfl, hb1⟩
      have HB1 := Lib.hid hb1
      clear hb1
      go_wp2_with fail
      refine (C2.out _).mono ?_
      rintro e w2 ⟨rfl, hb2⟩
      have HB2 := Lib.hid (next HB1.out hb2)
      clear hb2
      go_wp2_with fail
      refine (C3.out _).mono ?_
      rintro e w3 ⟨v3, rfl, hr3, hb3⟩
      have HR3 := Lib.hid (Row.of_owns hr3)
      have HB3 := Lib.hid (next HB2.out hb3)
      clear hr3 hb3
      go_wp2_with fail
      refine (C4.out _).mono ?_
      rintro e w4 ⟨v4, rfl, hr4, hb4⟩
      have HR4 := Lib.hid (Row.of_owns hr4)
      have HR3' := Lib.hid (HR3.out.below hb4)
      have HB4 := Lib.hid (next HB3.out hb4)
      clear hr4 hb4
      go_wp2_with (first
        | (go_at_call 16; refine (ints4 v3 v4 L L _ HR3'.out HR4.out).mono ?_; rintro e w5 ⟨rfl, hb5⟩; have HB5 := Lib.hid (next HB4.out hb5); clear hb5)
        | (go_at_call 11; refine (shown_p _).mono ?_; rintro e w6 ⟨rfl, hb6⟩; have HB6 := Lib.hid (next HB5.out hb6); clear hb6))
      go_ret
      exact ⟨rfl, HB6.out⟩

theorem walk (a b : ByteArray) (w : World) (ha : a.size ≤ maxLen) (hb : b.size ≤ maxLen) :
    Calls Try.prog 3 #[.string a, .string b] w fun e w' => e = .returned (.bool true) ∧ Below w.heap.size w w' := by
  have := walkL a.data.toList b.data.toList (by simpa using ha) (by simpa using hb) w
  rwa [str_data, str_data] at this

theorem own : ownKnob Try.prog.godebug = none := by kernel_rfl
theorem laidOut : laidOutB Try.prog = true := by kernel_rfl

set_option maxRecDepth 100000 in
theorem lifted (os : Os) (started : os.Started) (H : Type) (enc : TypeId × Value → H) :
    ReturnsInHanded {} Try.checked os 3 .any (Rows.foldFindsSpec.pre6 enc Try.prog Try.f3 Rows.foldFindsRow.domain false) (Rows.foldFindsSpec.post enc Try.prog Try.f3 false true false false) := by
  refine returnsInHanded_of_change (C := Try.checked) own started (by kernel_rfl) Try.func3
    (ChangeSpec.witness6 (enc := enc) (C := Try.checked) false ⟨#[], #[.string .empty, .string .empty], []⟩ 8 (by kernel_rfl) (by kernel_rfl) (by kernel_rfl) (by kernel_rfl)) ?_
  intro W base args ds gs before hval0 hW hcnd _
  have hval : ∀ (j : Nat) t v, Try.f3.params[j]? = some t → args[j]? = some v → Value.okWide Try.prog W .any base t v := hval0
  have hW' := hW
  obtain ⟨p, q, hA0, hV, rfl, hfz, hnd⟩ := hW
  have hA : DataW.TrodAll enc Try.prog W 0 (fun _ => true) true Try.f3.params.toList args.toList ds p := hA0
  rw [Try.params3] at hA hval
  obtain ⟨v0, vs0, d0, ds0, p0, q0, hargs, rfl, rfl, k0, r0⟩ := trodAll_cons hA
  obtain ⟨v1, vs1, d1, ds1, p1, q1, rfl, rfl, rfl, k1, r1⟩ := trodAll_cons r0
  obtain ⟨rfl, rfl, rfl⟩ := trodAll_nil r1
  obtain rfl : args = #[v0, v1] := by cases args; simp_all
  obtain ⟨rfl, rfl⟩ := trodVars_none hV
  have lt0 : ∀ x ∈ p0, x.block < W.heap.size := by obtain ⟨m, hm⟩ := k0; exact DataW.trod_lt m _ _ _ hm
  have lt1 : ∀ x ∈ p1, x.block < W.heap.size := by obtain ⟨m, hm⟩ := k1; exact DataW.trod_lt m _ _ _ hm
  obtain ⟨s0, rfl, m0⟩ := arg_string Try.underlying9 (hval 0 9 v0 rfl rfl)
  obtain ⟨s1, rfl, m1⟩ := arg_string Try.underlying9 (hval 1 9 v1 rfl rfl)
  clear hA0 hval0
  refine (walk s0 s1 W m0 m1).mono fun e W' ⟨he, bel⟩ => ?_
  subst he
  exact ⟨_, rfl, _, _, _, [], _, [], hW', trodAll_mk1 (shut_bool Try.underlying4 _), (trodAll_cons_mk (Below.trod laidOut (by kernel_rfl) (of_decide_eq_true (by kernel_rfl)) k0 bel lt0) (trodAll_cons_mk (Below.trod laidOut (by kernel_rfl) (of_decide_eq_true (by kernel_rfl)) k1 bel lt1) trodAll_mk0)), rfl, bel.frame _, fun h => by cases h⟩

theorem over : Rows.foldFindsRow.holds Try.pinned (OpenSpec.ofChange Rows.foldFindsSpec) :=
  OpenClaim.holds_of_wide 3 Try.f3 rfl rfl rfl rfl rfl rfl rfl ⟨rfl, rfl, rfl, rfl, rfl⟩ rfl rfl rfl rfl rfl (by kernel_rfl) Try.func3 (by kernel_rfl)
    (of_decide_eq_true (by kernel_rfl)) (by unfold Func.isWrapper; first | (rw [if_pos (by decide +kernel)]; kernel_rfl) | (rw [if_neg (by decide +kernel)]; exact ⟨rfl, rfl⟩))
    (fun os started H enc _ => lifted os started H enc)

theorem proved : Rows.FoldFindsSaid := over
#print axioms proved
end Go.Proofs.Ytfgfjapjpiilfaa.foldFinds
