/- FoldAlike: the law returns true: being alike is an equivalence, with keys, Compare and Sets. No conditions. -/
import Derived.Test.YtfgfjapjpiilfaaArgs
import Derived.Test.YtfgfjapjpiilfaaFoldH
import Derived.BigQuiet
import Derived.Deep.QuietTactic
namespace Go.Proofs.Ytfgfjapjpiilfaa.foldAlike
open Go.ChangeShapes Go.WideShapes Go.ChangeAt Go.RowKit

theorem cmp_swap : ∀ x y : List UInt8, Lib.compareBytes y x = - Lib.compareBytes x y
  | [], [] => rfl
  | [], _ :: _ => rfl
  | _ :: _, [] => rfl
  | a :: x, b :: y => by
    have ih := cmp_swap x y
    unfold Lib.compareBytes
    by_cases h1 : a < b
    · have h2 : ¬ b < a := fun h => UInt8.lt_asymm h1 h
      simp [h1, h2]
    · by_cases h2 : b < a
      · simp [h1, h2]
      · simp [h1, h2, ih]
theorem cmp_zero : ∀ x y : List UInt8, Lib.compareBytes x y = 0 ↔ x = y
  | [], [] => by simp [Lib.compareBytes]
  | [], _ :: _ => by simp [Lib.compareBytes]
  | _ :: _, [] => by simp [Lib.compareBytes]
  | a :: x, b :: y => by
    have ih := cmp_zero x y
    unfold Lib.compareBytes
    by_cases h1 : a < b
    · have hne : ¬ a = b := fun e => by subst e; exact UInt8.lt_irrefl _ h1
      simp [h1, hne]
    · by_cases h2 : b < a
      · have hne : ¬ a = b := fun e => by subst e; exact h1 h2
        simp [h1, h2, hne]
      · have e : a = b := UInt8.le_antisymm (UInt8.not_lt.1 h2) (UInt8.not_lt.1 h1)
        subst e
        simp [h1, ih]
theorem cmp_three (x y : List UInt8) : cmpB x y = -1 ∨ cmpB x y = 0 ∨ cmpB x y = 1 := by
  unfold cmpB; split
  · exact .inl rfl
  · split
    · exact .inr (.inr rfl)
    · exact .inr (.inl rfl)
theorem low_low : ∀ n : Fin 256, lowN (lowN n.val) = lowN n.val := by decide +kernel
theorem low8_low8 (x : UInt8) : low8 (low8 x) = low8 x := by
  apply UInt8.toNat_inj.1
  rw [low8_num, low8_num]
  exact low_low ⟨x.toNat, x.toNat_lt⟩
theorem key_key (a : List UInt8) : keyL (keyL a) = keyL a := by
  unfold keyL; rw [List.map_map]; apply List.map_congr_left; intro x _; exact low8_low8 x

def inK (a b : List UInt8) (k : Nat) : Bool := decide (a.length = b.length) && decide ((keyL a).take k = (keyL b).take k)
theorem inK_zero (a b : List UInt8) : inK a b 0 = decide (a.length = b.length) := by simp [inK]
theorem inK_no {a b : List UInt8} {k : Nat} (h : inK a b k = false) : inK a b (k + 1) = false := by
  unfold inK at h ⊢
  rw [Bool.and_eq_false_iff] at h ⊢
  rcases h with h | h
  · exact .inl h
  · refine .inr ?_
    rw [decide_eq_false_iff_not] at h ⊢
    intro e
    apply h
    have := congrArg (List.take k) e
    rwa [List.take_take, List.take_take, Nat.min_eq_left (by omega)] at this
theorem inK_yes {a b : List UInt8} {k : Nat} (h1 : k < a.length) (h2 : k < b.length) (h : inK a b k = true) : inK a b (k + 1) = sameN b[k].toNat a[k].toNat := by
  unfold inK at h ⊢
  rw [Bool.and_eq_true, decide_eq_true_iff, decide_eq_true_iff] at h
  obtain ⟨hl, ht⟩ := h
  rw [decide_eq_true hl, Bool.true_and]
  have e : sameN b[k].toNat a[k].toNat = sameN a[k].toNat b[k].toNat := by unfold sameN; rw [Bool.eq_iff_iff, beq_iff_eq, beq_iff_eq]; exact ⟨Eq.symm, Eq.symm⟩
  rw [e, same_low]
  rw [List.take_succ_eq_append_getElem (by rw [length_keyL]; exact h1), List.take_succ_eq_append_getElem (by rw [length_keyL]; exact h2), ht]
  simp [keyL]
theorem inK_end {a b : List UInt8} {k : Nat} (h : ¬ (k < b.length ∧ k < a.length)) : inK a b k = alikeL a b := by
  unfold inK alikeL
  by_cases hl : a.length = b.length
  · rw [decide_eq_true hl, Bool.true_and, List.take_of_length_le (by rw [length_keyL]; omega), List.take_of_length_le (by rw [length_keyL]; omega)]
  · rw [decide_eq_false hl, Bool.false_and, decide_eq_false (fun e => hl (by have := congrArg List.length e; simpa [keyL] using this))]
theorem length_bothL (a : List UInt8) : (bothL a).length = a.length := by simp [bothL]

set_option maxRecDepth 100000 in
set_option maxHeartbeats 2000000 in
theorem walk_long (a b c : List UInt8) (ha : a.length ≤ maxLen) (hb : b.length ≤ maxLen) (hc : c.length ≤ maxLen) (w : World) (h : 100 < a.length ∨ 100 < b.length ∨ 100 < c.length) :
    Calls Try.prog 10 #[.string (str a), .string (str b), .string (str c)] w fun e w' => e = .returned (.bool true) ∧ Below w.heap.size w w' := by
  have za := size_str a
  have zb := size_str b
  have zc := size_str c
  have h2 : 100 < a.length ∨ (a.length ≤ 100 ∧ 100 < b.length) ∨ (a.length ≤ 100 ∧ b.length ≤ 100 ∧ 100 < c.length) := by omega
  clear h
  rcases h2 with h1 | ⟨h1, h2⟩ | ⟨h1, h2, h3⟩
  · have ta1 : (100 : Int) < (a.length : Int) := by omega
    unfold maxLen at ha hb hc
    go_enter Try.func10, Try.ntmps10
    go_wp2_with (go_at_call 11; refine (shown_p _).mono ?_; rintro e w3 ⟨rfl, hb3⟩; have HB3 := Lib.hid hb3; clear hb3)
    go_ret
    exact ⟨rfl, HB3.out⟩
  · have ta1 : ¬ (100 : Int) < (a.length : Int) := by omega
    have tb1 : (100 : Int) < (b.length : Int) := by omega
    unfold maxLen at ha hb hc
    go_enter Try.func10, Try.ntmps10
    go_wp2_with (go_at_call 11; refine (shown_p _).mono ?_; rintro e w3 ⟨rfl, hb3⟩; have HB3 := Lib.hid hb3; clear hb3)
    go_ret
    exact ⟨rfl, HB3.out⟩
  · have ta1 : ¬ (100 : Int) < (a.length : Int) := by omega
    have tb1 : ¬ (100 : Int) < (b.length : Int) := by omega
    have tc1 : (100 : Int) < (c.length : Int) := by omega
    unfold maxLen at ha hb hc
    go_enter Try.func10, Try.ntmps10
    go_wp2_with (go_at_call 11; refine (shown_p _).mono ?_; rintro e w3 ⟨rfl, hb3⟩; have HB3 := Lib.hid hb3; clear hb3)
    go_ret
    exact ⟨rfl, HB3.out⟩

set_option maxRecDepth 100000 in
set_option maxHeartbeats 4000000 in
theorem walk_yes (a b c : List UInt8) (ha : a.length ≤ 100) (hb : b.length ≤ 100) (hc : c.length ≤ 100) (w : World) (his : alikeL a b = true) :
    Calls Try.prog 10 #[.string (str a), .string (str b), .string (str c)] w fun e w' => e = .returned (.bool true) ∧ Below w.heap.size w w' := by
  have ma : a.length ≤ maxLen := by unfold maxLen; omega
  have mb : b.length ≤ maxLen := by unfold maxLen; omega
  have mc : c.length ≤ maxLen := by unfold maxLen; omega
  have mk : (keyL a).length ≤ maxLen := by rw [length_keyL]; exact ma
  have ek : keyL a = keyL b := of_decide_eq_true his
  have hcm : cmpB (keyL a) (keyL b) = 0 := by rw [← compare_cmp]; exact (cmp_zero _ _).2 ek
  have hcn : cmpB (keyL b) (keyL a) = 0 := by rw [← compare_cmp]; exact (cmp_zero _ _).2 ek.symm
  have hba : alikeL b a = true := decide_eq_true ek.symm
  have hbc : alikeL b c = alikeL a c := by unfold alikeL; rw [ek]
  have haa : alikeL a a = true := decide_eq_true rfl
  have hka : alikeL a (keyL a) = true := decide_eq_true (key_key a).symm
  have K1 := Lib.hid (fun w => by have := alike_p a b w ma mb; rwa [his] at this)
  have K2 := Lib.hid (fun w => by have := alike_p a a w ma ma; rwa [haa] at this)
  have K3 := Lib.hid (fun w => by have := alike_p b a w mb ma; rwa [hba] at this)
  have K4 := Lib.hid (fun w => by have := alike_p b c w mb mc; rwa [hbc] at this)
  have K5 := Lib.hid (fun w => alike_p a c w ma mc)
  have K7 := Lib.hid (fun w => by have := key_p b w mb; rwa [← ek] at this)
  have K6 := Lib.hid (fun w => key_p a w ma)
  have K8 := Lib.hid (fun w => by have := compare_p a b w ma mb; rwa [hcm] at this)
  have K9 := Lib.hid (fun w => by have := compare_p b a w mb ma; rwa [hcn] at this)
  have K10 := Lib.hid (fun w => by have := sets_p a w ma; rwa [show setsE a = 0 from if_neg (by omega), show setsL a = bothL a from if_neg (by omega)] at this)
  have K11 := Lib.hid (fun w => by have := alike_p a (keyL a) w ma mk; rwa [hka] at this)
  have HI := Lib.hid his
  have za := size_str a
  have zb := size_str b
  have zc := size_str c
  have ta1 : ¬ (100 : Int) < (a.length : Int) := by omega
  have tb1 : ¬ (100 : Int) < (b.length : Int) := by omega
  have tc1 : ¬ (100 : Int) < (c.length : Int) := by omega
  have ll := length_bothL a
  have LL := Lib.hid ll
  have HLE : a.length ≤ (bothL a).length ∧ (bothL a).length ≤ a.length := by omega
  have HLN : (((bothL a).length : Int) != (a.length : Int)) = false := by simp [ll]
  clear his hcm hcn hba haa hka ek ma mb mc mk ll
  generalize alikeL a c = tc at *
  clear hbc
  go_enter Try.func10, Try.ntmps10
  go_wp2_with fail
  refine (K1.out _).mono ?_
  rintro e w1 ⟨rfl, hb⟩
  have HB1 := Lib.hid hb
  clear hb
  go_wp2_with fail
  refine (K2.out _).mono ?_
  rintro e w2 ⟨rfl, hb⟩
  have HB2 := Lib.hid (next HB1.out hb)
  clear hb
  go_wp2_with fail
  refine (K3.out _).mono ?_
  rintro e w3 ⟨rfl, hb⟩
  have HB3 := Lib.hid (next HB2.out hb)
  clear hb
  go_wp2_with fail
  refine (K4.out _).mono ?_
  rintro e w4 ⟨rfl, hb⟩
  have HB4 := Lib.hid (next HB3.out hb)
  clear hb
  go_wp2_with fail
  refine (K5.out _).mono ?_
  rintro e w5 ⟨rfl, hb⟩
  have HB5 := Lib.hid (next HB4.out hb)
  clear hb
  go_wp2_with fail
  refine (K6.out _).mono ?_
  rintro e w6 ⟨rfl, hb⟩
  have HB6 := Lib.hid (next HB5.out hb)
  clear hb
  go_wp2_with fail
  refine (K7.out _).mono ?_
  rintro e w7 ⟨rfl, hb⟩
  have HB7 := Lib.hid (next HB6.out hb)
  clear hb
  go_wp2_with fail
  refine (K8.out _).mono ?_
  rintro e w8 ⟨rfl, hb⟩
  have HB8 := Lib.hid (next HB7.out hb)
  clear hb
  go_wp2_with fail
  refine (K8.out _).mono ?_
  rintro e w9 ⟨rfl, hb⟩
  have HB9 := Lib.hid (next HB8.out hb)
  clear hb
  go_wp2_with fail
  refine (K9.out _).mono ?_
  rintro e w10 ⟨rfl, hb⟩
  have HB10 := Lib.hid (next HB9.out hb)
  clear hb
  go_wp2_with fail
  refine (K10.out _).mono ?_
  rintro e ws ⟨v, rfl, hr, hb⟩
  have HR := Lib.hid (Row.of_owns hr)
  have HBS := Lib.hid (next HB10.out hb)
  clear hr hb
  obtain ⟨av, capv, hv⟩ : ∃ p cap, v = .slice p (bothL a).length cap := by obtain ⟨_, _, p, cap, e, _⟩ := HR.out; exact ⟨p, cap, e⟩
  subst hv
  have hE := inK_zero a b
  have hE1 : ((a.length : Int) == (b.length : Int)) = inK a b 0 := by rw [hE, Bool.eq_iff_iff, beq_iff_eq, decide_eq_true_iff]; omega
  have hE2 : decide ((a.length : Int) = (b.length : Int)) = inK a b 0 := by rw [hE, Bool.eq_iff_iff, decide_eq_true_iff, decide_eq_true_iff]; omega
  have hE3 : decide (a.length = b.length) = inK a b 0 := hE.symm
  clear hE
  go_wp2_with fail
  clear hE1 hE2 hE3
  go_loopw [10, 11] (fun ov iv wr => ∃ k : Nat, k ≤ b.length ∧ k ≤ a.length ∧ ov = .bool (inK a b k) ∧ iv = .int .i64 (k : Nat) ∧ Below ws.heap.size ws wr) (fun _ iv _ => b.length - (intOf iv).toNat)
  case atStart => exact ⟨0, by omega, by omega, rfl, rfl, Below.refl _ _⟩
  case round =>
    obtain ⟨k, hk1, hk2, rfl, rfl, hB⟩ := hrel
    by_cases hlt : k < b.length ∧ k < a.length
    · obtain ⟨hkb, hka⟩ := hlt
      have i1 : (0 : Int) ≤ (k : Int) := by omega
      have i2 : (k : Int) < (b.length : Int) := by omega
      have i3 : (k : Int) < ((bothL a).length : Int) := by have := LL.out; omega
      cases hin : inK a b k with
      | false =>
        have HX := Lib.hid (inK_no hin)
        clear hin
        go_wp2_with fail
        go_quiet (fail)
        go_wp2_with fail
        exact ⟨⟨k + 1, by omega, by omega, by rw [HX.out], by go_num, hB.trans ⟨rfl, rfl, rfl, Nat.le_refl _, fun _ _ => rfl⟩⟩, by simp [intOf]; omega⟩
      | true =>
        have HX := Lib.hid (inK_yes hka hkb hin)
        clear hin
        obtain ⟨ga, oa, ca, hva, hga, hca0, hca1, hca2, hca3⟩ := Row.setAt HR.out (k := k) (by have := LL.out; omega)
        cases hva
        have da0 := (hB.cell (p := ⟨ga, oa + k * 4, none⟩) hga).trans hca0
        have da1 := (hB.cell (p := ⟨ga, oa + k * 4 + 1, none⟩) hga).trans hca1
        have da2 := (hB.cell (p := ⟨ga, oa + k * 4 + 2, none⟩) hga).trans hca2
        have da3 := (hB.cell (p := ⟨ga, oa + k * 4 + 3, none⟩) hga).trans hca3
        have eb : (bothL a)[k]'(by have := LL.out; omega) = bothS a[k].toNat := by simp [bothL]
        rw [eb] at da0 da1 da2 da3
        have hsz : k < (str b).size := by rw [zb]; exact hkb
        have hby : (str b)[k] = b[k] := by simp [str]; rfl
        have hh : ∀ w, Calls Try.prog 43 #[setV (bothS a[k].toNat), .int .u8 (b[k].toNat : Int)] w fun e w' => e = .returned (.bool (inK a b (k + 1))) ∧ Below w.heap.size w w' := fun w => by rw [HX.out, ← hasB_both _ _ b[k].toNat_lt]; exact has_r _ _ b[k].toNat_lt w
        have HH := Lib.hid hh
        clear hh
        clear eb hca0 hca1 hca2 hca3
        go_wp2_with fail
        go_region_with (first | (go_at_call 43; refine (HH.out _).mono ?_; rintro e w2 ⟨rfl, hb2⟩; have HB2 := Lib.hid hb2; clear hb2))
        all_goals
          go_wp2_with fail
          exact ⟨⟨k + 1, by omega, by omega, rfl, by go_num, next hB (next ((Below.refl _ _).drew) HB2.out)⟩, by simp [intOf]; omega⟩
    · have he : inK a b k = alikeL a b := inK_end hlt
      rw [HI.out] at he
      rw [he]
      clear he
      have HL := Lib.hid hlt
      by_cases hkb : k < b.length
      · have i2 : (k : Int) < (b.length : Int) := by omega
        have i3 : ¬ (k : Int) < ((bothL a).length : Int) := by have := LL.out; have := HL.out; omega
        go_wp2_with fail
        refine (K6.out _).mono ?_
        rintro e v1 ⟨rfl, hb⟩
        have HV1 := Lib.hid (next hB hb)
        clear hb
        go_wp2_with fail
        refine (K11.out _).mono ?_
        rintro e v2 ⟨rfl, hb⟩
        have HV2 := Lib.hid (next HV1.out hb)
        clear hb
        go_wp2_with fail
        refine (shown_p _).mono ?_
        rintro e v3 ⟨rfl, hb⟩
        have HV3 := Lib.hid (next HBS.out (next HV2.out hb))
        clear hb
        go_wp2_with fail
        go_ret
        exact ⟨rfl, HV3.out⟩
      · have i2 : ¬ (k : Int) < (b.length : Int) := by omega
        go_wp2_with fail
        refine (K6.out _).mono ?_
        rintro e v1 ⟨rfl, hb⟩
        have HV1 := Lib.hid (next hB hb)
        clear hb
        go_wp2_with fail
        refine (K11.out _).mono ?_
        rintro e v2 ⟨rfl, hb⟩
        have HV2 := Lib.hid (next HV1.out hb)
        clear hb
        go_wp2_with fail
        refine (shown_p _).mono ?_
        rintro e v3 ⟨rfl, hb⟩
        have HV3 := Lib.hid (next HBS.out (next HV2.out hb))
        clear hb
        go_wp2_with fail
        go_ret
        exact ⟨rfl, HV3.out⟩

set_option maxRecDepth 100000 in
set_option maxHeartbeats 4000000 in
theorem walk_less (a b c : List UInt8) (ha : a.length ≤ 100) (hb : b.length ≤ 100) (hc : c.length ≤ 100) (w : World) (his : alikeL a b = false) (hcm : cmpB (keyL a) (keyL b) = -1) :
    Calls Try.prog 10 #[.string (str a), .string (str b), .string (str c)] w fun e w' => e = .returned (.bool true) ∧ Below w.heap.size w w' := by
  have ma : a.length ≤ maxLen := by unfold maxLen; omega
  have mb : b.length ≤ maxLen := by unfold maxLen; omega
  have mc : c.length ≤ maxLen := by unfold maxLen; omega
  have mk : (keyL a).length ≤ maxLen := by rw [length_keyL]; exact ma
  have ek : ¬ keyL a = keyL b := of_decide_eq_false his
  have hcn : cmpB (keyL b) (keyL a) = 1 := by rw [← compare_cmp, cmp_swap, compare_cmp, hcm] <;> rfl
  have hba : alikeL b a = false := decide_eq_false (fun e => ek e.symm)
  have haa : alikeL a a = true := decide_eq_true rfl
  have hka : alikeL a (keyL a) = true := decide_eq_true (key_key a).symm
  have K1 := Lib.hid (fun w => by have := alike_p a b w ma mb; rwa [his] at this)
  have K2 := Lib.hid (fun w => by have := alike_p a a w ma ma; rwa [haa] at this)
  have K3 := Lib.hid (fun w => by have := alike_p b a w mb ma; rwa [hba] at this)
  have K7 := Lib.hid (fun w => key_p b w mb)
  have s1 : decide (str (keyL a) = str (keyL b)) = false := decide_eq_false (fun e => ek (by have := congrArg (fun s : ByteArray => s.data.toList) e; simpa [toList_str] using this))
  have s2 : ((str (keyL a)).toList == (str (keyL b)).toList) = false := by rw [beq_eq_false_iff_ne]; intro e; apply ek; simpa [ByteArray.toList_eq, toList_str] using e
  have K6 := Lib.hid (fun w => key_p a w ma)
  have K8 := Lib.hid (fun w => by have := compare_p a b w ma mb; rwa [hcm] at this)
  have K9 := Lib.hid (fun w => by have := compare_p b a w mb ma; rwa [hcn] at this)
  have K10 := Lib.hid (fun w => by have := sets_p a w ma; rwa [show setsE a = 0 from if_neg (by omega), show setsL a = bothL a from if_neg (by omega)] at this)
  have K11 := Lib.hid (fun w => by have := alike_p a (keyL a) w ma mk; rwa [hka] at this)
  have HI := Lib.hid his
  have za := size_str a
  have zb := size_str b
  have zc := size_str c
  have ta1 : ¬ (100 : Int) < (a.length : Int) := by omega
  have tb1 : ¬ (100 : Int) < (b.length : Int) := by omega
  have tc1 : ¬ (100 : Int) < (c.length : Int) := by omega
  have ll := length_bothL a
  have LL := Lib.hid ll
  have HLE : a.length ≤ (bothL a).length ∧ (bothL a).length ≤ a.length := by omega
  have HLN : (((bothL a).length : Int) != (a.length : Int)) = false := by simp [ll]
  clear his hcm hcn hba haa hka ek ma mb mc mk ll
  go_enter Try.func10, Try.ntmps10
  go_wp2_with fail
  refine (K1.out _).mono ?_
  rintro e w1 ⟨rfl, hb⟩
  have HB1 := Lib.hid hb
  clear hb
  go_wp2_with fail
  refine (K2.out _).mono ?_
  rintro e w2 ⟨rfl, hb⟩
  have HB2 := Lib.hid (next HB1.out hb)
  clear hb
  go_wp2_with fail
  refine (K3.out _).mono ?_
  rintro e w3 ⟨rfl, hb⟩
  have HB3 := Lib.hid (next HB2.out hb)
  clear hb
  go_wp2_with fail
  refine (K6.out _).mono ?_
  rintro e w4 ⟨rfl, hb⟩
  have HB4 := Lib.hid (next HB3.out hb)
  clear hb
  go_wp2_with fail
  refine (K7.out _).mono ?_
  rintro e w5 ⟨rfl, hb⟩
  have HB5 := Lib.hid (next HB4.out hb)
  clear hb
  go_wp2_with fail
  refine (K8.out _).mono ?_
  rintro e w6 ⟨rfl, hb⟩
  have HB6 := Lib.hid (next HB5.out hb)
  clear hb
  go_wp2_with fail
  refine (K8.out _).mono ?_
  rintro e w7 ⟨rfl, hb⟩
  have HB7 := Lib.hid (next HB6.out hb)
  clear hb
  go_wp2_with fail
  refine (K9.out _).mono ?_
  rintro e w8 ⟨rfl, hb⟩
  have HB8 := Lib.hid (next HB7.out hb)
  clear hb
  go_wp2_with fail
  refine (K10.out _).mono ?_
  rintro e ws ⟨v, rfl, hr, hb⟩
  have HR := Lib.hid (Row.of_owns hr)
  have HBS := Lib.hid (next HB8.out hb)
  clear hr hb
  obtain ⟨av, capv, hv⟩ : ∃ p cap, v = .slice p (bothL a).length cap := by obtain ⟨_, _, p, cap, e, _⟩ := HR.out; exact ⟨p, cap, e⟩
  subst hv
  have hE := inK_zero a b
  have hE1 : ((a.length : Int) == (b.length : Int)) = inK a b 0 := by rw [hE, Bool.eq_iff_iff, beq_iff_eq, decide_eq_true_iff]; omega
  have hE2 : decide ((a.length : Int) = (b.length : Int)) = inK a b 0 := by rw [hE, Bool.eq_iff_iff, decide_eq_true_iff, decide_eq_true_iff]; omega
  have hE3 : decide (a.length = b.length) = inK a b 0 := hE.symm
  clear hE
  go_wp2_with fail
  clear hE1 hE2 hE3
  go_loopw [10, 11] (fun ov iv wr => ∃ k : Nat, k ≤ b.length ∧ k ≤ a.length ∧ ov = .bool (inK a b k) ∧ iv = .int .i64 (k : Nat) ∧ Below ws.heap.size ws wr) (fun _ iv _ => b.length - (intOf iv).toNat)
  case atStart => exact ⟨0, by omega, by omega, rfl, rfl, Below.refl _ _⟩
  case round =>
    obtain ⟨k, hk1, hk2, rfl, rfl, hB⟩ := hrel
    by_cases hlt : k < b.length ∧ k < a.length
    · obtain ⟨hkb, hka⟩ := hlt
      have i1 : (0 : Int) ≤ (k : Int) := by omega
      have i2 : (k : Int) < (b.length : Int) := by omega
      have i3 : (k : Int) < ((bothL a).length : Int) := by have := LL.out; omega
      cases hin : inK a b k with
      | false =>
        have HX := Lib.hid (inK_no hin)
        clear hin
        go_wp2_with fail
        go_quiet (fail)
        go_wp2_with fail
        exact ⟨⟨k + 1, by omega, by omega, by rw [HX.out], by go_num, hB.trans ⟨rfl, rfl, rfl, Nat.le_refl _, fun _ _ => rfl⟩⟩, by simp [intOf]; omega⟩
      | true =>
        have HX := Lib.hid (inK_yes hka hkb hin)
        clear hin
        obtain ⟨ga, oa, ca, hva, hga, hca0, hca1, hca2, hca3⟩ := Row.setAt HR.out (k := k) (by have := LL.out; omega)
        cases hva
        have da0 := (hB.cell (p := ⟨ga, oa + k * 4, none⟩) hga).trans hca0
        have da1 := (hB.cell (p := ⟨ga, oa + k * 4 + 1, none⟩) hga).trans hca1
        have da2 := (hB.cell (p := ⟨ga, oa + k * 4 + 2, none⟩) hga).trans hca2
        have da3 := (hB.cell (p := ⟨ga, oa + k * 4 + 3, none⟩) hga).trans hca3
        have eb : (bothL a)[k]'(by have := LL.out; omega) = bothS a[k].toNat := by simp [bothL]
        rw [eb] at da0 da1 da2 da3
        have hsz : k < (str b).size := by rw [zb]; exact hkb
        have hby : (str b)[k] = b[k] := by simp [str]; rfl
        have hh : ∀ w, Calls Try.prog 43 #[setV (bothS a[k].toNat), .int .u8 (b[k].toNat : Int)] w fun e w' => e = .returned (.bool (inK a b (k + 1))) ∧ Below w.heap.size w w' := fun w => by rw [HX.out, ← hasB_both _ _ b[k].toNat_lt]; exact has_r _ _ b[k].toNat_lt w
        have HH := Lib.hid hh
        clear hh
        clear eb hca0 hca1 hca2 hca3
        go_wp2_with fail
        go_region_with (first | (go_at_call 43; refine (HH.out _).mono ?_; rintro e w2 ⟨rfl, hb2⟩; have HB2 := Lib.hid hb2; clear hb2))
        all_goals
          go_wp2_with fail
          exact ⟨⟨k + 1, by omega, by omega, rfl, by go_num, next hB (next ((Below.refl _ _).drew) HB2.out)⟩, by simp [intOf]; omega⟩
    · have he : inK a b k = alikeL a b := inK_end hlt
      rw [HI.out] at he
      rw [he]
      clear he
      have HL := Lib.hid hlt
      by_cases hkb : k < b.length
      · have i2 : (k : Int) < (b.length : Int) := by omega
        have i3 : ¬ (k : Int) < ((bothL a).length : Int) := by have := LL.out; have := HL.out; omega
        go_wp2_with fail
        refine (K6.out _).mono ?_
        rintro e v1 ⟨rfl, hb⟩
        have HV1 := Lib.hid (next hB hb)
        clear hb
        go_wp2_with fail
        refine (K11.out _).mono ?_
        rintro e v2 ⟨rfl, hb⟩
        have HV2 := Lib.hid (next HV1.out hb)
        clear hb
        go_wp2_with fail
        refine (shown_p _).mono ?_
        rintro e v3 ⟨rfl, hb⟩
        have HV3 := Lib.hid (next HBS.out (next HV2.out hb))
        clear hb
        go_wp2_with fail
        go_ret
        exact ⟨rfl, HV3.out⟩
      · have i2 : ¬ (k : Int) < (b.length : Int) := by omega
        go_wp2_with fail
        refine (K6.out _).mono ?_
        rintro e v1 ⟨rfl, hb⟩
        have HV1 := Lib.hid (next hB hb)
        clear hb
        go_wp2_with fail
        refine (K11.out _).mono ?_
        rintro e v2 ⟨rfl, hb⟩
        have HV2 := Lib.hid (next HV1.out hb)
        clear hb
        go_wp2_with fail
        refine (shown_p _).mono ?_
        rintro e v3 ⟨rfl, hb⟩
        have HV3 := Lib.hid (next HBS.out (next HV2.out hb))
        clear hb
        go_wp2_with fail
        go_ret
        exact ⟨rfl, HV3.out⟩

set_option maxRecDepth 100000 in
set_option maxHeartbeats 4000000 in
theorem walk_more (a b c : List UInt8) (ha : a.length ≤ 100) (hb : b.length ≤ 100) (hc : c.length ≤ 100) (w : World) (his : alikeL a b = false) (hcm : cmpB (keyL a) (keyL b) = 1) :
    Calls Try.prog 10 #[.string (str a), .string (str b), .string (str c)] w fun e w' => e = .returned (.bool true) ∧ Below w.heap.size w w' := by
  have ma : a.length ≤ maxLen := by unfold maxLen; omega
  have mb : b.length ≤ maxLen := by unfold maxLen; omega
  have mc : c.length ≤ maxLen := by unfold maxLen; omega
  have mk : (keyL a).length ≤ maxLen := by rw [length_keyL]; exact ma
  have ek : ¬ keyL a = keyL b := of_decide_eq_false his
  have hcn : cmpB (keyL b) (keyL a) = -1 := by rw [← compare_cmp, cmp_swap, compare_cmp, hcm] <;> rfl
  have hba : alikeL b a = false := decide_eq_false (fun e => ek e.symm)
  have haa : alikeL a a = true := decide_eq_true rfl
  have hka : alikeL a (keyL a) = true := decide_eq_true (key_key a).symm
  have K1 := Lib.hid (fun w => by have := alike_p a b w ma mb; rwa [his] at this)
  have K2 := Lib.hid (fun w => by have := alike_p a a w ma ma; rwa [haa] at this)
  have K3 := Lib.hid (fun w => by have := alike_p b a w mb ma; rwa [hba] at this)
  have K7 := Lib.hid (fun w => key_p b w mb)
  have s1 : decide (str (keyL a) = str (keyL b)) = false := decide_eq_false (fun e => ek (by have := congrArg (fun s : ByteArray => s.data.toList) e; simpa [toList_str] using this))
  have s2 : ((str (keyL a)).toList == (str (keyL b)).toList) = false := by rw [beq_eq_false_iff_ne]; intro e; apply ek; simpa [ByteArray.toList_eq, toList_str] using e
  have K6 := Lib.hid (fun w => key_p a w ma)
  have K8 := Lib.hid (fun w => by have := compare_p a b w ma mb; rwa [hcm] at this)
  have K9 := Lib.hid (fun w => by have := compare_p b a w mb ma; rwa [hcn] at this)
  have K10 := Lib.hid (fun w => by have := sets_p a w ma; rwa [show setsE a = 0 from if_neg (by omega), show setsL a = bothL a from if_neg (by omega)] at this)
  have K11 := Lib.hid (fun w => by have := alike_p a (keyL a) w ma mk; rwa [hka] at this)
  have HI := Lib.hid his
  have za := size_str a
  have zb := size_str b
  have zc := size_str c
  have ta1 : ¬ (100 : Int) < (a.length : Int) := by omega
  have tb1 : ¬ (100 : Int) < (b.length : Int) := by omega
  have tc1 : ¬ (100 : Int) < (c.length : Int) := by omega
  have ll := length_bothL a
  have LL := Lib.hid ll
  have HLE : a.length ≤ (bothL a).length ∧ (bothL a).length ≤ a.length := by omega
  have HLN : (((bothL a).length : Int) != (a.length : Int)) = false := by simp [ll]
  clear his hcm hcn hba haa hka ek ma mb mc mk ll
  go_enter Try.func10, Try.ntmps10
  go_wp2_with fail
  refine (K1.out _).mono ?_
  rintro e w1 ⟨rfl, hb⟩
  have HB1 := Lib.hid hb
  clear hb
  go_wp2_with fail
  refine (K2.out _).mono ?_
  rintro e w2 ⟨rfl, hb⟩
  have HB2 := Lib.hid (next HB1.out hb)
  clear hb
  go_wp2_with fail
  refine (K3.out _).mono ?_
  rintro e w3 ⟨rfl, hb⟩
  have HB3 := Lib.hid (next HB2.out hb)
  clear hb
  go_wp2_with fail
  refine (K6.out _).mono ?_
  rintro e w4 ⟨rfl, hb⟩
  have HB4 := Lib.hid (next HB3.out hb)
  clear hb
  go_wp2_with fail
  refine (K7.out _).mono ?_
  rintro e w5 ⟨rfl, hb⟩
  have HB5 := Lib.hid (next HB4.out hb)
  clear hb
  go_wp2_with fail
  refine (K8.out _).mono ?_
  rintro e w6 ⟨rfl, hb⟩
  have HB6 := Lib.hid (next HB5.out hb)
  clear hb
  go_wp2_with fail
  refine (K8.out _).mono ?_
  rintro e w7 ⟨rfl, hb⟩
  have HB7 := Lib.hid (next HB6.out hb)
  clear hb
  go_wp2_with fail
  refine (K9.out _).mono ?_
  rintro e w8 ⟨rfl, hb⟩
  have HB8 := Lib.hid (next HB7.out hb)
  clear hb
  go_wp2_with fail
  refine (K10.out _).mono ?_
  rintro e ws ⟨v, rfl, hr, hb⟩
  have HR := Lib.hid (Row.of_owns hr)
  have HBS := Lib.hid (next HB8.out hb)
  clear hr hb
  obtain ⟨av, capv, hv⟩ : ∃ p cap, v = .slice p (bothL a).length cap := by obtain ⟨_, _, p, cap, e, _⟩ := HR.out; exact ⟨p, cap, e⟩
  subst hv
  have hE := inK_zero a b
  have hE1 : ((a.length : Int) == (b.length : Int)) = inK a b 0 := by rw [hE, Bool.eq_iff_iff, beq_iff_eq, decide_eq_true_iff]; omega
  have hE2 : decide ((a.length : Int) = (b.length : Int)) = inK a b 0 := by rw [hE, Bool.eq_iff_iff, decide_eq_true_iff, decide_eq_true_iff]; omega
  have hE3 : decide (a.length = b.length) = inK a b 0 := hE.symm
  clear hE
  go_wp2_with fail
  clear hE1 hE2 hE3
  go_loopw [10, 11] (fun ov iv wr => ∃ k : Nat, k ≤ b.length ∧ k ≤ a.length ∧ ov = .bool (inK a b k) ∧ iv = .int .i64 (k : Nat) ∧ Below ws.heap.size ws wr) (fun _ iv _ => b.length - (intOf iv).toNat)
  case atStart => exact ⟨0, by omega, by omega, rfl, rfl, Below.refl _ _⟩
  case round =>
    obtain ⟨k, hk1, hk2, rfl, rfl, hB⟩ := hrel
    by_cases hlt : k < b.length ∧ k < a.length
    · obtain ⟨hkb, hka⟩ := hlt
      have i1 : (0 : Int) ≤ (k : Int) := by omega
      have i2 : (k : Int) < (b.length : Int) := by omega
      have i3 : (k : Int) < ((bothL a).length : Int) := by have := LL.out; omega
      cases hin : inK a b k with
      | false =>
        have HX := Lib.hid (inK_no hin)
        clear hin
        go_wp2_with fail
        go_quiet (fail)
        go_wp2_with fail
        exact ⟨⟨k + 1, by omega, by omega, by rw [HX.out], by go_num, hB.trans ⟨rfl, rfl, rfl, Nat.le_refl _, fun _ _ => rfl⟩⟩, by simp [intOf]; omega⟩
      | true =>
        have HX := Lib.hid (inK_yes hka hkb hin)
        clear hin
        obtain ⟨ga, oa, ca, hva, hga, hca0, hca1, hca2, hca3⟩ := Row.setAt HR.out (k := k) (by have := LL.out; omega)
        cases hva
        have da0 := (hB.cell (p := ⟨ga, oa + k * 4, none⟩) hga).trans hca0
        have da1 := (hB.cell (p := ⟨ga, oa + k * 4 + 1, none⟩) hga).trans hca1
        have da2 := (hB.cell (p := ⟨ga, oa + k * 4 + 2, none⟩) hga).trans hca2
        have da3 := (hB.cell (p := ⟨ga, oa + k * 4 + 3, none⟩) hga).trans hca3
        have eb : (bothL a)[k]'(by have := LL.out; omega) = bothS a[k].toNat := by simp [bothL]
        rw [eb] at da0 da1 da2 da3
        have hsz : k < (str b).size := by rw [zb]; exact hkb
        have hby : (str b)[k] = b[k] := by simp [str]; rfl
        have hh : ∀ w, Calls Try.prog 43 #[setV (bothS a[k].toNat), .int .u8 (b[k].toNat : Int)] w fun e w' => e = .returned (.bool (inK a b (k + 1))) ∧ Below w.heap.size w w' := fun w => by rw [HX.out, ← hasB_both _ _ b[k].toNat_lt]; exact has_r _ _ b[k].toNat_lt w
        have HH := Lib.hid hh
        clear hh
        clear eb hca0 hca1 hca2 hca3
        go_wp2_with fail
        go_region_with (first | (go_at_call 43; refine (HH.out _).mono ?_; rintro e w2 ⟨rfl, hb2⟩; have HB2 := Lib.hid hb2; clear hb2))
        all_goals
          go_wp2_with fail
          exact ⟨⟨k + 1, by omega, by omega, rfl, by go_num, next hB (next ((Below.refl _ _).drew) HB2.out)⟩, by simp [intOf]; omega⟩
    · have he : inK a b k = alikeL a b := inK_end hlt
      rw [HI.out] at he
      rw [he]
      clear he
      have HL := Lib.hid hlt
      by_cases hkb : k < b.length
      · have i2 : (k : Int) < (b.length : Int) := by omega
        have i3 : ¬ (k : Int) < ((bothL a).length : Int) := by have := LL.out; have := HL.out; omega
        go_wp2_with fail
        refine (K6.out _).mono ?_
        rintro e v1 ⟨rfl, hb⟩
        have HV1 := Lib.hid (next hB hb)
        clear hb
        go_wp2_with fail
        refine (K11.out _).mono ?_
        rintro e v2 ⟨rfl, hb⟩
        have HV2 := Lib.hid (next HV1.out hb)
        clear hb
        go_wp2_with fail
        refine (shown_p _).mono ?_
        rintro e v3 ⟨rfl, hb⟩
        have HV3 := Lib.hid (next HBS.out (next HV2.out hb))
        clear hb
        go_wp2_with fail
        go_ret
        exact ⟨rfl, HV3.out⟩
      · have i2 : ¬ (k : Int) < (b.length : Int) := by omega
        go_wp2_with fail
        refine (K6.out _).mono ?_
        rintro e v1 ⟨rfl, hb⟩
        have HV1 := Lib.hid (next hB hb)
        clear hb
        go_wp2_with fail
        refine (K11.out _).mono ?_
        rintro e v2 ⟨rfl, hb⟩
        have HV2 := Lib.hid (next HV1.out hb)
        clear hb
        go_wp2_with fail
        refine (shown_p _).mono ?_
        rintro e v3 ⟨rfl, hb⟩
        have HV3 := Lib.hid (next HBS.out (next HV2.out hb))
        clear hb
        go_wp2_with fail
        go_ret
        exact ⟨rfl, HV3.out⟩

theorem walk (a b c : ByteArray) (w : World) (ha : a.size ≤ maxLen) (hb : b.size ≤ maxLen) (hc : c.size ≤ maxLen) :
    Calls Try.prog 10 #[.string a, .string b, .string c] w fun e w' => e = .returned (.bool true) ∧ Below w.heap.size w w' := by
  obtain ⟨a, rfl⟩ : ∃ l, a = str l := ⟨_, (str_data a).symm⟩
  obtain ⟨b, rfl⟩ : ∃ l, b = str l := ⟨_, (str_data b).symm⟩
  obtain ⟨c, rfl⟩ : ∃ l, c = str l := ⟨_, (str_data c).symm⟩
  rw [size_str] at ha hb hc
  by_cases h : 100 < a.length ∨ 100 < b.length ∨ 100 < c.length
  · exact walk_long a b c ha hb hc w h
  · cases his : alikeL a b with
    | true => exact walk_yes a b c (by omega) (by omega) (by omega) w his
    | false =>
      rcases cmp_three (keyL a) (keyL b) with hm | hm | hm
      · exact walk_less a b c (by omega) (by omega) (by omega) w his hm
      · have := (cmp_zero (keyL a) (keyL b)).1 (by rw [compare_cmp]; exact hm)
        exact absurd (show alikeL a b = true from decide_eq_true this) (by rw [his]; simp)
      · exact walk_more a b c (by omega) (by omega) (by omega) w his hm

theorem own : ownKnob Try.prog.godebug = none := by kernel_rfl
theorem laidOut : laidOutB Try.prog = true := by kernel_rfl

set_option maxRecDepth 100000 in
theorem lifted (os : Os) (started : os.Started) (H : Type) (enc : TypeId × Value → H) :
    ReturnsInHanded {} Try.checked os 10 .any (Rows.foldAlikeSpec.pre6 enc Try.prog Try.f10 Rows.foldAlikeRow.domain false) (Rows.foldAlikeSpec.post enc Try.prog Try.f10 false true false false) := by
  refine returnsInHanded_of_change (C := Try.checked) own started (by kernel_rfl) Try.func10
    (ChangeSpec.witness6 (enc := enc) (C := Try.checked) false ⟨#[], #[.string .empty, .string .empty, .string .empty], []⟩ 8 (by kernel_rfl) (by kernel_rfl) (by kernel_rfl) (by kernel_rfl)) ?_
  intro W base args ds gs before hval0 hW hcnd _
  have hval : ∀ (j : Nat) t v, Try.f10.params[j]? = some t → args[j]? = some v → Value.okWide Try.prog W .any base t v := hval0
  have hW' := hW
  obtain ⟨p, q, hA0, hV, rfl, hfz, hnd⟩ := hW
  have hA : DataW.TrodAll enc Try.prog W 0 (fun _ => true) true Try.f10.params.toList args.toList ds p := hA0
  rw [Try.params10] at hA hval
  obtain ⟨v0, vs0, d0, ds0, p0, q0, hargs, rfl, rfl, k0, r0⟩ := trodAll_cons hA
  obtain ⟨v1, vs1, d1, ds1, p1, q1, rfl, rfl, rfl, k1, r1⟩ := trodAll_cons r0
  obtain ⟨v2, vs2, d2, ds2, p2, q2, rfl, rfl, rfl, k2, r2⟩ := trodAll_cons r1
  obtain ⟨rfl, rfl, rfl⟩ := trodAll_nil r2
  obtain rfl : args = #[v0, v1, v2] := by cases args; simp_all
  obtain ⟨rfl, rfl⟩ := trodVars_none hV
  have lt0 : ∀ x ∈ p0, x.block < W.heap.size := by obtain ⟨m, hm⟩ := k0; exact DataW.trod_lt m _ _ _ hm
  have lt1 : ∀ x ∈ p1, x.block < W.heap.size := by obtain ⟨m, hm⟩ := k1; exact DataW.trod_lt m _ _ _ hm
  have lt2 : ∀ x ∈ p2, x.block < W.heap.size := by obtain ⟨m, hm⟩ := k2; exact DataW.trod_lt m _ _ _ hm
  obtain ⟨s0, rfl, m0⟩ := arg_string Try.underlying9 (hval 0 9 v0 rfl rfl)
  obtain ⟨s1, rfl, m1⟩ := arg_string Try.underlying9 (hval 1 9 v1 rfl rfl)
  obtain ⟨s2, rfl, m2⟩ := arg_string Try.underlying9 (hval 2 9 v2 rfl rfl)
  clear hA0 hval0
  refine (walk s0 s1 s2 W m0 m1 m2).mono fun e W' ⟨he, bel⟩ => ?_
  subst he
  exact ⟨_, rfl, _, _, _, [], _, [], hW', trodAll_mk1 (shut_bool Try.underlying4 _), (trodAll_cons_mk (Below.trod laidOut (by kernel_rfl) (of_decide_eq_true (by kernel_rfl)) k0 bel lt0) (trodAll_cons_mk (Below.trod laidOut (by kernel_rfl) (of_decide_eq_true (by kernel_rfl)) k1 bel lt1) (trodAll_cons_mk (Below.trod laidOut (by kernel_rfl) (of_decide_eq_true (by kernel_rfl)) k2 bel lt2) trodAll_mk0))), rfl, bel.frame _, fun h => by cases h⟩

theorem over : Rows.foldAlikeRow.holds Try.pinned (OpenSpec.ofChange Rows.foldAlikeSpec) :=
  OpenClaim.holds_of_wide 10 Try.f10 rfl rfl rfl rfl rfl rfl rfl ⟨rfl, rfl, rfl, rfl, rfl⟩ rfl rfl rfl rfl rfl (by kernel_rfl) Try.func10 (by kernel_rfl)
    (of_decide_eq_true (by kernel_rfl)) (by unfold Func.isWrapper; first | (rw [if_pos (by decide +kernel)]; kernel_rfl) | (rw [if_neg (by decide +kernel)]; exact ⟨rfl, rfl⟩))
    (fun os started H enc _ => lifted os started H enc)

theorem proved : Rows.FoldAlikeSaid := over
#print axioms proved
end Go.Proofs.Ytfgfjapjpiilfaa.foldAlike
