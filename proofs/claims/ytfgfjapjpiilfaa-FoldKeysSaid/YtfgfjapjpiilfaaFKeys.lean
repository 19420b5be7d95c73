/- FoldKeys: the law returns true: Key of Key is Key, keys one after the other are the key of both, Find is the first one of All, and where a string is found the text is alike to it. No conditions. -/
import Derived.Test.YtfgfjapjpiilfaaArgs
import Derived.Test.YtfgfjapjpiilfaaFoldH
import Derived.Lib.QuietBelow
import Derived.BigQuiet
import Derived.Deep.QuietTactic
namespace Go.Proofs.Ytfgfjapjpiilfaa.foldKeys
open Go.ChangeShapes Go.WideShapes Go.ChangeAt Go.RowKit

theorem low_low : ∀ n : Fin 256, lowN (lowN n.val) = lowN n.val := by decide +kernel
theorem low8_low8 (x : UInt8) : low8 (low8 x) = low8 x := by
  apply UInt8.toNat_inj.1
  rw [low8_num, low8_num]
  exact low_low ⟨x.toNat, x.toNat_lt⟩
theorem key_key (a : List UInt8) : keyL (keyL a) = keyL a := by
  unfold keyL; rw [List.map_map]; apply List.map_congr_left; intro x _; exact low8_low8 x
theorem key_append (a b : List UInt8) : keyL (a ++ b) = keyL a ++ keyL b := by simp [keyL]
theorem allTo_sorted (text s : List UInt8) (k : Nat) : (allTo text s k).Pairwise (· < ·) := List.Pairwise.filter _ List.pairwise_lt_range
theorem allTo_at {text s : List UInt8} {k i : Nat} (h : i ∈ allTo text s k) : at4 text s i = true := by
  simp [allTo] at h; exact h.2
theorem allTo_in {text s : List UInt8} {k i : Nat} (h : i < k) (e : at4 text s i = true) : i ∈ allTo text s k := by
  simp [allTo]; exact ⟨h, e⟩
theorem head_le : ∀ {l : List Nat} (_ : l.Pairwise (· < ·)) {m : Nat} (_ : m ∈ l), l.headD 0 ≤ m ∧ l.length ≠ 0
  | [], _, m, h => by cases h
  | x :: l, hp, m, h => by
    refine ⟨?_, by simp⟩
    rw [List.headD_cons]
    rcases List.mem_cons.1 h with rfl | h
    · exact Nat.le_refl _
    · exact Nat.le_of_lt ((List.pairwise_cons.1 hp).1 m h)
theorem found (a b text : List UInt8) : at4 (a ++ (b ++ text)) (keyL b) a.length = true := by
  unfold at4 alikeL
  rw [decide_eq_true_iff, List.drop_left, length_keyL, List.take_left, key_key]
theorem not_far {text s : List UInt8} (h1 : text.length ≤ 4096) (h2 : s.length ≤ 512) : far text s = false := by
  unfold far; simp; omega

set_option maxRecDepth 100000 in
set_option maxHeartbeats 2000000 in
theorem walk_long (a b c : List UInt8) (ha : a.length ≤ maxLen) (hb : b.length ≤ maxLen) (hc : c.length ≤ maxLen) (w : World) (h : 100 < a.length ∨ 100 < b.length ∨ 100 < c.length) :
    Calls Try.prog 4 #[.string (str a), .string (str b), .string (str c)] w fun e w' => e = .returned (.bool true) ∧ Below w.heap.size w w' := by
  have za := size_str a
  have zb := size_str b
  have zc := size_str c
  have h2 : 100 < a.length ∨ (a.length ≤ 100 ∧ 100 < b.length) ∨ (a.length ≤ 100 ∧ b.length ≤ 100 ∧ 100 < c.length) := by omega
  clear h
  rcases h2 with h1 | ⟨h1, h2⟩ | ⟨h1, h2, h3⟩
  · have ta1 : (100 : Int) < (a.length : Int) := by omega
    unfold maxLen at ha hb hc
    go_enter Try.func4, Try.ntmps4
    go_wp2_with (go_at_call 11; refine (shown_p _).mono ?_; rintro e w3 ⟨rfl, hb3⟩; have HB3 := Lib.hid hb3; clear hb3)
    go_ret
    exact ⟨rfl, HB3.out⟩
  · have ta1 : ¬ (100 : Int) < (a.length : Int) := by omega
    have tb1 : (100 : Int) < (b.length : Int) := by omega
    unfold maxLen at ha hb hc
    go_enter Try.func4, Try.ntmps4
    go_wp2_with (go_at_call 11; refine (shown_p _).mono ?_; rintro e w3 ⟨rfl, hb3⟩; have HB3 := Lib.hid hb3; clear hb3)
    go_ret
    exact ⟨rfl, HB3.out⟩
  · have ta1 : ¬ (100 : Int) < (a.length : Int) := by omega
    have tb1 : ¬ (100 : Int) < (b.length : Int) := by omega
    have tc1 : (100 : Int) < (c.length : Int) := by omega
    unfold maxLen at ha hb hc
    go_enter Try.func4, Try.ntmps4
    go_wp2_with (go_at_call 11; refine (shown_p _).mono ?_; rintro e w3 ⟨rfl, hb3⟩; have HB3 := Lib.hid hb3; clear hb3)
    go_ret
    exact ⟨rfl, HB3.out⟩

set_option maxRecDepth 100000 in
set_option maxHeartbeats 4000000 in
theorem walk_main (a b t : List UInt8) (ha : a.length ≤ 100) (hb : b.length ≤ 100) (hc : t.length ≤ 100) (w : World) :
    Calls Try.prog 4 #[.string (str a), .string (str b), .string (str t)] w fun e w' => e = .returned (.bool true) ∧ Below w.heap.size w w' := by
  have ma : a.length ≤ maxLen := by unfold maxLen; omega
  have mb : b.length ≤ maxLen := by unfold maxLen; omega
  have mab : (a ++ b).length ≤ maxLen := by unfold maxLen; simp; omega
  have mat : (a ++ t).length ≤ maxLen := by unfold maxLen; simp; omega
  have mabt : (a ++ (b ++ t)).length ≤ maxLen := by unfold maxLen; simp; omega
  have mka : (keyL a).length ≤ maxLen := by rw [length_keyL]; exact ma
  have mkb : (keyL b).length ≤ maxLen := by rw [length_keyL]; exact mb
  have f1 := not_far (text := a ++ t) (s := b) (by simp; omega) (by omega)
  have f2 := not_far (text := a ++ (b ++ t)) (s := keyL b) (by simp; omega) (by rw [length_keyL]; omega)
  have eE : allE (a ++ t) b = 0 := by unfold allE; rw [if_neg (by rw [f1]; simp)]
  have eL : allL (a ++ t) b = allTo (a ++ t) b ((a ++ t).length + 1 - b.length) := by unfold allL; rw [if_neg (by rw [f1]; simp)]
  have eF : findE (a ++ t) b = if (allL (a ++ t) b).length = 0 then 4 else 0 := by unfold findE; rw [if_neg (by rw [f1]; simp)]
  have eL2 : allL (a ++ (b ++ t)) (keyL b) = allTo (a ++ (b ++ t)) (keyL b) ((a ++ (b ++ t)).length + 1 - (keyL b).length) := by unfold allL; rw [if_neg (by rw [f2]; simp)]
  have hin : a.length ∈ allL (a ++ (b ++ t)) (keyL b) := by rw [eL2]; exact allTo_in (by rw [length_keyL]; simp; omega) (found a b t)
  obtain ⟨g1, g2⟩ := head_le (by rw [eL2]; exact allTo_sorted _ _ _) hin
  have eF2 : findE (a ++ (b ++ t)) (keyL b) = 0 := by unfold findE; rw [if_neg (by rw [f2]; simp), if_neg g2]
  have hs := allTo_sorted (a ++ t) b ((a ++ t).length + 1 - b.length)
  have hlen : (allTo (a ++ t) b ((a ++ t).length + 1 - b.length)).length ≤ 300 := by
    unfold allTo
    refine Nat.le_trans (List.length_filter_le _ _) ?_
    simp; omega
  have hmem : ∀ i, i ∈ allTo (a ++ t) b ((a ++ t).length + 1 - b.length) → i + b.length ≤ a.length + t.length ∧ at4 (a ++ t) b i = true := fun i hi => ⟨by have := allTo_mem hi; simp at this; omega, allTo_at hi⟩
  have K1 := Lib.hid (fun w => key_p a w ma)
  have K2 := Lib.hid (fun w => by have := key_p (keyL a) w mka; rwa [key_key] at this)
  have K3 := Lib.hid (fun w => by have := key_p (a ++ b) w mab; rwa [key_append] at this)
  have K4 := Lib.hid (fun w => key_p b w mb)
  have K5 := Lib.hid (fun w => by have := allP (a ++ t) b w mat mb; rwa [eE, eL] at this)
  have K6 := Lib.hid (fun w => by have := find_p (a ++ t) b w mat mb; rwa [eF, show findI (a ++ t) b = (allTo (a ++ t) b ((a ++ t).length + 1 - b.length)).headD 0 by unfold findI; rw [eL], eL] at this)
  have K7 := Lib.hid (fun w => by have := find_p (a ++ (b ++ t)) (keyL b) w mabt mkb; rwa [eF2] at this)
  have G1 : ((findI (a ++ (b ++ t)) (keyL b) : Nat) : Int) ≤ (a.length : Int) := by unfold findI; omega
  have z1 := size_str a
  have z2 := size_str b
  have z3 := size_str t
  have z4 := size_str (keyL a)
  rw [length_keyL] at z4
  have z5 := size_str (keyL b)
  rw [length_keyL] at z5
  have z6 := size_str (a ++ b)
  rw [List.length_append] at z6
  have p1 := str_append a b
  have p2 := str_append (keyL a) (keyL b)
  have p3 := str_append a t
  have p4 := str_append (a ++ b) t
  rw [List.append_assoc] at p4
  have hal := fun i (h : at4 (a ++ t) b i = true) w => by have := alike_p (((a ++ t).drop i).take b.length) b w (by unfold maxLen; simp; omega) mb; rwa [show alikeL (((a ++ t).drop i).take b.length) b = true from h] at this
  have HAL := Lib.hid hal
  have HS := Lib.hid hs
  have HM := Lib.hid hmem
  have HP := Lib.hid (fun i => piece (a ++ t) i b.length)
  generalize allTo (a ++ t) b ((a ++ t).length + 1 - b.length) = L at *
  generalize findI (a ++ (b ++ t)) (keyL b) = x at *
  clear ma mb mab mat mabt mka mkb f1 f2 eE eL eF eL2 hin g1 g2 eF2 hs hmem hal
  have tz1 : ¬ (100 : Int) < (a.length : Int) := by omega
  have tz2 : ¬ (100 : Int) < (b.length : Int) := by omega
  have tz3 : ¬ (100 : Int) < (t.length : Int) := by omega
  go_enter Try.func4, Try.ntmps4
  go_wp2_with fail
  refine (K1.out _).mono ?_
  rintro e w1 ⟨rfl, hb1⟩
  have HB1 := Lib.hid hb1
  clear hb1
  go_wp2_with fail
  refine (K2.out _).mono ?_
  rintro e w2 ⟨rfl, hb1⟩
  have HB2 := Lib.hid (next HB1.out hb1)
  clear hb1
  go_wp2_with fail
  refine (K3.out _).mono ?_
  rintro e w3 ⟨rfl, hb1⟩
  have HB3 := Lib.hid (next HB2.out hb1)
  clear hb1
  go_wp2_with fail
  refine (K4.out _).mono ?_
  rintro e w4 ⟨rfl, hb1⟩
  have HB4 := Lib.hid (next HB3.out hb1)
  clear hb1
  go_wp2_with fail
  refine (K5.out _).mono ?_
  rintro e w5 ⟨v, rfl, hr, hb1⟩
  have HB5 := Lib.hid (next HB4.out hb1)
  have HR5 := Lib.hid (Row.of_owns hr)
  clear hb1 hr
  go_wp2_with fail
  refine (K6.out _).mono ?_
  rintro e w6 ⟨rfl, hb1⟩
  have HB6 := Lib.hid (next HB5.out hb1)
  have HR6 := Lib.hid (HR5.out.below hb1)
  clear hb1
  obtain ⟨av, capv, hv⟩ : ∃ p cap, v = .slice p L.length cap := by obtain ⟨_, _, p, cap, e, _⟩ := HR6.out; exact ⟨p, cap, e⟩
  subst hv
  have z7 := size_str (a ++ t)
  rw [List.length_append] at z7
  by_cases hL : L.length = 0
  · rw [if_pos hL]
    obtain rfl := List.eq_nil_of_length_eq_zero hL
    clear hL
    simp only [List.length_nil, List.headD_nil] at *
    go_wp2_with fail
    go_loopw [12] (fun iv wr => ∃ k : Nat, k ≤ 0 ∧ iv = .int .i64 (k : Nat) ∧ Below w6.heap.size w6 wr) (fun iv _ => 0 - (intOf iv).toNat)
    case atStart => exact ⟨0, by omega, rfl, Below.refl _ _⟩
    case round =>
      obtain ⟨k, hk, rfl, hB⟩ := hrel
      have hlt : ¬ k < 0 := by omega
      have HK := Lib.hid (show 0 ≤ k by omega)
      have l9 : ¬ (k : Int) < 0 := by omega
      clear hlt
      go_wp2_with fail
      refine (K4.out _).mono ?_
      rintro e w7 ⟨rfl, hb1⟩
      have HB7 := Lib.hid (next HB6.out (next hB hb1))
      clear hb1
      go_wp2_with fail
      refine (K7.out _).mono ?_
      rintro e w8 ⟨rfl, hb1⟩
      have HB8 := Lib.hid (next HB7.out hb1)
      clear hb1
      go_wp2_with fail
      refine (shown_p _).mono ?_
      rintro e w9 ⟨rfl, hb1⟩
      have HB9 := Lib.hid (next HB8.out hb1)
      clear hb1
      go_wp2_with fail
      go_ret
      exact ⟨rfl, HB9.out⟩
  · rw [if_neg hL]
    have l0 : (0 : Int) < (L.length : Int) := by omega
    have l1 : 0 < L.length := by omega
    obtain ⟨g, o, cap, hv, hg, hc0⟩ := Row.intAt HR6.out (k := 0) l1
    cases hv
    have hh : L.headD 0 = L[0] := by cases L with | nil => simp at l1 | cons => rfl
    rw [hh]
    clear hh hL
    rw [Nat.add_zero] at hc0
    go_wp2_with fail
    clear hc0
    go_loopw [12] (fun iv wr => ∃ k : Nat, k ≤ L.length ∧ iv = .int .i64 (k : Nat) ∧ Below w6.heap.size w6 wr) (fun iv _ => L.length - (intOf iv).toNat)
    case atStart => exact ⟨0, by omega, rfl, Below.refl _ _⟩
    case round =>
      obtain ⟨k, hk, rfl, hB⟩ := hrel
      by_cases hlt : k < L.length
      · obtain ⟨g', o', cap', hv', hg', hck⟩ := Row.intAt HR6.out hlt
        cases hv'
        obtain ⟨hm1, hm2⟩ := HM.out L[k] (List.getElem_mem hlt)
        have hA := HAL.out _ hm2
        have hP := HP.out L[k]
        have HA := Lib.hid hA
        clear hA hm2
        have ck := (hB.cell (p := ⟨g, o + k, none⟩) hg).trans hck
        have i0 : (0 : Int) ≤ (k : Int) := by omega
        have i1 : (k : Int) < (L.length : Int) := by omega
        clear hck
        have j1 : (0 : Int) ≤ (L[k] : Int) := by omega
        by_cases hk0 : k = 0
        · generalize L[k] = m at *
          have d5 : decide ((0 : Int) < (k : Int)) = false := by simp; omega
          have d6 : decide (0 < k) = false := by simp; omega
          have d7 : ¬ 0 < k := by omega
          clear hk0
          have d1 : decide ((m : Int) < 0) = false := by simp
          have d2 : decide ((a.length : Int) + (t.length : Int) < (m : Int) + (b.length : Int)) = false := by simp; omega
          have j2 : (m : Int) + (b.length : Int) ≤ (a.length : Int) + (t.length : Int) := by omega
          have j3 : (m : Int) ≤ (m : Int) + (b.length : Int) := by omega
          have j4 : ((m : Int) + (b.length : Int)).toNat = m + b.length := by omega
          have r1 : IntKind.i64.wrap ((m : Int) + (b.length : Int)) = (m : Int) + (b.length : Int) := IntWalk.i64_in _ (by omega)
          have r2 : IntKind.i64.wrap ((a.length : Int) + (t.length : Int)) = (a.length : Int) + (t.length : Int) := IntWalk.i64_in _ (by omega)
          go_wp2_with fail
          have gk := fun d os => cell_regrown ck d os
          refine wp_region_quiet_below (by kernel_rfl) (by kernel_rfl) ?_
          repeat (go_big_quiet_step ((go_at_call 18; exact Calls.regrown_of (HA.out _))))
          refine wpQuiet_nil ?_
          intro _ hw'
          obtain ⟨⟨dq, osq⟩, hw''⟩ := hw'
          subst hw''
          clear r1 r2 j4 gk
          all_goals
            go_wp2_with fail
            exact ⟨⟨k + 1, by omega, by go_num, next hB (below_regrown _ _ _)⟩, by simp [intOf]; omega⟩
        · obtain ⟨j, hj⟩ : ∃ j, j = k - 1 := ⟨_, rfl⟩
          have hlj : j < L.length := by omega
          have hsj : L[j] < L[k] := List.pairwise_iff_getElem.1 HS.out j k hlj hlt (by omega)
          obtain ⟨g', o', cap', hv', hg', hcj⟩ := Row.intAt HR6.out hlj
          cases hv'
          have cj := (hB.cell (p := ⟨g, o + j, none⟩) hg).trans hcj
          clear hcj
          generalize L[k] = m at *
          generalize L[j] = m' at *
          have d1 : decide ((m : Int) < 0) = false := by simp
          have d2 : decide ((a.length : Int) + (t.length : Int) < (m : Int) + (b.length : Int)) = false := by simp; omega
          have d3 : decide (m ≤ m') = false := by simp; omega
          have d4 : decide ((m : Int) ≤ (m' : Int)) = false := by simp; omega
          have d5 : decide ((0 : Int) < (k : Int)) = true := by simp; omega
          have d6 : decide (0 < k) = true := by simp; omega
          have d7 : 0 < k := by omega
          have j2 : (m : Int) + (b.length : Int) ≤ (a.length : Int) + (t.length : Int) := by omega
          have j3 : (m : Int) ≤ (m : Int) + (b.length : Int) := by omega
          have j4 : ((m : Int) + (b.length : Int)).toNat = m + b.length := by omega
          have j5 : (0 : Int) ≤ (k : Int) - 1 := by omega
          have j5b : (1 : Int) ≤ (k : Int) := by omega
          have j6 : (k : Int) - 1 < (L.length : Int) := by omega
          have j7 : ((k : Int) - 1).toNat = j := by omega
          have r1 : IntKind.i64.wrap ((m : Int) + (b.length : Int)) = (m : Int) + (b.length : Int) := IntWalk.i64_in _ (by omega)
          have r2 : IntKind.i64.wrap ((a.length : Int) + (t.length : Int)) = (a.length : Int) + (t.length : Int) := IntWalk.i64_in _ (by omega)
          have r3 : IntKind.i64.wrap ((k : Int) - 1) = (k : Int) - 1 := IntWalk.i64_in _ (by omega)
          clear hj hk0
          go_wp2_with fail
          have gk := fun d os => cell_regrown ck d os
          have gj := fun d os => cell_regrown cj d os
          refine wp_region_quiet_below (by kernel_rfl) (by kernel_rfl) ?_
          repeat (go_big_quiet_step ((go_at_call 18; exact Calls.regrown_of (HA.out _))))
          refine wpQuiet_nil ?_
          intro _ hw'
          obtain ⟨⟨dq, osq⟩, hw''⟩ := hw'
          subst hw''
          clear r1 r2 r3 j4 j7 gk gj
          all_goals
            go_wp2_with fail
            exact ⟨⟨k + 1, by omega, by go_num, next hB (below_regrown _ _ _)⟩, by simp [intOf]; omega⟩
      · have HK := Lib.hid (show L.length ≤ k by omega)
        have l9 : ¬ (k : Int) < (L.length : Int) := by omega
        clear hlt
        go_wp2_with fail
        refine (K4.out _).mono ?_
        rintro e w7 ⟨rfl, hb1⟩
        have HB7 := Lib.hid (next HB6.out (next hB hb1))
        clear hb1
        go_wp2_with fail
        refine (K7.out _).mono ?_
        rintro e w8 ⟨rfl, hb1⟩
        have HB8 := Lib.hid (next HB7.out hb1)
        clear hb1
        go_wp2_with fail
        refine (shown_p _).mono ?_
        rintro e w9 ⟨rfl, hb1⟩
        have HB9 := Lib.hid (next HB8.out hb1)
        clear hb1
        go_wp2_with fail
        go_ret
        exact ⟨rfl, HB9.out⟩

theorem walk (a b c : ByteArray) (w : World) (ha : a.size ≤ maxLen) (hb : b.size ≤ maxLen) (hc : c.size ≤ maxLen) :
    Calls Try.prog 4 #[.string a, .string b, .string c] w fun e w' => e = .returned (.bool true) ∧ Below w.heap.size w w' := by
  obtain ⟨a, rfl⟩ : ∃ l, a = str l := ⟨_, (str_data a).symm⟩
  obtain ⟨b, rfl⟩ : ∃ l, b = str l := ⟨_, (str_data b).symm⟩
  obtain ⟨c, rfl⟩ : ∃ l, c = str l := ⟨_, (str_data c).symm⟩
  rw [size_str] at ha hb hc
  by_cases h : 100 < a.length ∨ 100 < b.length ∨ 100 < c.length
  · exact walk_long a b c ha hb hc w h
  · exact walk_main a b c (by omega) (by omega) (by omega) w

theorem own : ownKnob Try.prog.godebug = none := by kernel_rfl
theorem laidOut : laidOutB Try.prog = true := by kernel_rfl

set_option maxRecDepth 100000 in
theorem lifted (os : Os) (started : os.Started) (H : Type) (enc : TypeId × Value → H) :
    ReturnsInHanded {} Try.checked os 4 .any (Rows.foldKeysSpec.pre6 enc Try.prog Try.f4 Rows.foldKeysRow.domain false) (Rows.foldKeysSpec.post enc Try.prog Try.f4 false true false false) := by
  refine returnsInHanded_of_change (C := Try.checked) own started (by kernel_rfl) Try.func4
    (ChangeSpec.witness6 (enc := enc) (C := Try.checked) false ⟨#[], #[.string .empty, .string .empty, .string .empty], []⟩ 8 (by kernel_rfl) (by kernel_rfl) (by kernel_rfl) (by kernel_rfl)) ?_
  intro W base args ds gs before hval0 hW hcnd _
  have hval : ∀ (j : Nat) t v, Try.f4.params[j]? = some t → args[j]? = some v → Value.okWide Try.prog W .any base t v := hval0
  have hW' := hW
  obtain ⟨p, q, hA0, hV, rfl, hfz, hnd⟩ := hW
  have hA : DataW.TrodAll enc Try.prog W 0 (fun _ => true) true Try.f4.params.toList args.toList ds p := hA0
  rw [Try.params4] at hA hval
  obtain ⟨v0, vs0, d0, ds0, p0, q0, hargs, rfl, rfl, k0, r0⟩ := trodAll_cons hA
  obtain ⟨v1, vs1, d1, ds1, p1, q1, rfl, rfl, rfl, k1, r1⟩ := trodAll_cons r0
  obtain ⟨v2, vs2, d2, ds2, p2, q2, rfl, rfl, rfl, k2, r2⟩ := trodAll_cons r1
  obtain ⟨rfl, rfl, rfl⟩ := trodAll_nil r2
  obtain rfl : args = #[v0, v1, v2] := by cases args; simp_all
  obtain ⟨rfl, rfl⟩ := trodVars_none hV
  have lt0 : ∀ x ∈ p0, x.block < W.heap.size := by obtain ⟨m, hm⟩ := k0; exact DataW.trod_lt m _ _ _ hm
  have lt1 : ∀ x ∈ p1, x.block < W.heap.size := by obtain ⟨m, hm⟩ := k1; exact DataW.trod_lt m _ _ _ hm
  have lt2 : ∀ x ∈ p2, x.block < W.heap.size := by obtain ⟨m, hm⟩ := k2; exact DataW.trod_lt m _ _ _ hm
  obtain ⟨s0, rfl, m0⟩ := arg_string Try.underlying9 (hval 0 9 v0 rfl rfl)
  obtain ⟨s1, rfl, m1⟩ := arg_string Try.underlying9 (hval 1 9 v1 rfl rfl)
  obtain ⟨s2, rfl, m2⟩ := arg_string Try.underlying9 (hval 2 9 v2 rfl rfl)
  clear hA0 hval0
  refine (walk s0 s1 s2 W m0 m1 m2).mono fun e W' ⟨he, bel⟩ => ?_
  subst he
  exact ⟨_, rfl, _, _, _, [], _, [], hW', trodAll_mk1 (shut_bool Try.underlying4 _), (trodAll_cons_mk (Below.trod laidOut (by kernel_rfl) (of_decide_eq_true (by kernel_rfl)) k0 bel lt0) (trodAll_cons_mk (Below.trod laidOut (by kernel_rfl) (of_decide_eq_true (by kernel_rfl)) k1 bel lt1) (trodAll_cons_mk (Below.trod laidOut (by kernel_rfl) (of_decide_eq_true (by kernel_rfl)) k2 bel lt2) trodAll_mk0))), rfl, bel.frame _, fun h => by cases h⟩

theorem over : Rows.foldKeysRow.holds Try.pinned (OpenSpec.ofChange Rows.foldKeysSpec) :=
  OpenClaim.holds_of_wide 4 Try.f4 rfl rfl rfl rfl rfl rfl rfl ⟨rfl, rfl, rfl, rfl, rfl⟩ rfl rfl rfl rfl rfl (by kernel_rfl) Try.func4 (by kernel_rfl)
    (of_decide_eq_true (by kernel_rfl)) (by unfold Func.isWrapper; first | (rw [if_pos (by decide +kernel)]; kernel_rfl) | (rw [if_neg (by decide +kernel)]; exact ⟨rfl, rfl⟩))
    (fun os started H enc _ => lifted os started H enc)

theorem proved : Rows.FoldKeysSaid := over
#print axioms proved
end Go.Proofs.Ytfgfjapjpiilfaa.foldKeys
