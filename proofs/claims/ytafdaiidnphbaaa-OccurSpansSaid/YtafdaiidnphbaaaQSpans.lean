/- OccurSpans: the law returns true: a rule has a hit at an end exactly if Starts has elements for it, which are just those from which Matches says so; numbers of bytes are from the shortest to the longest length. No conditions. -/
import Derived.Test.YtafdaiidnphbaaaMg8
import Derived.Test.YtafdaiidnphbaaaMg3
import Derived.Test.YtafdaiidnphbaaaMg1
namespace Go.Proofs.Ytafdaiidnphbaaa.occurSpans
open Go.ChangeShapes Go.WideShapes Go.ChangeAt Go.RowKit

set_option maxRecDepth 100000 in
set_option maxHeartbeats 16000000 in
theorem walkN (v : Value) (ua : Option Addr) (ucap : Nat) (p : List El) (b : List UInt8) (x0 : Int) (w : World) (h : Pats w v p) (hb : Bytes w (.slice ua b.length ucap) b) (hcap : b.length ≤ ucap) (hx0 : 0 ≤ x0 ∧ x0 ≤ 65535) :
    Calls Try.prog 3 #[v, .slice ua b.length ucap, .int .u16 x0] w fun e w' => e = .returned (.bool true) ∧ Below w.heap.size w w' := by
  have HB0 := Lib.hid ((Below.refl w.heap.size w).alloc (Nat.le_refl _) (.cells #[v] 22))
  obtain ⟨W0, hW0⟩ : ∃ W0, W0 = w.alloc (.cells #[v] 22) := ⟨_, rfl⟩
  have HS := Lib.hid (sets_one h)
  rw [← hW0] at HB0 HS
  have HP := Lib.hid (Row.below h HB0.out)
  have HBY := Lib.hid (Row.below hb HB0.out)
  have K0 := Lib.hid (farb_p _ _ [p] b W0 HS.out HBY.out)
  obtain ⟨a, cap, rfl⟩ := Row.form2 h
  clear h hb
  go_enter Try.func3, Try.ntmps3
  go_wp2_with fail
  subst hW0
  refine K0.out.mono ?_
  rintro e w1 ⟨⟨c, rfl, hbm⟩, rfl⟩
  cases c with
  | true =>
    go_wp2_with fail
    refine (awake_p _).mono ?_
    rintro e w9 ⟨rfl, hb⟩
    have HB9 := Lib.hid (next HB0.out hb)
    clear hb
    go_wp2_with fail
    go_ret
    exact ⟨rfl, HB9.out⟩
  | false =>
    have hbm := hbm rfl
    obtain ⟨n, hn⟩ : ∃ n : Nat, n = x0.toNat % (b.length + 1) := ⟨_, rfl⟩
    have hnl : n ≤ b.length := by have := Nat.mod_lt x0.toNat (show 0 < b.length + 1 by omega); omega
    have m0 : x0.tmod ((b.length : Int) + 1) = (n : Int) := by
      rw [Int.tmod_eq_emod_of_nonneg hx0.1, hn]
      have : x0 = (x0.toNat : Int) := by omega
      rw [this]
      norm_cast
    have wx0 : IntKind.i64.wrap x0 = x0 := IntWalk.i64_in _ (by omega)
    have wn : IntKind.i64.wrap (n : Int) = (n : Int) := IntWalk.i64_in _ (by omega)
    have wl : IntKind.i64.wrap ((b.length : Int) + 1) = (b.length : Int) + 1 := IntWalk.i64_in _ (by omega)
    have nz : ((b.length : Int) + 1 == 0) = false := beq_eq_false_iff_ne.2 (by omega)
    have K1 := Lib.hid (starts_p _ ua ucap p b (n : Int) _ HP.out HBY.out hcap)
    clear hn
    go_wp2_with fail
    refine K1.out.mono ?_
    rintro e w1 ⟨v1, rfl, ho, hb⟩
    have HB1 := Lib.hid hb
    clear hb K1 m0 wx0 wn wl nz
    by_cases h0 : startE p b n = 0
    · obtain ⟨hok, hb4⟩ := startE_ok h0
      have HE := Lib.hid h0
      have HOK := Lib.hid hok
      have hsl := startL_ok h0
      obtain ⟨m, hm⟩ : ∃ m, m = (begin' p b n n).length := ⟨_, rfl⟩
      have HV1 := Lib.hid (show Row w1 1 v1 m ((begin' p b n n).map fun (s : Nat) => Value.int .i64 (s : Int)) by
        have := Row.of_owns ho
        rw [hsl, List.length_map, ← hm, List.map_map] at this
        exact this)
      obtain ⟨a1, cap1, rfl⟩ := Row.form2 HV1.out
      have hmn : m ≤ 4096 := by
        rw [hm]
        unfold begin' startTo
        exact Nat.le_trans (List.length_filter_le _ _) (by simp; omega)
      have K2 := Lib.hid (lengths_r _ p w1 (Row.below HP.out HB1.out))
      rw [lenV_ok hok] at K2
      obtain ⟨le, hle⟩ : ∃ x, x = leastV p := ⟨_, rfl⟩
      obtain ⟨mo, hmo⟩ : ∃ x, x = mostV p := ⟨_, rfl⟩
      rw [← hle, ← hmo] at K2
      have HLE := Lib.hid hle
      have HMO := Lib.hid hmo
      clear hle hmo
      rw [h0]
      have HMM := Lib.hid hm
      clear ho h0 hok hsl hm
      go_wp2_with fail
      refine K2.out.mono ?_
      rintro e w2 ⟨rfl, hb⟩
      have HB2 := Lib.hid (next HB1.out hb)
      have HV2 := Lib.hid (Row.below HV1.out hb)
      have K3 := Lib.hid (all_p _ _ [p] b w2 (HS.out.below HB2.out) (Row.below HBY.out HB2.out))
      rw [allE_sole HOK.out hb4] at K3
      clear hb K2
      go_wp2_with fail
      refine K3.out.mono ?_
      rintro e w3 ⟨v3, rfl, ho, hb⟩
      have HB3 := Lib.hid (next HB2.out hb)
      have HV3 := Lib.hid (Row.below HV2.out hb)
      have HH3 := Lib.hid (Row.of_owns ho)
      have HLL := Lib.hid (all_len (allE_sole HOK.out hb4))
      have HIT := Lib.hid (hit_iff HOK.out hb4 hnl)
      rw [← HMM.out] at HIT
      obtain ⟨a3, cap3, rfl⟩ := Row.form2 HH3.out
      generalize allV [p] b = l at *
      have hll := HLL.out
      clear ho hb K3
      go_wp2_with fail
      go_loopw [16, 17] (fun hv iv wr => ∃ i : Nat, i ≤ l.length ∧ hv = .bool (hitTo l n i) ∧ iv = .int .i64 (i : Int) ∧ w3 = wr) (fun _ iv _ => l.length - (intOf iv).toNat)
      case atStart => exact ⟨0, by omega, by rw [hitTo_zero], rfl, rfl⟩
      case round =>
        obtain ⟨i, hi, rfl, rfl, rfl⟩ := hrel
        by_cases hlt : i < l.length
        · have i1 : (0 : Int) ≤ (i : Int) := by omega
          have i2 : (i : Int) < (l.length : Int) := by omega
          have wi1 : IntKind.i64.wrap ((i : Int) + 1) = (i : Int) + 1 := IntWalk.i64_in _ (by omega)
          obtain ⟨g, o, e3, hg3, d⟩ := Row.cellAt2' HH3.out hlt
          subst e3
          have HSUC := Lib.hid (hitTo_succ (n := n) hlt)
          obtain ⟨d0, d1⟩ := d
          generalize l[i].1 = y1 at *
          cases hh : hitTo l n i with
          | true =>
            rw [hh] at HSUC
            go_wp2_with fail
            exact ⟨⟨i + 1, by omega, by rw [HSUC.out]; rfl, by go_num, trivial⟩, by simp [intOf] <;> omega⟩
          | false =>
            rw [hh] at HSUC
            by_cases hy : y1 = (n : Int)
            · subst hy
              go_wp2_with fail
              exact ⟨⟨i + 1, by omega, by rw [HSUC.out]; simp, by go_num, trivial⟩, by simp [intOf] <;> omega⟩
            · have ty : (y1 == (n : Int)) = false := beq_eq_false_iff_ne.2 hy
              have HN := Lib.hid (decide_eq_false hy)
              clear hy
              go_wp2_with fail
              exact ⟨⟨i + 1, by omega, by rw [HSUC.out, HN.out]; rfl, by go_num, trivial⟩, by simp [intOf] <;> omega⟩
        · obtain rfl : i = l.length := by omega
          have i2 : ¬ (l.length : Int) < (l.length : Int) := by omega
          rw [HIT.out]
          have hcs : (decide (0 < m) = true ∧ (0 : Int) < (m : Int) ∧ 0 < m) ∨ (decide (0 < m) = false ∧ ¬ (0 : Int) < (m : Int) ∧ ¬ 0 < m) := by
            by_cases h : 0 < m
            · exact .inl ⟨decide_eq_true h, by omega, h⟩
            · exact .inr ⟨decide_eq_false h, by omega, h⟩
          clear hlt
          rcases hcs with ⟨q0, q1, q2⟩ | ⟨q0, q1, q2⟩
          all_goals
            rw [q0]
            clear q0
            go_wp2_with fail
            clear q1 q2
            go_loopw [18, 19] (fun kv sv wr => ∃ s : Nat, s ≤ n ∧ kv = .int .i64 (((begin' p b n s).length : Nat) : Int) ∧ sv = .int .i64 (s : Int) ∧ Below w3.heap.size w3 wr) (fun _ sv _ => n - (intOf sv).toNat)
            case atStart => exact ⟨0, by omega, by rfl, rfl, Below.refl _ _⟩
            case round =>
              obtain ⟨s, hs, rfl, rfl, hB⟩ := hrel
              have HB := Lib.hid hB
              clear hB
              by_cases hsn : s < n
              · have s1 : (0 : Int) ≤ (s : Int) := by omega
                have s2 : (s : Int) < (n : Int) := by omega
                have ws1 : IntKind.i64.wrap ((s : Int) + 1) = (s : Int) + 1 := IntWalk.i64_in _ (by omega)
                have ws2 : IntKind.i64.wrap ((n : Int) - (s : Int)) = (n : Int) - (s : Int) := IntWalk.i64_in _ (by omega)
                obtain ⟨qa, qc, hcut, hcb⟩ := bytes_cut HBY.out hcap (Nat.le_of_lt hsn) hnl (s : Int) (n : Int) rfl rfl
                have HW := Lib.hid (next HB3.out HB.out)
                have hcl : ((b.take n).drop s).length ≤ 4096 := by rw [List.length_drop, List.length_take]; omega
                have K4 := Lib.hid (matches_p _ _ p ((b.take n).drop s) _ (Row.below HP.out HW.out) (Row.below hcb HW.out))
                rw [seek0 HOK.out hcl, mat0 HOK.out hcl] at K4
                have HNO := Lib.hid (@begin_no p b n s)
                have HYES := Lib.hid (fun h => @begin_yes p b n s HOK.out hs hnl h)
                have HAT := Lib.hid (fun h => @begin_at p b n s HOK.out hsn hnl h)
                have HLO := Lib.hid (fun h => @begin_lo p b n s HOK.out hs hnl h)
                generalize matchV p ((b.take n).drop s) = mv at *
                clear hcb hcl
                go_wp2_with fail
                with_reducible refine K4.out.mono ?_
                rintro e w4 ⟨rfl, hb⟩
                have HB4 := Lib.hid (HB.out.trans (hb.mono HB.out.size))
                clear hb K4 hcut
                cases mv with
                | false =>
                  have HN := Lib.hid (HNO.out rfl)
                  clear HNO HYES HAT HLO
                  go_wp2_with fail
                  exact ⟨⟨s + 1, by omega, by rw [HN.out], by go_num, HB4.out⟩, by simp [intOf] <;> omega⟩
                | true =>
                  have HN := Lib.hid (HYES.out rfl)
                  obtain ⟨hk, hkv⟩ := HAT.out rfl
                  obtain ⟨_, _, r1, r2⟩ := HLO.out rfl
                  rw [← HLE.out] at r1
                  rw [← HMO.out] at r2
                  have hk2 : (begin' p b n s).length < m := by rw [HMM.out]; exact hk
                  obtain ⟨g, o, e3, hg3, d0⟩ := nums_at' (Row.below HV3.out HB4.out) hk2 hk
                  subst e3
                  rw [hkv] at d0
                  have k1 : (0 : Int) ≤ ((begin' p b n s).length : Int) := by omega
                  have k2 : ((begin' p b n s).length : Int) < (m : Int) := by omega
                  have k3 : ¬ (m : Int) ≤ ((begin' p b n s).length : Int) := by omega
                  have wk : IntKind.i64.wrap (((begin' p b n s).length : Int) + 1) = ((begin' p b n s).length : Int) + 1 := IntWalk.i64_in _ (by omega)
                  have r3 : ¬ (n : Int) - (s : Int) < le := by omega
                  have r4 : ¬ mo < (n : Int) - (s : Int) := by omega
                  have k4 : ¬ m ≤ (begin' p b n s).length := by omega
                  have k5 : decide (m ≤ (begin' p b n s).length) = false := decide_eq_false k4
                  have k6 : decide ((m : Int) ≤ ((begin' p b n s).length : Int)) = false := decide_eq_false k3
                  clear HNO HYES HAT HLO hk hkv
                  have q3 : decide ((n : Int) - (s : Int) < le) = false := decide_eq_false r3
                  have q4 : decide (mo < (n : Int) - (s : Int)) = false := decide_eq_false r4
                  have HKL := Lib.hid (show (((begin' p b n (s + 1)).length : Nat) : Int) = ((begin' p b n s).length : Int) + 1 by rw [HN.out]; simp)
                  go_wp2_with fail
                  exact ⟨⟨s + 1, by omega, by rw [HKL.out], by go_num, HB4.out⟩, by simp [intOf] <;> omega⟩
              · obtain rfl : s = n := by omega
                have s2 : ¬ (s : Int) < (s : Int) := by omega
                rw [← HMM.out]
                go_wp2_with fail
                refine (awake_p _).mono ?_
                rintro e w9 ⟨rfl, hb⟩
                have HB9 := Lib.hid (next HB0.out (next (next HB3.out HB.out) hb))
                clear hb
                go_wp2_with fail
                go_ret
                exact ⟨rfl, HB9.out⟩
    · have hv : startL p b n = [] := by unfold startL; rw [if_neg h0]
      rw [hv] at ho
      obtain ⟨a2, cap2, e2⟩ := Row.form2 (Row.of_owns ho)
      rw [List.length_nil] at e2
      subst e2
      have t1 : (startE p b n != 0) = true := bne_iff_ne.2 h0
      generalize startE p b n = E at *
      clear h0 hv ho
      go_wp2_with fail
      refine (awake_p _).mono ?_
      rintro e w9 ⟨rfl, hb⟩
      have HB9 := Lib.hid (next HB0.out (next HB1.out hb))
      clear hb
      go_wp2_with fail
      go_ret
      exact ⟨rfl, HB9.out⟩

set_option maxRecDepth 100000 in
theorem walk {H : Type} {enc : TypeId × Value → H} {d d2 : DataW H} {p p2 : List MemPlace} {base base2 : Nat} (v u : Value) (n : Int) (w : World)
    (hk : DataW.Trod enc Try.prog w 0 (fun _ => true) true 22 v d p) (hv : Value.okWide Try.prog w .any base 22 v)
    (hk2 : DataW.Trod enc Try.prog w 0 (fun _ => true) true 23 u d2 p2) (hv2 : Value.okWide Try.prog w .any base2 23 u) (hn : IntKind.u16.has n) :
    Calls Try.prog 3 #[v, u, .int .u16 n] w fun e w' => e = .returned (.bool true) ∧ Below w.heap.size w w' := by
  obtain ⟨m, hm⟩ := hk
  obtain ⟨m2, hm2⟩ := hk2
  obtain ⟨a, len, cap, rfl⟩ := okWide_slice Try.underlying22 hv
  obtain ⟨a2, len2, cap2, rfl⟩ := okWide_slice Try.underlying23 hv2
  obtain ⟨l, hl⟩ := pats_of hm
  obtain ⟨b, hb⟩ := bytes_of hm2
  have hc2 := (cap_of Try.underlying23 hm2).le
  obtain ⟨_, _, e2⟩ := Row.form2 hb
  cases e2
  exact walkN _ _ _ l b n w hl hb hc2 (has_u16 hn)

theorem own : ownKnob Try.prog.godebug = none := by kernel_rfl
theorem laidOut : laidOutB Try.prog = true := by kernel_rfl

set_option maxRecDepth 100000 in
theorem lifted (os : Os) (started : os.Started) (H : Type) (enc : TypeId × Value → H) :
    ReturnsInHanded {} Try.checked os 3 .any (Rows.occurSpansSpec.pre6 enc Try.prog Try.f3 Rows.occurSpansRow.domain false) (Rows.occurSpansSpec.post enc Try.prog Try.f3 false true false false) := by
  refine returnsInHanded_of_change (C := Try.checked) own started (by kernel_rfl) Try.func3
    (ChangeSpec.witness6 (enc := enc) (C := Try.checked) false ⟨#[], #[.slice none 0 0, .slice none 0 0, .int .u16 0], []⟩ 8 (by kernel_rfl) (by kernel_rfl) (by kernel_rfl) (by kernel_rfl)) ?_
  intro W base args ds gs before hval0 hW hcnd _
  have hval : ∀ (j : Nat) t v, Try.f3.params[j]? = some t → args[j]? = some v → Value.okWide Try.prog W .any base t v := hval0
  have hW' := hW
  obtain ⟨p, q, hA0, hV, rfl, hfz, hnd⟩ := hW
  have hA : DataW.TrodAll enc Try.prog W 0 (fun _ => true) true Try.f3.params.toList args.toList ds p := hA0
  rw [Try.params3] at hA hval
  obtain ⟨v0, vs0, d0, ds0, p0, q0, hargs, rfl, rfl, k0, r0⟩ := trodAll_cons hA
  obtain ⟨v1, vs1, d1, ds1, p1, q1, rfl, rfl, rfl, k1, r1⟩ := trodAll_cons r0
  obtain ⟨v2, vs2, d2, ds2, p2, q2, rfl, rfl, rfl, k2, r2⟩ := trodAll_cons r1
  obtain ⟨rfl, rfl, rfl⟩ := trodAll_nil r2
  obtain rfl : args = #[v0, v1, v2] := by cases args; simp_all
  obtain ⟨rfl, rfl⟩ := trodVars_none hV
  have lt0 : ∀ x ∈ p0, x.block < W.heap.size := by obtain ⟨m, hm⟩ := k0; exact DataW.trod_lt m _ _ _ hm
  have lt1 : ∀ x ∈ p1, x.block < W.heap.size := by obtain ⟨m, hm⟩ := k1; exact DataW.trod_lt m _ _ _ hm
  have lt2 : ∀ x ∈ p2, x.block < W.heap.size := by obtain ⟨m, hm⟩ := k2; exact DataW.trod_lt m _ _ _ hm
  obtain ⟨a2, rfl, w2⟩ := arg_int Try.underlying24 (hval 2 24 v2 rfl rfl)
  clear hA0 hval0
  refine (walk v0 v1 a2 W k0 (hval 0 22 v0 rfl rfl) k1 (hval 1 23 v1 rfl rfl) w2).mono fun e W' ⟨he, bel⟩ => ?_
  subst he
  exact ⟨_, rfl, _, _, _, [], _, [], hW', trodAll_mk1 (shut_bool Try.underlying4 _), (trodAll_cons_mk (Below.trod laidOut (by kernel_rfl) (of_decide_eq_true (by kernel_rfl)) k0 bel lt0) (trodAll_cons_mk (Below.trod laidOut (by kernel_rfl) (of_decide_eq_true (by kernel_rfl)) k1 bel lt1) (trodAll_cons_mk (Below.trod laidOut (by kernel_rfl) (of_decide_eq_true (by kernel_rfl)) k2 bel lt2) trodAll_mk0))), rfl, bel.frame _, fun h => by cases h⟩

theorem over : Rows.occurSpansRow.holds Try.pinned (OpenSpec.ofChange Rows.occurSpansSpec) :=
  OpenClaim.holds_of_wide 3 Try.f3 rfl rfl rfl rfl rfl rfl rfl ⟨rfl, rfl, rfl, rfl, rfl⟩ rfl rfl rfl rfl rfl (by kernel_rfl) Try.func3 (by kernel_rfl)
    (of_decide_eq_true (by kernel_rfl)) (by unfold Func.isWrapper; first | (rw [if_pos (by decide +kernel)]; kernel_rfl) | (rw [if_neg (by decide +kernel)]; exact ⟨rfl, rfl⟩))
    (fun os started H enc _ => lifted os started H enc)

theorem proved : Rows.OccurSpansSaid := over
#print axioms proved
end Go.Proofs.Ytafdaiidnphbaaa.occurSpans
