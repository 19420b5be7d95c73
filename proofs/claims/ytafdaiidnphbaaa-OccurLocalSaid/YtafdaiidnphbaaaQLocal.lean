/- OccurLocal: the law returns true: hits that end in a part are those of these bytes and of fewer bytes before them than the longest length of a pattern, shifted. No conditions. -/
import Derived.Test.YtafdaiidnphbaaaMg8
import Derived.Test.YtafdaiidnphbaaaMg7
import Derived.Test.YtafdaiidnphbaaaMg5
import Derived.Test.YtafdaiidnphbaaaMg1
import Derived.Test.YtafdaiidnphbaaaMg6
namespace Go.Proofs.Ytafdaiidnphbaaa.occurLocal
open Go.ChangeShapes Go.WideShapes Go.ChangeAt Go.RowKit

set_option maxRecDepth 100000 in
set_option maxHeartbeats 16000000 in
theorem walkN (v : Value) (ua : Option Addr) (ucap : Nat) (L : List (List El)) (b : List UInt8) (x0 x1 : Int) (w : World) (h : Sets w v L) (hb : Bytes w (.slice ua b.length ucap) b) (hcap : b.length ≤ ucap) (hx0 : 0 ≤ x0 ∧ x0 ≤ 65535) (hx1 : 0 ≤ x1 ∧ x1 ≤ 65535) :
    Calls Try.prog 7 #[v, .slice ua b.length ucap, .agg #[.int .u16 x0, .int .u16 x1]] w fun e w' => e = .returned (.bool true) ∧ Below w.heap.size w w' := by
  have HB0 := Lib.hid ((Below.refl w.heap.size w).alloc (Nat.le_refl _) (.cells #[.int .u16 x0, .int .u16 x1] 54))
  have hh0 : (w.alloc (.cells #[.int .u16 x0, .int .u16 x1] 54)).heap[w.heap.size]? = some (.cells #[.int .u16 x0, .int .u16 x1] 54) := heap_alloc_new w _
  have c0 : (w.alloc (.cells #[.int .u16 x0, .int .u16 x1] 54)).cell? ⟨w.heap.size, 0, none⟩ = some (.int .u16 x0) := cell_in hh0 rfl
  have c1 : (w.alloc (.cells #[.int .u16 x0, .int .u16 x1] 54)).cell? ⟨w.heap.size, 1, none⟩ = some (.int .u16 x1) := cell_in hh0 rfl
  have hlt0 : w.heap.size < (w.alloc (.cells #[.int .u16 x0, .int .u16 x1] 54)).heap.size := by simp
  have HS := Lib.hid (h.below HB0.out)
  have HBY := Lib.hid (Row.below hb HB0.out)
  have K0 := Lib.hid (farb_p v _ L b _ HS.out HBY.out)
  obtain ⟨a, cap, rfl⟩ := h.form
  clear h hb hh0
  go_enter Try.func7, Try.ntmps7
  go_wp2_with fail
  refine K0.out.mono ?_
  rintro e wx ⟨⟨c, rfl, hbm⟩, rfl⟩
  cases c with
  | true =>
    go_wp2_with fail
    refine (awake_p _).mono ?_
    rintro e w9 ⟨rfl, hb⟩
    have HB9 := Lib.hid (next HB0.out hb)
    clear hb
    go_wp2_with fail
    go_ret
    exact ⟨rfl, HB9.out⟩
  | false =>
    have hbm := hbm rfl
    obtain ⟨P, hP⟩ : ∃ P : Nat, P = x0.toNat % (b.length + 1) := ⟨_, rfl⟩
    obtain ⟨Q, hQ⟩ : ∃ Q : Nat, Q = x1.toNat % (b.length + 1) := ⟨_, rfl⟩
    have hPl : P ≤ b.length := by have := Nat.mod_lt x0.toNat (show 0 < b.length + 1 by omega); omega
    have hQl : Q ≤ b.length := by have := Nat.mod_lt x1.toNat (show 0 < b.length + 1 by omega); omega
    have m0 : x0.tmod ((b.length : Int) + 1) = (P : Int) := by
      rw [Int.tmod_eq_emod_of_nonneg hx0.1, hP]
      have : x0 = (x0.toNat : Int) := by omega
      rw [this]
      norm_cast
    have m1 : x1.tmod ((b.length : Int) + 1) = (Q : Int) := by
      rw [Int.tmod_eq_emod_of_nonneg hx1.1, hQ]
      have : x1 = (x1.toNat : Int) := by omega
      rw [this]
      norm_cast
    have wx0 : IntKind.i64.wrap x0 = x0 := IntWalk.i64_in _ (by omega)
    have wx1 : IntKind.i64.wrap x1 = x1 := IntWalk.i64_in _ (by omega)
    have wP : IntKind.i64.wrap (P : Int) = (P : Int) := IntWalk.i64_in _ (by omega)
    have wQ : IntKind.i64.wrap (Q : Int) = (Q : Int) := IntWalk.i64_in _ (by omega)
    have wl : IntKind.i64.wrap ((b.length : Int) + 1) = (b.length : Int) + 1 := IntWalk.i64_in _ (by omega)
    have nz : ((b.length : Int) + 1 == 0) = false := beq_eq_false_iff_ne.2 (by omega)
    obtain ⟨f, hf⟩ : ∃ f : Nat, f = min P Q := ⟨_, rfl⟩
    obtain ⟨t, ht⟩ : ∃ t : Nat, t = max P Q := ⟨_, rfl⟩
    have hfi : min (P : Int) (Q : Int) = (f : Int) := by omega
    have hti : max (P : Int) (Q : Int) = (t : Int) := by omega
    have hft : f ≤ t := by omega
    have htb : t ≤ b.length := by omega
    clear hf ht hP hQ hPl hQl
    go_wp2_with fail
    go_region
    all_goals
      clear c0 c1 m0 m1 wx0 wx1 wP wQ wl nz
      have HD := Lib.hid ((Below.refl (w.alloc (.cells #[.int .u16 x0, .int .u16 x1] 54)).heap.size (w.alloc (.cells #[.int .u16 x0, .int .u16 x1] 54))).drew)
      have HS := Lib.hid (HS.out.below HD.out)
      have HBY := Lib.hid (Row.below HBY.out HD.out)
      have HB0 := Lib.hid (next HB0.out HD.out)
      have K1 := Lib.hid (within_p _ _ L b (f : Int) (t : Int) _ HS.out HBY.out)
      go_wp2_with fail
      refine K1.out.mono ?_
      rintro e w1 ⟨v1, rfl, ho, hb⟩
      have HB1 := Lib.hid hb
      have HV1 := Lib.hid (Row.of_owns ho)
      clear hb ho K1
      by_cases h0 : allE L b = 0
      · have HE := Lib.hid h0
        have HOK := Lib.hid (okS_of_all h0).1
        have hL := HOK.out.le
        have hb4 := (okS_of_all h0).2
        rw [withE_ok h0 (by omega) (by omega) (by omega)]
        clear h0
        go_wp2_with fail
        go_loopw [11, 12] (fun lv iv wr => ∃ i : Nat, i ≤ L.length ∧ lv = .int .i64 (longTo L i) ∧ iv = .int .i64 (i : Int) ∧ Below w1.heap.size w1 wr) (fun _ iv _ => L.length - (intOf iv).toNat)
        case atStart => exact ⟨0, by omega, by simp [longTo], rfl, Below.refl _ _⟩
        case round =>
          obtain ⟨i, hi, rfl, rfl, hB⟩ := hrel
          have HB := Lib.hid hB
          clear hB
          by_cases hlt : i < L.length
          · obtain ⟨g, o, pa, pc, hga, hg, d0, hp⟩ := (HS.out.below (next HB1.out HB.out)).at hlt
            subst hga
            have i1 : (0 : Int) ≤ (i : Int) := by omega
            have i2 : (i : Int) < (L.length : Int) := by omega
            have wi1 : IntKind.i64.wrap ((i : Int) + 1) = (i : Int) + 1 := IntWalk.i64_in _ (by omega)
            have K2 := Lib.hid (lengths_r _ L[i] wr hp)
            have tm : max (longTo L i) (lenV L[i]).2.1 = longTo L (i + 1) := (longTo_succ hlt).symm
            clear hp
            go_wp2_with fail
            with_reducible refine K2.out.mono ?_
            rintro e w2 ⟨rfl, hb⟩
            have HB2 := Lib.hid (HB.out.trans (hb.mono HB.out.size))
            clear hb K2
            go_wp2_with fail
            exact ⟨⟨i + 1, by omega, rfl, by go_num, HB2.out⟩, by simp [intOf] <;> omega⟩
          · obtain rfl : i = L.length := by omega
            have i2 : ¬ (L.length : Int) < (L.length : Int) := by omega
            have hlg := longTo_in HOK.out (Nat.le_refl L.length)
            have hl1 := long_one HOK.out
            obtain ⟨lg, hlgE⟩ : ∃ lg, lg = longTo L L.length := ⟨_, rfl⟩
            obtain ⟨lo, hlo⟩ : ∃ lo : Nat, (lo : Int) = max 0 ((f : Int) - (lg - 1)) := ⟨(max 0 ((f : Int) - (lg - 1))).toNat, by omega⟩
            rw [← hlgE] at hlg hl1 ⊢
            have hlo2 := hlo
            rw [hlgE] at hlo2
            have HSH := Lib.hid (local_shift HE.out hft htb hlo2)
            have hlf : lo ≤ f := by omega
            have wm : IntKind.i64.wrap (lg - 1) = lg - 1 := IntWalk.i64_in _ (by omega)
            have wd : IntKind.i64.wrap ((f : Int) - (lg - 1)) = (f : Int) - (lg - 1) := IntWalk.i64_in _ (by omega)
            have ws1 : IntKind.i64.wrap ((f : Int) - (lo : Int)) = (f : Int) - (lo : Int) := IntWalk.i64_in _ (by omega)
            have ws2 : IntKind.i64.wrap ((t : Int) - (lo : Int)) = (t : Int) - (lo : Int) := IntWalk.i64_in _ (by omega)
            have tl : max 0 ((f : Int) - (lg - 1)) = (lo : Int) := hlo.symm
            obtain ⟨qa, qc, hcut, hcb⟩ := bytes_cut HBY.out hcap (show lo ≤ t by omega) htb (lo : Int) (t : Int) rfl rfl
            have hcl : ((b.take t).drop lo).length = t - lo := by rw [List.length_drop, List.length_take, Nat.min_eq_left htb]
            have HW := Lib.hid (next HB1.out HB.out)
            have K3 := Lib.hid (within_p _ _ L ((b.take t).drop lo) ((f : Int) - (lo : Int)) ((t : Int) - (lo : Int)) wr (HS.out.below HW.out) (Row.below hcb HW.out))
            rw [withE_ok (allE_part HE.out lo t) (by omega) (by omega) (by rw [hcl]; omega)] at K3
            clear hcb hcl hlt hlo hlo2 hlgE
            generalize withL L ((b.take t).drop lo) ((f : Int) - (lo : Int)) ((t : Int) - (lo : Int)) = m at *
            go_wp2_with fail
            with_reducible refine K3.out.mono ?_
            rintro e w3 ⟨v3, rfl, ho, hb⟩
            have HB3 := Lib.hid (HB.out.trans (hb.mono HB.out.size))
            have K4 := Lib.hid (shift_p v3 m (lo : Int) w3 (Row.of_owns ho))
            rw [HSH.out.1, HSH.out.2] at K4
            clear ho hb K3 hcut
            go_wp2_with fail
            with_reducible refine K4.out.mono ?_
            rintro e w4 ⟨v4, rfl, ho, hb⟩
            have HB4 := Lib.hid (HB3.out.trans (hb.mono HB3.out.size))
            have S4 := Lib.hid (same_r v4 v1 _ _ w4 (Row.of_owns ho) (Row.below HV1.out HB4.out))
            rw [decide_eq_true (rfl : withL L b f t = withL L b f t)] at S4
            clear ho hb K4
            go_wp2_with fail
            with_reducible refine S4.out.mono ?_
            rintro e w5 ⟨rfl, hb⟩
            have HB5 := Lib.hid (HB4.out.trans (hb.mono HB4.out.size))
            clear hb S4
            go_wp2_with fail
            refine (awake_p _).mono ?_
            rintro e w9 ⟨rfl, hb⟩
            have HB9 := Lib.hid (next HB0.out (next (next HB1.out HB5.out) hb))
            clear hb
            go_wp2_with fail
            go_ret
            exact ⟨rfl, HB9.out⟩
      · have hw : withE L b f t = allE L b := by unfold withE; rw [if_pos h0]
        have t1 : (allE L b != 0) = true := bne_iff_ne.2 h0
        rw [hw]
        generalize allE L b = E at *
        clear h0 hw
        go_wp2_with fail
        refine (awake_p _).mono ?_
        rintro e w9 ⟨rfl, hb⟩
        have HB9 := Lib.hid (next HB0.out (next HB1.out hb))
        clear hb
        go_wp2_with fail
        go_ret
        exact ⟨rfl, HB9.out⟩

set_option maxRecDepth 100000 in
theorem walk {H : Type} {enc : TypeId × Value → H} {d d2 : DataW H} {p p2 : List MemPlace} {base base2 base3 : Nat} (v u : Value) (cs : Array Value) (w : World)
    (hk : DataW.Trod enc Try.prog w 0 (fun _ => true) true 25 v d p) (hv : Value.okWide Try.prog w .any base 25 v)
    (hk2 : DataW.Trod enc Try.prog w 0 (fun _ => true) true 23 u d2 p2) (hv2 : Value.okWide Try.prog w .any base2 23 u) (hz : cs.size = [24, 24].length)
    (hc : ∀ (i : Nat) (u : TypeId) (x : Value), [24, 24][i]? = some u → cs[i]? = some x → Cell.okWide Try.prog w .any base3 u x) :
    Calls Try.prog 7 #[v, u, .agg cs] w fun e w' => e = .returned (.bool true) ∧ Below w.heap.size w w' := by
  obtain ⟨m, hm⟩ := hk
  obtain ⟨m2, hm2⟩ := hk2
  obtain ⟨a, len, cap, rfl⟩ := okWide_slice Try.underlying25 hv
  obtain ⟨a2, len2, cap2, rfl⟩ := okWide_slice Try.underlying23 hv2
  obtain ⟨l, hl⟩ := sets_of hm
  obtain ⟨b, hb⟩ := bytes_of hm2
  have hc2 := (cap_of Try.underlying23 hm2).le
  obtain ⟨_, _, e2⟩ := Row.form2 hb
  cases e2
  obtain ⟨c0, c1, rfl⟩ : ∃ c0 c1, cs = #[c0, c1] := by
    have h2 : cs.size = 2 := hz
    obtain ⟨l⟩ := cs
    match l, h2 with
    | [c0, c1], _ => exact ⟨c0, c1, rfl⟩
  obtain ⟨x0, rfl, g0⟩ := cell_int Try.underlying24 (hc 0 _ _ rfl rfl)
  obtain ⟨x1, rfl, g1⟩ := cell_int Try.underlying24 (hc 1 _ _ rfl rfl)
  exact walkN _ _ _ l b x0 x1 w hl hb hc2 (has_u16 g0) (has_u16 g1)

theorem own : ownKnob Try.prog.godebug = none := by kernel_rfl
theorem laidOut : laidOutB Try.prog = true := by kernel_rfl

set_option maxRecDepth 100000 in
theorem lifted (os : Os) (started : os.Started) (H : Type) (enc : TypeId × Value → H) :
    ReturnsInHanded {} Try.checked os 7 .any (Rows.occurLocalSpec.pre6 enc Try.prog Try.f7 Rows.occurLocalRow.domain false) (Rows.occurLocalSpec.post enc Try.prog Try.f7 false true false false) := by
  refine returnsInHanded_of_change (C := Try.checked) own started (by kernel_rfl) Try.func7
    (ChangeSpec.witness6 (enc := enc) (C := Try.checked) false ⟨#[], #[.slice none 0 0, .slice none 0 0, .agg #[.int .u16 0, .int .u16 0]], []⟩ 8 (by kernel_rfl) (by kernel_rfl) (by kernel_rfl) (by kernel_rfl)) ?_
  intro W base args ds gs before hval0 hW hcnd _
  have hval : ∀ (j : Nat) t v, Try.f7.params[j]? = some t → args[j]? = some v → Value.okWide Try.prog W .any base t v := hval0
  have hW' := hW
  obtain ⟨p, q, hA0, hV, rfl, hfz, hnd⟩ := hW
  have hA : DataW.TrodAll enc Try.prog W 0 (fun _ => true) true Try.f7.params.toList args.toList ds p := hA0
  rw [Try.params7] at hA hval
  obtain ⟨v0, vs0, d0, ds0, p0, q0, hargs, rfl, rfl, k0, r0⟩ := trodAll_cons hA
  obtain ⟨v1, vs1, d1, ds1, p1, q1, rfl, rfl, rfl, k1, r1⟩ := trodAll_cons r0
  obtain ⟨v2, vs2, d2, ds2, p2, q2, rfl, rfl, rfl, k2, r2⟩ := trodAll_cons r1
  obtain ⟨rfl, rfl, rfl⟩ := trodAll_nil r2
  obtain rfl : args = #[v0, v1, v2] := by cases args; simp_all
  obtain ⟨rfl, rfl⟩ := trodVars_none hV
  have lt0 : ∀ x ∈ p0, x.block < W.heap.size := by obtain ⟨m, hm⟩ := k0; exact DataW.trod_lt m _ _ _ hm
  have lt1 : ∀ x ∈ p1, x.block < W.heap.size := by obtain ⟨m, hm⟩ := k1; exact DataW.trod_lt m _ _ _ hm
  have lt2 : ∀ x ∈ p2, x.block < W.heap.size := by obtain ⟨m, hm⟩ := k2; exact DataW.trod_lt m _ _ _ hm
  obtain ⟨c2, rfl, z2, g2⟩ := arg_agg (ts := [24, 24]) (by kernel_rfl) (by kernel_rfl) (by kernel_rfl) (hval 2 54 v2 rfl rfl)
  clear hA0 hval0
  refine (walk v0 v1 c2 W k0 (hval 0 25 v0 rfl rfl) k1 (hval 1 23 v1 rfl rfl) z2 g2).mono fun e W' ⟨he, bel⟩ => ?_
  subst he
  exact ⟨_, rfl, _, _, _, [], _, [], hW', trodAll_mk1 (shut_bool Try.underlying4 _), (trodAll_cons_mk (Below.trod laidOut (by kernel_rfl) (of_decide_eq_true (by kernel_rfl)) k0 bel lt0) (trodAll_cons_mk (Below.trod laidOut (by kernel_rfl) (of_decide_eq_true (by kernel_rfl)) k1 bel lt1) (trodAll_cons_mk (Below.trod laidOut (by kernel_rfl) (of_decide_eq_true (by kernel_rfl)) k2 bel lt2) trodAll_mk0))), rfl, bel.frame _, fun h => by cases h⟩

theorem over : Rows.occurLocalRow.holds Try.pinned (OpenSpec.ofChange Rows.occurLocalSpec) :=
  OpenClaim.holds_of_wide 7 Try.f7 rfl rfl rfl rfl rfl rfl rfl ⟨rfl, rfl, rfl, rfl, rfl⟩ rfl rfl rfl rfl rfl (by kernel_rfl) Try.func7 (by kernel_rfl)
    (of_decide_eq_true (by kernel_rfl)) (by unfold Func.isWrapper; first | (rw [if_pos (by decide +kernel)]; kernel_rfl) | (rw [if_neg (by decide +kernel)]; exact ⟨rfl, rfl⟩))
    (fun os started H enc _ => lifted os started H enc)

theorem proved : Rows.OccurLocalSaid := over
#print axioms proved
end Go.Proofs.Ytafdaiidnphbaaa.occurLocal
