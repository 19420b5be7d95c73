/- BlocksBack: the law returns true. No conditions. -/
import Derived.Test.YtfmngphmmhjicaaDoorDArg
import Derived.Test.YtfmngphmmhjicaaDoorDJoinR
import Derived.Test.YtfmngphmmhjicaaDoorDLaw
import Derived.Test.YtfmngphmmhjicaaDoorDAwake
import Derived.Test.YtfmngphmmhjicaaDoorDLaid
import Derived.Test.YtfmngphmmhjicaaDoorTie
import Derived.Test.YtfmngphmmhjicaaDoorCards
import Derived.SevenTiedAt
namespace Go.Proofs.YtfmngphmmhjicaaDoor.blocksBack
open Go.ChangeShapes Go.WideShapes Go.ChangeAt Go.RowKit

/-- the numbers lie in the first block made -/
def NumsAt (W : World) (B : Nat) (n b p i : Int) : Prop := W.heap[B]? = some (.cells #[.int .i64 n, .int .i64 b, .int .i64 p, .int .i64 i] 24)
theorem NumsAt.cells {W : World} {B : Nat} {n b p i : Int} (h : NumsAt W B n b p i) : W.cell? ⟨B, 0, none⟩ = some (.int .i64 n) ∧ W.cell? ⟨B, 1, none⟩ = some (.int .i64 b) := by
  constructor <;> (unfold World.cell?; rw [show W.heap[B]? = _ from h]; rfl)
theorem NumsAt.lt {W : World} {B : Nat} {n b p i : Int} (h : NumsAt W B n b p i) : B < W.heap.size := (Array.getElem?_eq_some_iff.1 h).1
theorem NumsAt.keep {W W' : World} {B : Nat} {n b p i : Int} (h : NumsAt W B n b p i) (hb : Below W.heap.size W W') : NumsAt W' B n b p i := (hb.block B h.lt).trans h
theorem joinV_cases (L : List Part) (b : Int) : (∃ k e, joinV L b = ([], k, e) ∧ e ≠ 0) ∨ (joinV L b = (catL L, 0, 0) ∧ okB b = true ∧ ∀ j, j < L.length → wrongL L b j = 0) := by
  by_cases hb : okB b = true
  · by_cases h : ∀ j, j < L.length → wrongL L b j = 0
    · exact .inr ⟨join_ok hb h, hb, h⟩
    · left
      have hx : ∃ k, k < L.length ∧ wrongL L b k ≠ 0 := by
        apply Classical.byContradiction
        intro hn
        exact h fun j hj => Classical.byContradiction fun h1 => hn ⟨j, hj, h1⟩
      have hm : ∀ n, (∃ k, k < n ∧ k < L.length ∧ wrongL L b k ≠ 0) → ∃ k, k < L.length ∧ wrongL L b k ≠ 0 ∧ ∀ j, j < k → wrongL L b j = 0 := by
        intro n
        induction n with
        | zero => rintro ⟨k, hk, _⟩; omega
        | succ n ih =>
          rintro ⟨k, hk, hkl, hw⟩
          by_cases hex : ∃ j, j < n ∧ j < L.length ∧ wrongL L b j ≠ 0
          · exact ih hex
          · exact ⟨k, hkl, hw, fun j hj => Classical.byContradiction fun h1 => hex ⟨j, by omega, by omega, h1⟩⟩
      obtain ⟨k, hk, hw⟩ := hx
      obtain ⟨k, hk, hw, hall⟩ := hm (k + 1) ⟨k, by omega, hk, hw⟩
      exact ⟨_, _, join_bad hb hk hall hw, hw⟩
  · exact .inl ⟨0, 7, join_no (by simpa using hb), by omega⟩

set_option maxRecDepth 100000 in
set_option maxHeartbeats 4000000 in
theorem walkB (cs : List UInt8) (hcl : cs.length ≤ 9223372036854775807) (v : Value) (L : List Part) (n b p i : Int) (w : World) (hv : Parts w v L) (hn : ∀ p ∈ L, numOk p) :
    Calls Tryd.prog 3 #[.string (str cs), v, .agg #[.int .i64 n, .int .i64 b, .int .i64 p, .int .i64 i]] w fun e w' => e = .returned (.bool true) ∧ Below w.heap.size w w' := by
  have hst := size_str cs
  obtain ⟨a, cap, rfl⟩ := Row.form2 hv
  have HV0 := Lib.hid (Row.below hv ((Below.refl w.heap.size w).alloc (Nat.le_refl _) (.cells #[.int .i64 n, .int .i64 b, .int .i64 p, .int .i64 i] 24)))
  have HB0 := Lib.hid ((Below.refl w.heap.size w).alloc (Nat.le_refl _) (.cells #[.int .i64 n, .int .i64 b, .int .i64 p, .int .i64 i] 24))
  have HH0 := Lib.hid (show NumsAt (w.alloc (.cells #[.int .i64 n, .int .i64 b, .int .i64 p, .int .i64 i] 24)) w.heap.size n b p i from heap_alloc_new w _)
  have hmax : L.length ≤ 9223372036854775807 := by have := hv.2.1; unfold maxLen at this; omega
  have HN := Lib.hid hn
  clear hv hn
  by_cases hlen : 1100 < cs.length
  · have t1 : (1100 : Int) < (cs.length : Int) := by omega
    go_enter Tryd.func3, Tryd.ntmps3
    go_wp2_with fail
    refine (awake_p _).mono ?_
    rintro e w1 ⟨rfl, hb1⟩
    go_wp2_with fail
    go_ret
    exact ⟨rfl, next HB0.out hb1⟩
  have t1 : ¬ (1100 : Int) < (cs.length : Int) := by omega
  go_enter Tryd.func3, Tryd.ntmps3
  go_wp2_with fail
  refine (far_l _ L _ HV0.out).mono ?_
  rintro e w1 ⟨rfl, hb1⟩
  have HB1 := Lib.hid (next HB0.out hb1)
  have HV1 := Lib.hid (Row.below HV0.out hb1)
  have HH1 := Lib.hid (HH0.out.keep hb1)
  clear hb1 HB0 HV0 HH0
  by_cases hf : farV L = true
  · rw [hf]
    clear hf
    go_wp2_with fail
    refine (awake_p _).mono ?_
    rintro e w2 ⟨rfl, hb2⟩
    go_wp2_with fail
    go_ret
    exact ⟨rfl, next HB1.out hb2⟩
  have hf' : farV L = false := by simpa using hf
  obtain ⟨hl70, hl40⟩ := far_no hf'
  have hok : ∀ p ∈ L, okPart p := fun p hp => ⟨Nat.le_trans (hl40 p hp) (by omega), HN.out p hp⟩
  have HOK := Lib.hid hok
  rw [hf']
  clear hf hf' hok hl40
  obtain ⟨c0, c1⟩ := HH1.out.cells
  have hlm : cs.length ≤ maxLen := by unfold maxLen; omega
  go_wp2_with fail
  refine (split_p cs b n _ hlm).mono ?_
  rintro e w2 ⟨sv, rfl, hown, hb2⟩
  have HP2 := Lib.hid (show Parts w2 sv (parts cs b n) from Row.of_owns hown)
  have HB2 := Lib.hid (next HB1.out hb2)
  have HV2 := Lib.hid (Row.below HV1.out hb2)
  have HH2 := Lib.hid (HH1.out.keep hb2)
  clear hb2 hown HB1 HV1 HH1 c0 c1
  obtain ⟨c0, c1⟩ := HH2.out.cells
  have rest : True := trivial
  clear rest
  by_cases hE : splitE cs.length b n = 0
  case' pos =>
    have hjp := join_parts cs b n hE
    have hpl : (parts cs b n).length ≤ 1000 ∧ ∀ p ∈ parts cs b n, okPart p := parts_ok cs b n hE
    rw [hE]
    have KJ := Lib.hid (fun w h => join_p sv (parts cs b n) b w h hpl.1 hpl.2)
    rw [hjp] at KJ
    obtain ⟨sa, sc, rfl⟩ := Row.form2 HP2.out
    clear hE hjp hpl
    go_wp2_with fail
    refine (KJ.out _ HP2.out).mono ?_
    rintro e w3 ⟨rfl, hb3⟩
    simp only
    have HB3 := Lib.hid (next HB2.out hb3)
    have HV3 := Lib.hid (Row.below HV2.out hb3)
    have HH3 := Lib.hid (HH2.out.keep hb3)
    clear hb3 HB2 HV2 HH2 c0 c1 KJ HP2
    obtain ⟨c0, c1⟩ := HH3.out.cells
    go_wp2_with fail
  case' neg =>
    have t2 : (splitE cs.length b n == 0) = false := beq_eq_false_iff_ne.2 hE
    obtain ⟨sa, sc, rfl⟩ := Row.form2 HP2.out
    generalize splitE cs.length b n = q at *
    clear hE HP2
    have HB3 := HB2
    have HV3 := HV2
    have HH3 := HH2
    clear HB2 HV2 HH2
    obtain ⟨w3, hw3⟩ : ∃ w3, w2 = w3 := ⟨_, rfl⟩
    subst hw3
    go_wp2_with fail
  all_goals
    clear c0 c1
    have KJ2 := Lib.hid (fun w h => join_p (.slice a L.length cap) L b w h (by omega) HOK.out)
    rcases joinV_cases L b with ⟨k, e, hj, he⟩ | ⟨hj, hbo, hall⟩
    · rw [hj] at KJ2
      have t3 : (e != 0) = true := bne_iff_ne.2 he
      have hz : str [] = ⟨#[]⟩ := rfl
      clear hj he
      refine (KJ2.out _ HV3.out).mono ?_
      rintro e w4 ⟨rfl, hb4⟩
      simp only [hz]
      have HB4 := Lib.hid (next HB3.out hb4)
      clear hb4 hz
      go_wp2_with fail
      refine (awake_p _).mono ?_
      rintro e w5 ⟨rfl, hb5⟩
      go_wp2_with fail
      go_ret
      exact ⟨rfl, next HB4.out hb5⟩
    · rw [hj] at KJ2
      obtain ⟨bn, rfl⟩ : ∃ bn : Nat, b = bn := ⟨b.toNat, by have := (okB_range hbo).1; omega⟩
      have hb1 : 1 ≤ bn := by have := (okB_range hbo).1; omega
      have HBK := Lib.hid (fun h0 h1 => back_split (L := L) (b := bn) hb1 hall (by omega) hbo h0 h1)
      have HW := Lib.hid hall
      have hcat : (catL L).length ≤ maxLen := by
        by_cases h0 : L.length = 0
        · obtain rfl := List.length_eq_zero_iff.1 h0
          simp [catL]
        · obtain ⟨e1, e2⟩ := back_total hb1 hall (by omega)
          unfold maxLen
          omega
      have HCT := Lib.hid hcat
      clear hj hall hcat
      refine (KJ2.out _ HV3.out).mono ?_
      rintro e w4 ⟨rfl, hb4⟩
      simp only
      have HB4 := Lib.hid (next HB3.out hb4)
      have HV4 := Lib.hid (Row.below HV3.out hb4)
      have HH4 := Lib.hid (HH3.out.keep hb4)
      clear hb4 HB3 HV3 HH3
      obtain ⟨c0, c1⟩ := HH4.out.cells
      by_cases h0 : L.length = 0
      · obtain rfl := List.length_eq_zero_iff.1 h0
        obtain ⟨hs, hp⟩ := HBK.out (by decide) (by decide)
        have KS := Lib.hid (fun w => split_p (catL []) bn 0 w HCT.out)
        rw [show ([].getD 0 noPart : Part).2.2 = 0 from rfl] at hs hp
        rw [hs, hp] at KS
        clear hs hp h0
        go_wp2_with fail
        refine (KS.out _).mono ?_
        rintro e w5 ⟨sv, rfl, hown, hb5⟩
        have HP5 := Lib.hid (show Parts w5 sv [] from Row.of_owns hown)
        have HB5 := Lib.hid (next HB4.out hb5)
        have HV5 := Lib.hid (Row.below HV4.out hb5)
        obtain ⟨sa, sc, rfl⟩ := Row.form2 HP5.out
        clear hown hb5 c0 c1
        go_wp2_with fail
        refine (same_r _ _ [] [] _ HP5.out HV5.out).mono ?_
        rintro e w6 ⟨rfl, hb6⟩
        rw [decide_eq_true rfl]
        have HB6 := Lib.hid (next HB5.out hb6)
        clear hb6
        go_wp2_with fail
        refine (awake_p _).mono ?_
        rintro e w7 ⟨rfl, hb7⟩
        go_wp2_with fail
        go_ret
        exact ⟨rfl, next HB6.out hb7⟩
      · have hl0 : (0 : Int) < (L.length : Int) := by omega
        obtain ⟨g, o, hga, hg, hc0, hc1, hc2⟩ := Parts.at HV4.out (show 0 < L.length by omega)
        subst hga
        obtain ⟨_, _, _, hf0, _⟩ := wrong_ok (show 0 < L.length by omega) (HW.out 0 (by omega))
        have eg : (L.getD 0 noPart).2.2 = (L[0]'(by omega)).2.2 := by
          rw [List.getD_eq_getElem?_getD, List.getElem?_eq_getElem (by omega)]; rfl
        rw [eg] at HBK
        clear eg hc0 hc1
        generalize (L[0]'(by omega)).2.2 = f at *
        rw [Nat.zero_mul, Nat.add_zero] at hc2
        by_cases hf6 : f ≤ 1000000
        · obtain ⟨hs, hp⟩ := HBK.out hf0 hf6
          have KS := Lib.hid (fun w => split_p (catL L) bn f w HCT.out)
          rw [hs, hp] at KS
          have t6 : ¬ 1000000 < f := by omega
          clear hs hp h0 hf6 HBK
          go_wp2_with fail
          refine (KS.out _).mono ?_
          rintro e w5 ⟨sv, rfl, hown, hb5⟩
          have HP5 := Lib.hid (show Parts w5 sv L from Row.of_owns hown)
          have HB5 := Lib.hid (next HB4.out hb5)
          have HV5 := Lib.hid (Row.below HV4.out hb5)
          obtain ⟨sa, sc, rfl⟩ := Row.form2 HP5.out
          clear hown hb5 c0 c1 hc2
          go_wp2_with fail
          refine (same_r _ _ L L _ HP5.out HV5.out).mono ?_
          rintro e w6 ⟨rfl, hb6⟩
          rw [decide_eq_true rfl]
          have HB6 := Lib.hid (next HB5.out hb6)
          clear hb6
          go_wp2_with fail
          refine (awake_p _).mono ?_
          rintro e w7 ⟨rfl, hb7⟩
          go_wp2_with fail
          go_ret
          exact ⟨rfl, next HB6.out hb7⟩
        · have t6 : 1000000 < f := by omega
          clear hf6 HBK h0
          go_wp2_with fail
          refine (awake_p _).mono ?_
          rintro e w5 ⟨rfl, hb5⟩
          go_wp2_with fail
          go_ret
          exact ⟨rfl, next HB4.out hb5⟩

theorem walk {H : Type} {enc : TypeId × Value → H} {d : DataW H} {q : List MemPlace} {base : Nat} (t : ByteArray) (v : Value) (cs : Array Value) (w : World) (hm : t.size ≤ maxLen)
    (hk : DataW.Trod enc Tryd.prog w 0 (fun _ => true) true 22 v d q) (hv : Value.okWide Tryd.prog w .any base 22 v)
    (hz : cs.size = [3, 3, 3, 3].length)
    (hc : ∀ (i : Nat) (u : TypeId) (x : Value), [3, 3, 3, 3][i]? = some u → cs[i]? = some x → Cell.okWide Tryd.prog w .any w.heap.size u x) :
    Calls Tryd.prog 3 #[.string t, v, .agg cs] w fun e w' => e = .returned (.bool true) ∧ Below w.heap.size w w' := by
  obtain ⟨m, hn⟩ := hk
  obtain ⟨a, len, cap, rfl⟩ := okWide_slice Tryd.underlying22 hv
  obtain ⟨L, hL, hnum⟩ := parts_of hn
  obtain ⟨x0, x1, x2, x3, rfl⟩ := cells4 hz
  obtain ⟨n, rfl, _⟩ := cell_int Tryd.underlying3 (hc 0 _ _ rfl rfl)
  obtain ⟨b, rfl, _⟩ := cell_int Tryd.underlying3 (hc 1 _ _ rfl rfl)
  obtain ⟨p, rfl, _⟩ := cell_int Tryd.underlying3 (hc 2 _ _ rfl rfl)
  obtain ⟨i, rfl, _⟩ := cell_int Tryd.underlying3 (hc 3 _ _ rfl rfl)
  obtain ⟨l, rfl⟩ : ∃ l : List UInt8, t = str l := ⟨t.data.toList, by simp [str]⟩
  exact walkB l (by rw [size_str] at hm; unfold maxLen at hm; omega) _ L n b p i w hL hnum

theorem own : ownKnob Tryd.prog.godebug = none := by kernel_rfl
theorem laidOut : laidOutB Tryd.prog = true := by kernel_rfl
abbrev laidL : List (String × DataW Unit) := [("unicode/utf8.acceptRanges", Rows.laid_unicode_utf8_acceptRanges), ("unicode/utf8.first", Rows.laid_unicode_utf8_first)]

set_option maxRecDepth 100000 in
theorem lifted (os : Os) (started : os.Started) (H : Type) (enc : TypeId × Value → H) :
    ReturnsInHanded {} Tryd.checked os 3 .any (fun w args => (Rows.blocksBackSpec.pre enc Tryd.prog Tryd.f3 [] false w args ∧ laidMetH Tryd.prog laidL w) ∧ sizedMet enc Tryd.prog Tryd.f3 (OpenSpec.ofChange Rows.blocksBackSpec) false w args) (Rows.blocksBackSpec.post enc Tryd.prog Tryd.f3 false true false false) := by
  refine returnsInHanded_of_change_and (C := Tryd.checked) (X := fun w _ => laidMetH Tryd.prog laidL w) (fun _ _ _ hh h => h.of_heap hh) own started (by kernel_rfl) Tryd.func3
    (ChangeSpec.witness_shaped (enc := enc) (C := Tryd.checked) (os := os) (X := fun w _ => laidMetH Tryd.prog laidL w) false (laidWorld os) #[.string .empty, .slice none 0 0, .agg #[.int .i64 0, .int .i64 0, .int .i64 0, .int .i64 0]] 8 rfl (World.shaped_of_RefB (by kernel_rfl) (by kernel_rfl)) (by kernel_rfl) (by kernel_rfl) (by kernel_rfl) (door_met os _)) ?_
  intro W base args ds gs before hval0 hW _ _ _ _
  have hval : ∀ (j : Nat) t v, Tryd.f3.params[j]? = some t → args[j]? = some v → Value.okWide Tryd.prog W .any base t v := hval0
  have hW' := hW
  obtain ⟨p, q, hA0, hV, rfl, hfz, hnd⟩ := hW
  have hA : DataW.TrodAll enc Tryd.prog W 0 (fun _ => true) true Tryd.f3.params.toList args.toList ds p := hA0
  rw [Tryd.params3] at hA hval
  obtain ⟨v0, vs0, d0, ds0, p0, q0, hargs, rfl, rfl, k0, r0⟩ := trodAll_cons hA
  obtain ⟨v1, vs1, d1, ds1, p1, q1, rfl, rfl, rfl, k1, r1⟩ := trodAll_cons r0
  obtain ⟨v2, vs2, d2, ds2, p2, q2, rfl, rfl, rfl, k2, r2⟩ := trodAll_cons r1
  obtain ⟨rfl, rfl, rfl⟩ := trodAll_nil r2
  obtain rfl : args = #[v0, v1, v2] := by cases args; simp_all
  obtain ⟨rfl, rfl⟩ := trodVars_none hV
  have lt0 : ∀ x ∈ p0, x.block < W.heap.size := by obtain ⟨m, hm⟩ := k0; exact DataW.trod_lt m _ _ _ hm
  have lt1 : ∀ x ∈ p1, x.block < W.heap.size := by obtain ⟨m, hm⟩ := k1; exact DataW.trod_lt m _ _ _ hm
  have lt2 : ∀ x ∈ p2, x.block < W.heap.size := by obtain ⟨m, hm⟩ := k2; exact DataW.trod_lt m _ _ _ hm
  obtain ⟨s0, rfl, m0⟩ := arg_string Tryd.underlying9 (hval 0 9 v0 rfl rfl)
  obtain ⟨c2, rfl, z2, g2⟩ := arg_agg (ts := [3, 3, 3, 3]) (by kernel_rfl) (by kernel_rfl) (by kernel_rfl) (hval 2 24 v2 rfl rfl)
  clear hA0 hval0
  refine (walk s0 v1 c2 W m0 k1 (hval 1 22 v1 rfl rfl) z2 g2).mono fun e W' ⟨he, bel⟩ => ?_
  subst he
  exact ⟨_, rfl, _, _, _, [], _, [], hW', trodAll_mk1 (shut_bool Tryd.underlying4 _), (trodAll_cons_mk (Below.trod laidOut (by kernel_rfl) (of_decide_eq_true (by kernel_rfl)) k0 bel lt0) (trodAll_cons_mk (Below.trod laidOut (by kernel_rfl) (of_decide_eq_true (by kernel_rfl)) k1 bel lt1) (trodAll_cons_mk (Below.trod laidOut (by kernel_rfl) (of_decide_eq_true (by kernel_rfl)) k2 bel lt2) trodAll_mk0))), rfl, bel.frame _, fun h => by cases h⟩

theorem over : Rows.blocksBackRow.holds Tryd.pinned (OpenSpec.ofChange Rows.blocksBackSpec) :=
  OpenClaim.holds_of_wide 3 Tryd.f3 rfl rfl rfl rfl rfl rfl rfl ⟨rfl, rfl, rfl, rfl, rfl⟩ rfl rfl rfl rfl rfl (by kernel_rfl) Tryd.func3 (by kernel_rfl)
    (of_decide_eq_true (by kernel_rfl)) (by unfold Func.isWrapper; first | (rw [if_pos (by decide +kernel)]; kernel_rfl) | (rw [if_neg (by decide +kernel)]; exact ⟨rfl, rfl⟩))
    (fun os started H enc _ => lifted os started H enc)

theorem proved : Rows.BlocksBackCardSaid :=
  Claim7.holds_tied_plain_at .later [] [.data, .pinned] true (true, "bb2bdf44fbfcb8064622bec54d6487936d9def301811342a99e7e446278b78f2") false
    over (fun _ h => by cases h) (by kernel_rfl) (fun _ h => by cases h) blocksBack_row_tie rfl ⟨rfl, rfl⟩ (by kernel_rfl) rfl
    (fun f fn hf hfn => by
      obtain rfl : f = 3 := Option.some.inj ((show Tryd.prog.funcNamed "dragnet/dragnetlaw27.BlocksBack" = some 3 by kernel_rfl).symm.trans hf) |>.symm
      obtain rfl : fn = Tryd.f3 := (Option.some.inj (Tryd.func3.symm.trans hfn)).symm
      exact ⟨by kernel_rfl, fun j t ht => by
        rw [Tryd.params3] at ht
        have hm : t ∈ ([9, 22, 24] : List Nat) := by simpa using Array.mem_of_getElem? ht
        have hall : (([9, 22, 24] : List Nat).all fun u => !Tryd.prog.wantsStandIn u) = true := by kernel_rfl
        exact (show Tryd.prog.wantsStandIn t = false by simpa using List.all_eq_true.1 hall t hm)⟩)
    (by kernel_rfl)
#print axioms proved
end Go.Proofs.YtfmngphmmhjicaaDoor.blocksBack
