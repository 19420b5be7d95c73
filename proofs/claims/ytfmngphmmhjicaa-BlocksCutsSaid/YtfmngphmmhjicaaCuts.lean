/- BlocksCuts: for every chunk and four numbers the law returns true and its arguments read as they did. No conditions. -/
import Derived.Test.YtfmngphmmhjicaaArgs
import Derived.Test.YtfmngphmmhjicaaBlkAwake
import Derived.Test.YtfmngphmmhjicaaBlkSplitR
import Derived.Deep.RegionHeld3
namespace Go.Proofs.Ytfmngphmmhjicaa.blocksCuts
open Go.ChangeShapes Go.WideShapes Go.ChangeAt Go.RowKit

theorem item_take {cs : List UInt8} {b m i : Nat} (h : m * b ≤ cs.length) (hi : i < m) : item (cs.take (m * b)) b i = item cs b i := by
  have h1 : i * b + b ≤ m * b := by rw [← Nat.succ_mul]; exact Nat.mul_le_mul_right b hi
  simp only [item, padTo, List.length_drop, List.length_take]
  rw [Nat.min_eq_left h, List.drop_take, List.take_take]
  congr 1
  · congr 1
    · congr 1; omega
    · congr 1; omega
  · omega
theorem item_drop {cs : List UInt8} {b m i : Nat} : item (cs.drop (m * b)) b i = item cs b (m + i) := by
  simp only [item, List.drop_drop, List.length_drop, Nat.add_mul]
  congr 1
  omega
theorem upTo_cut {cs : List UInt8} {b m n : Nat} {before : Int} (h : m * b ≤ cs.length) :
    upTo cs b before (m + n) = upTo (cs.take (m * b)) b before m ++ upTo (cs.drop (m * b)) b (before + (m * b : Nat)) n := by
  apply List.ext_getElem
  · simp [upTo]
  · intro i h1 h2
    simp only [upTo, List.getElem_map, List.getElem_range, List.getElem_append, List.length_map, List.length_range]
    split
    · rw [item_take h (by assumption)]
    · rename_i hlt
      rw [item_drop, show m + (i - m) = i by omega]
      congr 2
      rw [show i = m + (i - m) by omega, Nat.add_mul, Nat.add_sub_cancel_left]
      omega
theorem cut_many {l b m : Nat} (hb : 1 ≤ b) (h : m * b ≤ l) : (l + b - 1) / b = m + (l - m * b + b - 1) / b := by
  rw [show l + b - 1 = (l - m * b + b - 1) + m * b by omega, Nat.add_mul_div_right _ _ (by omega)]
  omega
theorem cut_parts {cs : List UInt8} {b m : Nat} {before : Int} (hs : splitE cs.length b before = 0) (h : m * b ≤ cs.length) (h2 : before + (m * b : Nat) ≤ 1000000) :
    splitE (cs.take (m * b)).length b before = 0 ∧ splitE (cs.drop (m * b)).length b (before + (m * b : Nat)) = 0 ∧
    parts cs b before = parts (cs.take (m * b)) b before ++ parts (cs.drop (m * b)) b (before + (m * b : Nat)) := by
  obtain ⟨h1, h3, h4⟩ := splitE_zero hs
  obtain ⟨hok, h5, h6⟩ := lenE_zero h1
  have hb1 : 1 ≤ b := by rcases okB_cases hok with h | h | h | h | h <;> omega
  have e1 : splitE (cs.take (m * b)).length b before = 0 := by
    unfold splitE
    rw [if_pos (lenE_ok hok (by omega) (by simp; omega)), if_neg (by omega)]
  have e2 : splitE (cs.drop (m * b)).length b (before + (m * b : Nat)) = 0 := by
    unfold splitE
    rw [if_pos (lenE_ok hok (by omega) (by simp; omega)), if_neg (by omega)]
  refine ⟨e1, e2, ?_⟩
  have p0 : parts cs b before = upTo cs b before ((cs.length + b - 1) / b) := by simp only [parts, hs, if_true, Int.toNat_natCast]; exact parts_upTo hb1
  have p1 : parts (cs.take (m * b)) b before = upTo (cs.take (m * b)) b before m := by
    simp only [parts, e1, if_true, Int.toNat_natCast]
    rw [parts_upTo hb1]
    congr 1
    rw [List.length_take, Nat.min_eq_left h]
    have := cut_many (l := m * b) hb1 (Nat.le_refl _)
    rw [this, Nat.sub_self, Nat.zero_add, Nat.div_eq_of_lt (by omega), Nat.add_zero]
  have p2 : parts (cs.drop (m * b)) b (before + (m * b : Nat)) = upTo (cs.drop (m * b)) b (before + (m * b : Nat)) ((cs.length - m * b + b - 1) / b) := by
    simp only [parts, e2, if_true, Int.toNat_natCast]
    rw [parts_upTo hb1, List.length_drop]
  rw [p0, p1, p2, cut_many hb1 h, upTo_cut h]

theorem pcells_append (a b : List Part) : pcells (a ++ b) = pcells a ++ pcells b := by simp [pcells]
theorem pcells_one (a : List Part) : ∀ u ∈ pcells a, u.oneCell' = true := by
  intro u hu
  simp only [pcells, List.mem_flatMap, pcell, List.mem_cons, List.not_mem_nil, or_false] at hu
  obtain ⟨p, _, rfl | rfl | rfl⟩ := hu <;> rfl

theorem mod70 (p : Int) : ∃ m : Nat, m < 70 ∧ wrap64 ((IntKind.u64.wrap p).tmod 70) = (m : Int) := by
  have h0 : 0 ≤ IntKind.u64.wrap p := by rw [IntKind.wrap_u64]; omega
  rw [Int.tmod_eq_emod_of_nonneg h0]
  refine ⟨(IntKind.u64.wrap p % 70).toNat, by omega, ?_⟩
  rw [IntWalk.wrap64_in _ ⟨by omega, by omega⟩]
  omega

set_option maxRecDepth 100000 in
set_option maxHeartbeats 2000000 in
theorem cut_ok (cs : List UInt8) (n b p i : Int) (w : World) (hm : cs.length ≤ maxLen) (hl : ¬ 1100 < cs.length) (hp1 : -9223372036854775808 ≤ p) (hp2 : p ≤ 9223372036854775807) (hs : splitE cs.length b n = 0) :
    Calls Try.prog 4 #[.string (str cs), .agg #[.int .i64 n, .int .i64 b, .int .i64 p, .int .i64 i]] w fun e w' => e = .returned (.bool true) ∧ Below w.heap.size w w' := by
  have hss := size_str cs
  have HM := Lib.hid hm
  clear hm
  obtain ⟨h1, h2, h3⟩ := splitE_zero hs
  obtain ⟨hok, h5, h6⟩ := lenE_zero h1
  obtain ⟨b', hb', hb1, hb2⟩ : ∃ b' : Nat, b = b' ∧ 1 ≤ b' ∧ b' ≤ 16 := by rcases okB_cases hok with h | h | h | h | h <;> exact ⟨b.toNat, by omega, by omega, by omega⟩
  subst hb'
  obtain ⟨m, hm70, hM⟩ := mod70 p
  obtain ⟨A, hA⟩ : ∃ A : Nat, A = m * b' := ⟨_, rfl⟩
  have hA2 : (m : Int) * (b' : Int) = (A : Int) := by rw [hA]; norm_cast
  have hA3 : A ≤ 1120 := by
    have : m * b' ≤ 70 * 16 := Nat.mul_le_mul (by omega) hb2
    omega
  have HA := Lib.hid hA
  clear hA h1 hok h5 hp1 hp2
  by_cases g1 : cs.length < A
  ·   go_enter Try.func4, Try.ntmps4
      go_wp2_with fail
      refine (split_p cs b' n _ HM.out).mono ?_
      rintro e w1 ⟨v1, rfl, hown1, hb1⟩
      rw [hs]
      have c0 := hb1.cell (p := ⟨w.heap.size, 0, none⟩) (by simp)
      have c1 := hb1.cell (p := ⟨w.heap.size, 1, none⟩) (by simp)
      have c2 := hb1.cell (p := ⟨w.heap.size, 2, none⟩) (by simp)
      have HO1 := Lib.hid hown1
      have HB1 := Lib.hid (next ((Below.refl _ _).alloc (Nat.le_refl _) _) hb1)
      have z1 : w.heap.size < w1.heap.size := by have := hb1.size; simp at this; omega
      clear hown1 hb1
      go_wp2_with fail
      refine (awake_p _).mono ?_
      rintro e w2 ⟨rfl, hb2⟩
      have HB2 := Lib.hid hb2
      clear hb2
      go_wp2_with fail
      go_ret
      exact ⟨rfl, next HB1.out HB2.out⟩
  · by_cases g2 : 1000000 < n + A
    · go_enter Try.func4, Try.ntmps4
      go_wp2_with fail
      refine (split_p cs b' n _ HM.out).mono ?_
      rintro e w1 ⟨v1, rfl, hown1, hb1⟩
      rw [hs]
      have c0 := hb1.cell (p := ⟨w.heap.size, 0, none⟩) (by simp)
      have c1 := hb1.cell (p := ⟨w.heap.size, 1, none⟩) (by simp)
      have c2 := hb1.cell (p := ⟨w.heap.size, 2, none⟩) (by simp)
      have HO1 := Lib.hid hown1
      have HB1 := Lib.hid (next ((Below.refl _ _).alloc (Nat.le_refl _) _) hb1)
      have z1 : w.heap.size < w1.heap.size := by have := hb1.size; simp at this; omega
      clear hown1 hb1
      go_wp2_with fail
      refine (awake_p _).mono ?_
      rintro e w2 ⟨rfl, hb2⟩
      have HB2 := Lib.hid hb2
      clear hb2
      go_wp2_with fail
      go_ret
      exact ⟨rfl, next HB1.out HB2.out⟩
    · have hx1 : (str cs).extract 0 A = str (cs.take A) := by rw [extract_str]; simp
      have hx2 : (str cs).extract A cs.length = str (cs.drop A) := str_drop _ _ _ (Nat.le_refl _)
      have hcut := cut_parts (b := b') (m := m) (before := n) hs (by rw [← HA.out]; omega) (by rw [← HA.out]; omega)
      rw [← HA.out] at hcut
      obtain ⟨hc1, hc2, hc3⟩ := hcut
      have HC1 := Lib.hid hc1
      have HC2 := Lib.hid hc2
      have HC3 := Lib.hid hc3
      clear hc1 hc2 hc3
      have j0 : (0 : Int) ≤ (A : Int) := by omega
      have j1 : (A : Int) ≤ (cs.length : Int) := by omega
      go_enter Try.func4, Try.ntmps4
      go_wp2_with fail
      refine (split_p cs b' n _ HM.out).mono ?_
      rintro e w1 ⟨v1, rfl, hown1, hb1⟩
      rw [hs]
      have c0 := hb1.cell (p := ⟨w.heap.size, 0, none⟩) (by simp)
      have c1 := hb1.cell (p := ⟨w.heap.size, 1, none⟩) (by simp)
      have c2 := hb1.cell (p := ⟨w.heap.size, 2, none⟩) (by simp)
      have HO1 := Lib.hid hown1
      have HB1 := Lib.hid (next ((Below.refl _ _).alloc (Nat.le_refl _) _) hb1)
      have z1 : w.heap.size < w1.heap.size := by have := hb1.size; simp at this; omega
      clear hown1 hb1
      go_wp2_with fail
      go_region_held3 (fun w' => w'.cell? ⟨w.heap.size, 0, none⟩ = some (.int .i64 n) ∧ w'.cell? ⟨w.heap.size, 1, none⟩ = some (.int .i64 b')) (go_keep) (first | (go_at_call 10; refine (split_p (cs.take A) b' n _ (by have := HM.out; simp; omega)).mono ?_; rintro e w2 ⟨v2, rfl, hown2, hb2⟩; rw [HC1.out]; have c3 := hb2.cell (p := ⟨w.heap.size, 0, none⟩) (by simpa using z1); have c4 := hb2.cell (p := ⟨w.heap.size, 1, none⟩) (by simpa using z1); have HO2 := Lib.hid hown2; have z2 := Nat.lt_of_lt_of_le z1 (show w1.heap.size ≤ w2.heap.size by simpa using hb2.size); have HB2 := Lib.hid hb2; clear hown2 hb2))
      go_wp2_with fail
      have hwr : IntKind.i64.wrap (n + (A : Int)) = n + (A : Int) := IntWalk.i64_in _ (by omega)
      go_region_held3 (fun w' => w'.cell? ⟨w.heap.size, 0, none⟩ = some (.int .i64 n) ∧ w'.cell? ⟨w.heap.size, 1, none⟩ = some (.int .i64 b')) (go_keep) (first | (go_at_call 10; refine (split_p (cs.drop A) b' (n + A) _ (by have := HM.out; simp; omega)).mono ?_; rintro e w3 ⟨v3, rfl, hown3, hb3⟩; rw [HC2.out]; have c5 := hb3.cell (p := ⟨w.heap.size, 0, none⟩) (by simpa using z2); have c6 := hb3.cell (p := ⟨w.heap.size, 1, none⟩) (by simpa using z2); have HO3 := Lib.hid hown3; have HB3 := Lib.hid hb3; clear hown3 hb3))
      clear hwr
      have hb3 : Below w2.heap.size w2 w3 := next ((Below.refl _ w2).drew) HB3.out
      have hb2 : Below w1.heap.size w1 w2 := next ((Below.refl _ w1).drew) HB2.out
      have R1 : Parts w3 v1 (parts cs b' n) := ((Row.of_owns HO1.out).below hb2).below hb3
      have R2 : Parts w3 v2 (parts (cs.take A) b' n) := (Row.of_owns HO2.out).below hb3
      have R3 : Parts w3 v3 (parts (cs.drop A) b' (n + A)) := Row.of_owns HO3.out
      have hW := next HB1.out (next hb2 hb3)
      have hn1 : (parts (cs.take A) b' n).length + (parts (cs.drop A) b' (n + A)).length ≤ 1100 := by
        rw [← List.length_append, ← HC3.out]
        have e := items_le (cs := cs) (b := b') hb1 (by omega)
        simp only [parts, hs, if_true, length_mkParts, Int.toNat_natCast]
        omega
      have al : Below w3.heap.size w3 (w3.alloc (.cells #[] 36)) := (Below.refl _ _).alloc (Nat.le_refl _) _
      obtain ⟨i0, hi, hz0, hz1, hz2⟩ := info_parts infoPart
      have o0 : (w3.alloc (.cells #[] 36)).ownsRow w3.heap.size 36 3 (.slice (some ⟨w3.heap.size, 0, none⟩) 0 0) 0 [] := World.ownsRow_lit w3 #[] 0 (Nat.le_refl _) (by decide) rfl
      obtain ⟨va, wa, hra, hoa, hga⟩ := append_row (P := Try.prog) w3.heap.size 23 23 36 Try.underlying23 hi hz0 hz1 hz2 rfl (by decide) o0 (R2.below al) (pcells_one _) (by unfold maxLen; omega) (by omega) (by simp)
      have ala : Below w3.heap.size w3 wa := al.grown hga (by simp) (fun k e => by simp [Value.ownBlock] at e; omega)
      obtain ⟨vb, wb, hrb, hob, hgb⟩ := append_row (P := Try.prog) w3.heap.size 23 23 36 Try.underlying23 hi hz0 hz1 hz2 rfl (by decide) hoa (R3.below ala) (pcells_one _) (by unfold maxLen; omega) (by omega) ala.size
      have alb : Below w3.heap.size w3 wb := ala.grown hgb ala.size (fun k e => (hoa.lt k e).1)
      have R4 : Parts wb vb (parts cs b' n) := by
        have := Row.of_owns hob
        rw [List.nil_append, ← pcells_append, Nat.zero_add, ← List.length_append, ← HC3.out] at this
        exact this
      have H4 := Lib.hid R4
      have H1 := Lib.hid (show Parts wb v1 (parts cs b' n) from R1.below alb)
      have HW := Lib.hid (next hW alb)
      clear R1 R2 R3 R4 hW al ala alb o0 hoa hga hob hgb hb2 hb3 hn1 hi hz0 hz1 hz2 c0 c1 c2 c3 c4 c5 c6 hx1 hx2 hM hA2
      have HRA := Lib.hid hra
      have HRB := Lib.hid hrb
      clear hra hrb
      go_wp2_with (first | (at_builtin; refine wpList_append_run rfl rfl rfl rfl HRA.out ?_) | (at_builtin; refine wpList_append_run rfl rfl rfl rfl HRB.out ?_))
      refine (same_r vb v1 _ _ _ H4.out H1.out).mono ?_
      rintro e w5 ⟨rfl, hb5⟩
      have HB5 := Lib.hid (next HW.out hb5)
      clear hb5
      rw [show decide (parts cs b' n = parts cs b' n) = true from by simp]
      go_wp2_with fail
      refine (awake_p _).mono ?_
      rintro e w6 ⟨rfl, hb6⟩
      have HB6 := Lib.hid (next HB5.out hb6)
      clear hb6
      go_wp2_with fail
      go_ret
      exact ⟨rfl, HB6.out⟩

set_option maxRecDepth 100000 in
set_option maxHeartbeats 2000000 in
theorem walk4 (cs : List UInt8) (n b p i : Int) (w : World) (hm : cs.length ≤ maxLen) (hp1 : -9223372036854775808 ≤ p) (hp2 : p ≤ 9223372036854775807) :
    Calls Try.prog 4 #[.string (str cs), .agg #[.int .i64 n, .int .i64 b, .int .i64 p, .int .i64 i]] w fun e w' => e = .returned (.bool true) ∧ Below w.heap.size w w' := by
  have hss := size_str cs
  by_cases hl : 1100 < cs.length
  · unfold maxLen at hm
    go_enter Try.func4, Try.ntmps4
    go_wp2_with fail
    refine (awake_p _).mono ?_
    rintro e w1 ⟨rfl, hb⟩
    have HB := Lib.hid hb
    clear hb
    go_wp2_with fail
    go_ret
    exact ⟨rfl, next ((Below.refl _ _).alloc (Nat.le_refl _) _) HB.out⟩
  · have HM := Lib.hid hm
    clear hm
    by_cases hs : splitE cs.length b n = 0
    · exact cut_ok cs n b p i w HM.out hl hp1 hp2 hs
    · go_enter Try.func4, Try.ntmps4
      go_wp2_with fail
      refine (split_p cs b n _ HM.out).mono ?_
      rintro e w1 ⟨v1, rfl, hown1, hb1⟩
      have e1 : parts cs b n = [] := by simp [parts, hs]
      rw [e1] at hown1
      obtain ⟨a1, c1, rfl⟩ : ∃ a1 c1, v1 = .slice a1 0 c1 := by
        obtain ⟨_, _, a1, c1, e, _⟩ := Row.of_owns hown1
        exact ⟨a1, c1, e⟩
      have HB1 := Lib.hid hb1
      clear hown1 hb1 e1
      generalize splitE cs.length b n = er at hs ⊢
      have he : (er != 0) = true := bne_iff_ne.2 hs
      clear hs
      go_wp2_with fail
      refine (awake_p _).mono ?_
      rintro e w2 ⟨rfl, hb2⟩
      have HB2 := Lib.hid hb2
      clear hb2
      go_wp2_with fail
      go_ret
      exact ⟨rfl, next (next ((Below.refl _ _).alloc (Nat.le_refl _) _) HB1.out) HB2.out⟩

theorem walk (s : ByteArray) (cs : Array Value) (w : World) (hm : s.size ≤ maxLen) (hz : cs.size = [3, 3, 3, 3].length)
    (hc : ∀ (i : Nat) (u : TypeId) (x : Value), [3, 3, 3, 3][i]? = some u → cs[i]? = some x → Cell.okWide Try.prog w .any w.heap.size u x) :
    Calls Try.prog 4 #[.string s, .agg cs] w fun e w' => e = .returned (.bool true) ∧ Below w.heap.size w w' := by
  obtain ⟨l, rfl⟩ : ∃ l, s = str l := ⟨s.data.toList, (str_data s).symm⟩
  rw [size_str] at hm
  obtain ⟨x0, x1, x2, x3, rfl⟩ := cells4 hz
  obtain ⟨n, rfl, _⟩ := cell_int Try.underlying3 (hc 0 _ _ rfl rfl)
  obtain ⟨b, rfl, _⟩ := cell_int Try.underlying3 (hc 1 _ _ rfl rfl)
  obtain ⟨p, rfl, hp⟩ := cell_int Try.underlying3 (hc 2 _ _ rfl rfl)
  obtain ⟨i, rfl, _⟩ := cell_int Try.underlying3 (hc 3 _ _ rfl rfl)
  obtain ⟨hp1, hp2⟩ := has_i64 hp
  exact walk4 l n b p i w hm hp1 hp2

theorem own : ownKnob Try.prog.godebug = none := by kernel_rfl
theorem laidOut : laidOutB Try.prog = true := by kernel_rfl

set_option maxRecDepth 100000 in
theorem lifted (os : Os) (started : os.Started) (H : Type) (enc : TypeId × Value → H) :
    ReturnsInHanded {} Try.checked os 4 .any (Rows.blocksCutsSpec.pre6 enc Try.prog Try.f4 Rows.blocksCutsRow.domain false) (Rows.blocksCutsSpec.post enc Try.prog Try.f4 false true false false) := by
  refine returnsInHanded_of_change (C := Try.checked) own started (by kernel_rfl) Try.func4
    (ChangeSpec.witness6 (enc := enc) (C := Try.checked) false ⟨#[], #[.string .empty, .agg #[.int .i64 0, .int .i64 0, .int .i64 0, .int .i64 0]], []⟩ 8 (by kernel_rfl) (by kernel_rfl) (by kernel_rfl) (by kernel_rfl)) ?_
  intro W base args ds gs before hval0 hW hcnd _
  have hval : ∀ (j : Nat) t v, Try.f4.params[j]? = some t → args[j]? = some v → Value.okWide Try.prog W .any base t v := hval0
  have hW' := hW
  obtain ⟨p, q, hA0, hV, rfl, hfz, hnd⟩ := hW
  have hA : DataW.TrodAll enc Try.prog W 0 (fun _ => true) true Try.f4.params.toList args.toList ds p := hA0
  rw [Try.params4] at hA hval
  obtain ⟨v0, vs0, d0, ds0, p0, q0, hargs, rfl, rfl, k0, r0⟩ := trodAll_cons hA
  obtain ⟨v1, vs1, d1, ds1, p1, q1, rfl, rfl, rfl, k1, r1⟩ := trodAll_cons r0
  obtain ⟨rfl, rfl, rfl⟩ := trodAll_nil r1
  obtain rfl : args = #[v0, v1] := by cases args; simp_all
  obtain ⟨rfl, rfl⟩ := trodVars_none hV
  have lt0 : ∀ x ∈ p0, x.block < W.heap.size := by obtain ⟨m, hm⟩ := k0; exact DataW.trod_lt m _ _ _ hm
  have lt1 : ∀ x ∈ p1, x.block < W.heap.size := by obtain ⟨m, hm⟩ := k1; exact DataW.trod_lt m _ _ _ hm
  obtain ⟨s0, rfl, m0⟩ := arg_string Try.underlying9 (hval 0 9 v0 rfl rfl)
  obtain ⟨c1, rfl, z1, g1⟩ := arg_agg (ts := [3, 3, 3, 3]) (by kernel_rfl) (by kernel_rfl) (by kernel_rfl) (hval 1 30 v1 rfl rfl)
  clear hA0 hval0
  refine (walk s0 c1 W m0 z1 g1).mono fun e W' ⟨he, bel⟩ => ?_
  subst he
  exact ⟨_, rfl, _, _, _, [], _, [], hW', trodAll_mk1 (shut_bool Try.underlying4 _), (trodAll_cons_mk (Below.trod laidOut (by kernel_rfl) (of_decide_eq_true (by kernel_rfl)) k0 bel lt0) (trodAll_cons_mk (Below.trod laidOut (by kernel_rfl) (of_decide_eq_true (by kernel_rfl)) k1 bel lt1) trodAll_mk0)), rfl, bel.frame _, fun h => by cases h⟩

theorem over : Rows.blocksCutsRow.holds Try.pinned (OpenSpec.ofChange Rows.blocksCutsSpec) :=
  OpenClaim.holds_of_wide 4 Try.f4 rfl rfl rfl rfl rfl rfl rfl ⟨rfl, rfl, rfl, rfl, rfl⟩ rfl rfl rfl rfl rfl (by kernel_rfl) Try.func4 (by kernel_rfl)
    (of_decide_eq_true (by kernel_rfl)) (by unfold Func.isWrapper; first | (rw [if_pos (by decide +kernel)]; kernel_rfl) | (rw [if_neg (by decide +kernel)]; exact ⟨rfl, rfl⟩))
    (fun os started H enc _ => lifted os started H enc)

theorem proved : Rows.BlocksCutsSaid := over
#print axioms proved
end Go.Proofs.Ytfmngphmmhjicaa.blocksCuts
