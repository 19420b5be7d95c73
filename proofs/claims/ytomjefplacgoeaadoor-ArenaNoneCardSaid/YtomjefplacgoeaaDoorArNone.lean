/- ArenaNone: arenas that are nil, or were not returned by New. -/
import Derived.Test.YtomjefplacgoeaaDoorArNil
import Derived.Test.YtomjefplacgoeaaDoorDLaid
import Derived.Test.YtomjefplacgoeaaDoorTie
import Derived.Test.YtomjefplacgoeaaDoorCards
import Derived.SevenTiedAt
namespace Go.Proofs.YtomjefplacgoeaaDoor.arenaNone
open Go.ChangeShapes Go.WideShapes Go.ChangeAt Go.RowKit Go.Sort

theorem find_nil2 {w : World} {a : Value} (s : ByteArray) (h : NoA w a) :
    Calls Tryd.prog 18 #[a, .string s] w fun e w' => e = .returned (.tuple #[.agg #[.string (str []), .int .i64 0, .int .i64 0], .int .i64 1]) ∧ Below w.heap.size w w' := find_nil s h
set_option maxRecDepth 100000 in
set_option maxHeartbeats 20000000 in
theorem walkK (x : Cl) (w : World) (hok : x.ok) :
    Calls Tryd.prog 9 #[.agg #[.int .u8 (x.what : Int), .int .i64 x.at', .int .i64 x.n, .int .u64 (x.v : Int), .string (str x.name)]] w fun e w' => e = .returned (.bool true) ∧ Below w.heap.size w w' := by
  obtain ⟨o1, o2, o3, o4⟩ := hok
  have hz : (str x.name).size = x.name.length := size_str _
  have hal : (w.alloc (.cells #[.int .u8 (x.what : Int), .int .i64 x.at', .int .i64 x.n, .int .u64 (x.v : Int), .string (str x.name)] 33)).heap[w.heap.size]? = _ := heap_alloc_new _ _
  have HB0 := Lib.hid ((Below.refl w.heap.size w).alloc (Nat.le_refl _) (.cells #[.int .u8 (x.what : Int), .int .i64 x.at', .int .i64 x.n, .int .u64 (x.v : Int), .string (str x.name)] 33))
  by_cases hn : 100 < x.name.length
  · have t1 : (100 : Int) < (x.name.length : Int) := by omega
    go_enter Tryd.func9, Tryd.ntmps9
    go_wp2_with fail
    refine (awake_p _).mono ?_
    rintro e w2 ⟨rfl, hb2⟩
    go_wp2_with fail
    go_ret
    exact ⟨rfl, HB0.out.trans (hb2.mono HB0.out.size)⟩
  · have t1 : ¬ (100 : Int) < (x.name.length : Int) := by omega
    have HAL := Lib.hid hal
    clear hal
    go_enter Tryd.func9, Tryd.ntmps9
    go_wp2_with fail
    generalize hW : w.alloc (.cells #[.int .u8 (x.what : Int), .int .i64 x.at', .int .i64 x.n, .int .u64 (x.v : Int), .string (str x.name)] 33) = w0 at *
    have hX0 : w.heap.size < w0.heap.size := by rw [← hW]; simp
    have HX := Lib.hid (fun v (hb : Below w0.heap.size w0 v) => have hXc := (hb.block _ hX0).trans HAL.out
      (show v.cell? ⟨w.heap.size, 1, none⟩ = some (.int .i64 x.at') ∧ v.cell? ⟨w.heap.size, 2, none⟩ = some (.int .i64 x.n) ∧ v.cell? ⟨w.heap.size, 3, none⟩ = some (.int .u64 (x.v : Int)) ∧ v.cell? ⟨w.heap.size, 4, none⟩ = some (.string (str x.name)) from ⟨cell_in hXc rfl, cell_in hXc rfl, cell_in hXc rfl, cell_in hXc rfl⟩))
    clear hW hX0
    go_loopw [3] (fun iv wr => ∃ i : Nat, i ≤ 2 ∧ iv = .int .i64 (i : Nat) ∧ Below w0.heap.size w0 wr) (fun iv _ => 2 - (intOf iv).toNat)
    case atStart => exact ⟨0, by omega, rfl, Below.refl _ _⟩
    case round =>
      obtain ⟨i, hi, rfl, hB⟩ := hrel
      have HB := Lib.hid hB
      clear hB
      have wi1 : IntKind.i64.wrap ((i : Int) + 1) = (i : Int) + 1 := IntWalk.i64_in _ (by omega)
      by_cases hlt : i < 2
      · have i2 : (i : Int) < 2 := by omega
        by_cases h1 : i = 1
        · have t2 : ((i : Int) == 1) = true := beq_iff_eq.2 (by omega)
          have hz : (wr.alloc (.cells #[.slice none 0 0, .int .i64 0, .slice none 0 0, .slice none 0 0, .nilFunc] 70)).heap[wr.heap.size]? = _ := heap_alloc_new _ _
          have HBa := Lib.hid (next HB.out ((Below.refl wr.heap.size wr).alloc (Nat.le_refl _) (.cells #[.slice none 0 0, .int .i64 0, .slice none 0 0, .slice none 0 0, .nilFunc] 70)))
          have HNA := Lib.hid (noA_zero _ _ hz)
          clear hz h1
          have K1 := Lib.hid (region_nil (str x.name) x.n HNA.out)
          obtain ⟨x1, x2, x3, x4⟩ := HX.out _ HBa.out
          clear x1 x3
          go_wp2_with fail
          refine K1.out.mono ?_
          rintro e v1 ⟨rfl, hb⟩
          have HB1 := Lib.hid (next HBa.out hb)
          have HN1 := Lib.hid (HNA.out.below hb)
          have K2 := Lib.hid (find_nil2 (str x.name) HN1.out)
          obtain ⟨y1, y2, y3, y4⟩ := HX.out _ HB1.out
          clear hb x2 x4 K1 y1 y2 y3
          go_wp2_with fail
          refine K2.out.mono ?_
          rintro e v2 ⟨rfl, hb⟩
          have hal := (Below.refl v2.heap.size v2).alloc (Nat.le_refl _) (.cells #[.string (str []), .int .i64 0, .int .i64 0] 43)
          have HB2 := Lib.hid (next (next HB1.out hb) hal)
          have HN2 := Lib.hid ((HN1.out.below hb).below hal)
          have K3 := Lib.hid (load_nil x.at' HN2.out)
          obtain ⟨z1, z2, z3, z4⟩ := HX.out _ HB2.out
          clear hb y4 K2 z2 z3 z4 hal
          go_wp2_with fail
          refine K3.out.mono ?_
          rintro e v3 ⟨rfl, hb⟩
          have HB3 := Lib.hid (next HB2.out hb)
          have HN3 := Lib.hid (HN2.out.below hb)
          have K4 := Lib.hid (since_nil x.n HN3.out)
          obtain ⟨y1, y2, y3, y4⟩ := HX.out _ HB3.out
          clear hb z1 K3 y1 y3 y4
          go_wp2_with fail
          refine K4.out.mono ?_
          rintro e v4 ⟨rfl, hb⟩
          have HB4 := Lib.hid (next HB3.out hb)
          have HN4 := Lib.hid (HN3.out.below hb)
          clear hb y2 K4
          have K := Lib.hid (store_nil x.at' x.v HN4.out)
          obtain ⟨z1, z2, z3, z4⟩ := HX.out _ HB4.out
          go_wp2_with fail
          refine K.out.mono ?_
          rintro e v5 ⟨rfl, hb⟩
          have HB5 := Lib.hid (next HB4.out hb)
          have HN5 := Lib.hid (HN4.out.below hb)
          clear hb K z1 z2 z3 z4
          have K := Lib.hid (has_nil x.at' x.n HN5.out)
          obtain ⟨z1, z2, z3, z4⟩ := HX.out _ HB5.out
          go_wp2_with fail
          refine K.out.mono ?_
          rintro e v6 ⟨rfl, hb⟩
          have HB6 := Lib.hid (next HB5.out hb)
          have HN6 := Lib.hid (HN5.out.below hb)
          clear hb K z1 z2 z3 z4
          have K := Lib.hid (room_nil x.n HN6.out)
          obtain ⟨z1, z2, z3, z4⟩ := HX.out _ HB6.out
          go_wp2_with fail
          refine K.out.mono ?_
          rintro e v7 ⟨rfl, hb⟩
          have HB7 := Lib.hid (next HB6.out hb)
          have HN7 := Lib.hid (HN6.out.below hb)
          clear hb K z1 z2 z3 z4
          have K := Lib.hid (forget_nil HN7.out)
          go_wp2_with fail
          refine K.out.mono ?_
          rintro e v8 ⟨rfl, hb⟩
          have HB8 := Lib.hid (next HB7.out hb)
          have HN8 := Lib.hid (HN7.out.below hb)
          clear hb K
          have K := Lib.hid (steps_nil HN8.out)
          go_wp2_with fail
          refine K.out.mono ?_
          rintro e v9 ⟨rfl, hb⟩
          have HB9 := Lib.hid (next HB8.out hb)
          have HN9 := Lib.hid (HN8.out.below hb)
          clear hb K
          have K := Lib.hid (events_nil HN9.out)
          go_wp2_with fail
          refine K.out.mono ?_
          rintro e v10 ⟨rfl, hb⟩
          have HB10 := Lib.hid (next HB9.out hb)
          have HN10 := Lib.hid (HN9.out.below hb)
          clear hb K
          have K := Lib.hid (cells_nil HN10.out)
          go_wp2_with fail
          refine K.out.mono ?_
          rintro e v11 ⟨rfl, hb⟩
          have HB11 := Lib.hid (next HB10.out hb)
          have HN11 := Lib.hid (HN10.out.below hb)
          clear hb K
          have K := Lib.hid (regions_nil HN11.out)
          go_wp2_with fail
          refine K.out.mono ?_
          rintro e v12 ⟨rfl, hb⟩
          have HB12 := Lib.hid (next HB11.out hb)
          have HN12 := Lib.hid (HN11.out.below hb)
          clear hb K
          go_wp2_with fail
          exact ⟨⟨i + 1, by omega, by go_num, HB12.out⟩, by simp [intOf]; omega⟩
        · have t2 : ((i : Int) == 1) = false := beq_eq_false_iff_ne.2 (by omega)
          have HBa := HB
          have HNA := Lib.hid (noA_nil wr)
          have K1 := Lib.hid (region_nil (str x.name) x.n HNA.out)
          obtain ⟨x1, x2, x3, x4⟩ := HX.out _ HBa.out
          clear x1 x3
          go_wp2_with fail
          refine K1.out.mono ?_
          rintro e v1 ⟨rfl, hb⟩
          have HB1 := Lib.hid (next HBa.out hb)
          have HN1 := Lib.hid (HNA.out.below hb)
          have K2 := Lib.hid (find_nil2 (str x.name) HN1.out)
          obtain ⟨y1, y2, y3, y4⟩ := HX.out _ HB1.out
          clear hb x2 x4 K1 y1 y2 y3
          go_wp2_with fail
          refine K2.out.mono ?_
          rintro e v2 ⟨rfl, hb⟩
          have hal := (Below.refl v2.heap.size v2).alloc (Nat.le_refl _) (.cells #[.string (str []), .int .i64 0, .int .i64 0] 43)
          have HB2 := Lib.hid (next (next HB1.out hb) hal)
          have HN2 := Lib.hid ((HN1.out.below hb).below hal)
          have K3 := Lib.hid (load_nil x.at' HN2.out)
          obtain ⟨z1, z2, z3, z4⟩ := HX.out _ HB2.out
          clear hb y4 K2 z2 z3 z4 hal
          go_wp2_with fail
          refine K3.out.mono ?_
          rintro e v3 ⟨rfl, hb⟩
          have HB3 := Lib.hid (next HB2.out hb)
          have HN3 := Lib.hid (HN2.out.below hb)
          have K4 := Lib.hid (since_nil x.n HN3.out)
          obtain ⟨y1, y2, y3, y4⟩ := HX.out _ HB3.out
          clear hb z1 K3 y1 y3 y4
          go_wp2_with fail
          refine K4.out.mono ?_
          rintro e v4 ⟨rfl, hb⟩
          have HB4 := Lib.hid (next HB3.out hb)
          have HN4 := Lib.hid (HN3.out.below hb)
          clear hb y2 K4
          have K := Lib.hid (store_nil x.at' x.v HN4.out)
          obtain ⟨z1, z2, z3, z4⟩ := HX.out _ HB4.out
          go_wp2_with fail
          refine K.out.mono ?_
          rintro e v5 ⟨rfl, hb⟩
          have HB5 := Lib.hid (next HB4.out hb)
          have HN5 := Lib.hid (HN4.out.below hb)
          clear hb K z1 z2 z3 z4
          have K := Lib.hid (has_nil x.at' x.n HN5.out)
          obtain ⟨z1, z2, z3, z4⟩ := HX.out _ HB5.out
          go_wp2_with fail
          refine K.out.mono ?_
          rintro e v6 ⟨rfl, hb⟩
          have HB6 := Lib.hid (next HB5.out hb)
          have HN6 := Lib.hid (HN5.out.below hb)
          clear hb K z1 z2 z3 z4
          have K := Lib.hid (room_nil x.n HN6.out)
          obtain ⟨z1, z2, z3, z4⟩ := HX.out _ HB6.out
          go_wp2_with fail
          refine K.out.mono ?_
          rintro e v7 ⟨rfl, hb⟩
          have HB7 := Lib.hid (next HB6.out hb)
          have HN7 := Lib.hid (HN6.out.below hb)
          clear hb K z1 z2 z3 z4
          have K := Lib.hid (forget_nil HN7.out)
          go_wp2_with fail
          refine K.out.mono ?_
          rintro e v8 ⟨rfl, hb⟩
          have HB8 := Lib.hid (next HB7.out hb)
          have HN8 := Lib.hid (HN7.out.below hb)
          clear hb K
          have K := Lib.hid (steps_nil HN8.out)
          go_wp2_with fail
          refine K.out.mono ?_
          rintro e v9 ⟨rfl, hb⟩
          have HB9 := Lib.hid (next HB8.out hb)
          have HN9 := Lib.hid (HN8.out.below hb)
          clear hb K
          have K := Lib.hid (events_nil HN9.out)
          go_wp2_with fail
          refine K.out.mono ?_
          rintro e v10 ⟨rfl, hb⟩
          have HB10 := Lib.hid (next HB9.out hb)
          have HN10 := Lib.hid (HN9.out.below hb)
          clear hb K
          have K := Lib.hid (cells_nil HN10.out)
          go_wp2_with fail
          refine K.out.mono ?_
          rintro e v11 ⟨rfl, hb⟩
          have HB11 := Lib.hid (next HB10.out hb)
          have HN11 := Lib.hid (HN10.out.below hb)
          clear hb K
          have K := Lib.hid (regions_nil HN11.out)
          go_wp2_with fail
          refine K.out.mono ?_
          rintro e v12 ⟨rfl, hb⟩
          have HB12 := Lib.hid (next HB11.out hb)
          have HN12 := Lib.hid (HN11.out.below hb)
          clear hb K
          go_wp2_with fail
          exact ⟨⟨i + 1, by omega, by go_num, HB12.out⟩, by simp [intOf]; omega⟩
      · obtain rfl : i = 2 := by omega
        go_wp2_with fail
        refine (awake_p _).mono ?_
        rintro e w2 ⟨rfl, hb2⟩
        go_wp2_with fail
        go_ret
        exact ⟨rfl, (HB0.out.trans (HB.out.mono HB0.out.size)).trans (hb2.mono (Nat.le_trans HB0.out.size HB.out.size))⟩
theorem cell_string {P : Program} {w : World} {r : Reach} {b : Nat} {t : TypeId} {v : Value} (h : P.underlying t = some .string) (hv : Cell.okWide P w r b t v) : ∃ s, v = .string s := by
  simp only [h, Cell.okWide] at hv
  cases v <;> simp_all [Cell.ok]
set_option maxRecDepth 100000 in
theorem walk (cs : Array Value) (w : World)
    (hz : cs.size = [5, 3, 3, 31, 9].length)
    (hc : ∀ (i : Nat) (u : TypeId) (x : Value), [5, 3, 3, 31, 9][i]? = some u → cs[i]? = some x → Cell.okWide Tryd.prog w .any w.heap.size u x) :
    Calls Tryd.prog 9 #[.agg cs] w fun e w' => e = .returned (.bool true) ∧ Below w.heap.size w w' := by
  obtain ⟨x0, x1, x2, x3, x4, rfl⟩ : ∃ a b c d e, cs = #[a, b, c, d, e] := by
    obtain ⟨l⟩ := cs
    match l, hz with
    | [a, b, c, d, e], _ => exact ⟨a, b, c, d, e, rfl⟩
  obtain ⟨n, rfl, hn⟩ := cell_int Tryd.underlying5 (hc 0 _ _ rfl rfl)
  obtain ⟨b, rfl, hb⟩ := cell_int Tryd.underlying3 (hc 1 _ _ rfl rfl)
  obtain ⟨p, rfl, hp⟩ := cell_int Tryd.underlying3 (hc 2 _ _ rfl rfl)
  obtain ⟨i, rfl, hi⟩ := cell_int Tryd.underlying31 (hc 3 _ _ rfl rfl)
  obtain ⟨s, rfl⟩ : ∃ s, x4 = .string s := by
    exact cell_string Tryd.underlying9 (hc 4 _ _ rfl rfl)
  have h1 := has_u8 hn
  have h2 := has_i64 hb
  have h3 := has_i64 hp
  have h5 := has_u64 hi
  obtain ⟨n', rfl⟩ : ∃ c : Nat, n = c := ⟨n.toNat, by omega⟩
  obtain ⟨i', rfl⟩ : ∃ c : Nat, i = c := ⟨i.toNat, by omega⟩
  have := walkK ⟨n', b, p, i', s.data.toList⟩ w ⟨by simp only; omega, h2, h3, by simp only; omega⟩
  simp only [str_data] at this
  exact this

theorem own : ownKnob Tryd.prog.godebug = none := by kernel_rfl
theorem laidOut : laidOutB Tryd.prog = true := by kernel_rfl
abbrev laidL : List (String × DataW Unit) := [("unicode/utf8.acceptRanges", Rows.laid_unicode_utf8_acceptRanges), ("unicode/utf8.first", Rows.laid_unicode_utf8_first)]

set_option maxRecDepth 100000 in
theorem lifted (os : Os) (started : os.Started) (H : Type) (enc : TypeId × Value → H) :
    ReturnsInHanded {} Tryd.checked os 9 .any (fun w args => (Rows.arenaNoneSpec.pre enc Tryd.prog Tryd.f9 [] false w args ∧ laidMetH Tryd.prog laidL w) ∧ sizedMet enc Tryd.prog Tryd.f9 (OpenSpec.ofChange Rows.arenaNoneSpec) false w args) (Rows.arenaNoneSpec.post enc Tryd.prog Tryd.f9 false true false false) := by
  refine returnsInHanded_of_change_and (C := Tryd.checked) (X := fun w _ => laidMetH Tryd.prog laidL w) (fun _ _ _ hh h => h.of_heap hh) own started (by kernel_rfl) Tryd.func9
    (ChangeSpec.witness_shaped (enc := enc) (C := Tryd.checked) (os := os) (X := fun w _ => laidMetH Tryd.prog laidL w) false (laidWorld os) #[.agg #[.int .u8 0, .int .i64 0, .int .i64 0, .int .u64 0, .string .empty]] 8 rfl (World.shaped_of_RefB (by kernel_rfl) (by kernel_rfl)) (by kernel_rfl) (by kernel_rfl) (by kernel_rfl) (door_met os _)) ?_
  intro W base args ds gs before hval0 hW _ _ _ _
  have hval : ∀ (j : Nat) t v, Tryd.f9.params[j]? = some t → args[j]? = some v → Value.okWide Tryd.prog W .any base t v := hval0
  have hW' := hW
  obtain ⟨p, q, hA0, hV, rfl, hfz, hnd⟩ := hW
  have hA : DataW.TrodAll enc Tryd.prog W 0 (fun _ => true) true Tryd.f9.params.toList args.toList ds p := hA0
  rw [Tryd.params9] at hA hval
  obtain ⟨v0, vs0, d0, ds0, p0, q0, hargs, rfl, rfl, k0, r0⟩ := trodAll_cons hA
  obtain ⟨rfl, rfl, rfl⟩ := trodAll_nil r0
  obtain rfl : args = #[v0] := by cases args; simp_all
  obtain ⟨rfl, rfl⟩ := trodVars_none hV
  have lt0 : ∀ x ∈ p0, x.block < W.heap.size := by obtain ⟨m, hm⟩ := k0; exact DataW.trod_lt m _ _ _ hm
  obtain ⟨c0, rfl, z0, g0⟩ := arg_agg (ts := [5, 3, 3, 31, 9]) (by kernel_rfl) (by kernel_rfl) (by kernel_rfl) (hval 0 33 v0 rfl rfl)
  clear hA0 hval0
  refine (walk c0 W z0 g0).mono fun e W' ⟨he, bel⟩ => ?_
  subst he
  exact ⟨_, rfl, _, _, _, [], _, [], hW', trodAll_mk1 (shut_bool Tryd.underlying4 _), (trodAll_cons_mk (Below.trod laidOut (by kernel_rfl) (of_decide_eq_true (by kernel_rfl)) k0 bel lt0) trodAll_mk0), rfl, bel.frame _, fun h => by cases h⟩

theorem over : Rows.arenaNoneRow.holds Tryd.pinned (OpenSpec.ofChange Rows.arenaNoneSpec) :=
  OpenClaim.holds_of_wide 9 Tryd.f9 rfl rfl rfl rfl rfl rfl rfl ⟨rfl, rfl, rfl, rfl, rfl⟩ rfl rfl rfl rfl rfl (by kernel_rfl) Tryd.func9 (by kernel_rfl)
    (of_decide_eq_true (by kernel_rfl)) (by unfold Func.isWrapper; first | (rw [if_pos (by decide +kernel)]; kernel_rfl) | (rw [if_neg (by decide +kernel)]; exact ⟨rfl, rfl⟩))
    (fun os started H enc _ => lifted os started H enc)

theorem proved : Rows.ArenaNoneCardSaid :=
  Claim7.holds_tied_plain_at .later [] [.data, .pinned] true (true, "fa0ba3bc22dc5505d8766bf6efcc6355ea8fadaca26ff31e805dd7d45e3f142c") false
    over (fun _ h => by cases h) (by kernel_rfl) (fun _ h => by cases h) arenaNone_row_tie rfl ⟨rfl, rfl⟩ (by kernel_rfl) rfl
    (fun f fn hf hfn => by
      obtain rfl : f = 9 := Option.some.inj ((show Tryd.prog.funcNamed "dragnet/dragnetlaw05.ArenaNone" = some 9 by kernel_rfl).symm.trans hf) |>.symm
      obtain rfl : fn = Tryd.f9 := (Option.some.inj (Tryd.func9.symm.trans hfn)).symm
      exact ⟨by kernel_rfl, fun j t ht => by
        rw [Tryd.params9] at ht
        have hm : t ∈ ([33] : List Nat) := by simpa using Array.mem_of_getElem? ht
        have hall : (([33] : List Nat).all fun u => !Tryd.prog.wantsStandIn u) = true := by kernel_rfl
        exact (show Tryd.prog.wantsStandIn t = false by simpa using List.all_eq_true.1 hall t hm)⟩)
    (by kernel_rfl)
#print axioms proved
end Go.Proofs.YtomjefplacgoeaaDoor.arenaNone
