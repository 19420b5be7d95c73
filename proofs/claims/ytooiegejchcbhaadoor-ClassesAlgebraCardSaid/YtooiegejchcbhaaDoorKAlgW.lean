/- ClassesAlgebra: the law returns true. No conditions beside the laid table. -/
import Derived.Test.YtooiegejchcbhaaDoorKLawS
import Derived.Test.YtooiegejchcbhaaDoorTie
import Derived.Test.YtooiegejchcbhaaDoorCards
import Derived.SevenTiedAt
import Derived.Deep.RegionHeld3
namespace Go.Proofs.YtooiegejchcbhaaDoor.classesAlgebra
open Go.ChangeShapes Go.WideShapes Go.ChangeAt Go.RowKit

theorem held_weaken {P : Program} {md : Region.Mode} {ops : Array Oper} {Q : Exit → Act → World → Prop} {S S' : World → Prop} (h : ∀ w, S' w → S w) :
    ∀ (fuel : Nat) (listed : Array Bool) (a : Act) (w : World), wpAnyH P md ops Q S' fuel listed a w → wpAnyH P md ops Q S fuel listed a w
  | 0, _, _, _, H => H
  | fuel + 1, _, _, _, H => ⟨H.1, fun i hi => wpOp_mono (fun _ _ h' => ⟨h _ h'.1, held_weaken h fuel _ _ _ h'.2⟩) (H.2 i hi)⟩

theorem held_take {P : Program} {md : Region.Mode} {ops : Array Oper} {Q : Exit → Act → World → Prop} {S : World → Prop} {i : Nat} {oi : Oper} {v : Value} {fuel : Nat} {listed : Array Bool} {a : Act} {w : World} (d : Option Tmp)
    (hi : ops[i]? = some oi) (hd : oi.dst = d) (hs : Region.noSelect ops = true) (hf : Region.free md ops listed i = true) (hr : (Region.ready md ops listed).contains i = true)
    (hQ : ∀ c a w, Q (.panic c) (a.put d v) w → Q (.panic c) a w) (hy : YieldsIf P ops S oi v a) (hS : S w)
    (h : wpAnyH P md ops Q S fuel (listed.setIfInBounds i true) (a.put d v) w) : wpAnyH P md ops Q S (fuel + 1) listed a w := by
  subst hd
  exact wpAnyH_take hi hs hf hr hQ hy hS h

set_option maxRecDepth 100000 in
set_option maxHeartbeats 40000000 in
theorem walkB (a b : CSet) (w : World) (hT : Tab w) :
    Calls Tryd.prog 7 #[setV a, setV b] w fun e w' => e = .returned (.bool true) ∧ Below w.heap.size w w' := by
  have HT := Lib.hid hT
  have HS := Lib.hid (Hd2.start w a b)
  clear hT
  have es := eq_self
  have K0 := Lib.hid (fun (w : World) => union_p a b w)
  have K1 := Lib.hid (fun (w : World) => union_r a b w)
  have K2 := Lib.hid (fun (w : World) => meet_p a b w)
  have K3 := Lib.hid (fun (w : World) => meet_r a b w)
  have K4 := Lib.hid (fun (w : World) => minus_p a b w)
  have K5 := Lib.hid (fun (w : World) => minus_r a b w)
  have K6 := Lib.hid (fun (w : World) => not_p a w)
  have K7 := Lib.hid (fun (w : World) => not_r a w)
  have K8 := Lib.hid (fun (w : World) => sub_p a b w)
  have K9 := Lib.hid (fun (w : World) => sub_r a b w)
  have K10 := Lib.hid (fun (w : World) => count_p a w)
  have K11 := Lib.hid (fun (w : World) => count_r a w)
  have K12 := Lib.hid (fun (w : World) => list_p a w)
  have K13 := Lib.hid (fun (w : World) => list_r a w)
  have K14 := Lib.hid (fun (w : World) => runs_p a w)
  have K15 := Lib.hid (fun (w : World) => runs_r a w)

  have K17 := Lib.hid (fun (w : World) => shown_p w)
  rw [list_cnt] at K10
  generalize a ||| b = X1 at *
  generalize a &&& b = X2 at *
  generalize decide (a &&& ~~~b = 0#256) = X4 at *
  generalize a &&& ~~~b = X3 at *
  generalize ~~~a = X5 at *
  generalize listS a = L at *
  generalize runsS a = R at *
  unfold setV setC at *
  go_enter Tryd.func7, Tryd.ntmps7
  go_wp2_with fail
  generalize (w.alloc (.cells #[.int .u64 (word a 0 : Int), .int .u64 (word a 1 : Int), .int .u64 (word a 2 : Int), .int .u64 (word a 3 : Int)] 24)).alloc (.cells #[.int .u64 (word b 0 : Int), .int .u64 (word b 1 : Int), .int .u64 (word b 2 : Int), .int .u64 (word b 3 : Int)] 24) = W at *
  have HR0 := Lib.hid (⟨⟨HS.out.sa.cells, HS.out.sb.cells⟩, ⟨HS.out.sa.lt, HS.out.sb.lt⟩, (Below.refl _ _).drew⟩ : HR W w.heap.size (w.heap.size + 1) a b W.drew)
  simp only [List.append_eq, List.cons_append, List.nil_append]
  go_region_held3 (fun w' => HR W w.heap.size (w.heap.size + 1) a b w') (first
      | with_reducible assumption
      | with_reducible exact HR.keep (by assumption) (by assumption)
      | exact HR0.out) (first
    | (go_at_call 15; refine (K0.out _).mono ?_; rintro e v ⟨rfl, hb⟩)
    | (go_at_call 28; refine (K1.out _).mono ?_; rintro e v ⟨rfl, hb⟩)
    | (go_at_call 25; refine (K2.out _).mono ?_; rintro e v ⟨rfl, hb⟩)
    | (go_at_call 29; refine (K3.out _).mono ?_; rintro e v ⟨rfl, hb⟩)
    | (go_at_call 27; refine (K4.out _).mono ?_; rintro e v ⟨rfl, hb⟩)
    | (go_at_call 30; refine (K5.out _).mono ?_; rintro e v ⟨rfl, hb⟩)
    | (go_at_call 26; refine (K6.out _).mono ?_; rintro e v ⟨rfl, hb⟩)
    | (go_at_call 31; refine (K7.out _).mono ?_; rintro e v ⟨rfl, hb⟩)
    | (go_at_call 32; refine (K8.out _).mono ?_; rintro e v ⟨rfl, hb⟩)
    | (go_at_call 33; refine (K9.out _).mono ?_; rintro e v ⟨rfl, hb⟩)
    | (go_at_call 34; refine (K10.out _).mono ?_; rintro e v ⟨rfl, hb⟩)
    | (go_at_call 35; refine (K11.out _).mono ?_; rintro e v ⟨rfl, hb⟩)
    | (go_at_call 37; refine (K13.out _).mono ?_; rintro e v ⟨vm, rfl, hr, hb⟩; clear hr; have HM : ∀ w' : World, (convert 39 9 vm).run Tryd.prog w' = .ok (.string (str L)) w' := (absurd trivial HEM.out))
    | (go_at_call 13; refine (K14.out _ (tab_held HT.out HS.out.bel (by assumption))).mono ?_; rintro e v ⟨vr, rfl, hr, hb⟩; have HQ1 := Lib.hid (Row.of_owns hr); clear hr)
    | (go_at_call 39; refine (K15.out _).mono ?_; rintro e v ⟨vq, rfl, hr, hb⟩; have HQ2 := Lib.hid (Row.of_owns hr); have HQ3 := Lib.hid (Row.below HQ1.out hb); clear hr)
    | (go_at_call 38; refine (same_r _ _ R _ HQ3.out HQ2.out).mono ?_; rintro e v ⟨rfl, hb⟩)
    | (go_at_call 9; refine (shown_p _ (tab_held HT.out HS.out.bel (by assumption))).mono ?_; rintro e v ⟨rfl, hb⟩)
    | (go_at_call 36; refine (K12.out _ (tab_held HT.out HS.out.bel (by assumption))).mono ?_; rintro e v ⟨vl, rfl, hr, hb⟩
       have HRL := Lib.hid (Row.of_owns hr)
       clear hr
       refine (Classical.em True).elim (fun hem => ?_) (fun hem => ?_)
       · rename_i hK0
         dsimp only
         have hH0 := HR.keep hb (by assumption)
         refine hK0.out _ _ hH0 (fun _ => ?_)
         try simp only [Act.put, List.setIfInBounds_toArray, List.set_cons_zero, List.set_cons_succ]
         clear hK0
         refine held_weaken (S' := fun w' => HR W w.heap.size (w.heap.size + 1) a b w' ∧ Row w' 1 vl L.length (bcells L)) (fun _ h => h.1) _ _ _ _ ?_
         have hH1 := And.intro hH0 HRL.out
         refine held_take (i := 51) (oi := _) (v := .string (str L)) (some 56) rfl rfl (by kernel_rfl) (by kernel_rfl) (by kernel_rfl) (fun _ _ _ h => h) (Or.inl ⟨by rfl, fun w' hw => (by have hz := row_str hw.2; go_simp)⟩) hH1 ?_
         try simp only [Act.put, List.setIfInBounds_toArray, List.set_cons_zero, List.set_cons_succ]
         refine wpAnyH_ready (rs := [53]) (by kernel_rfl) (by simp) ?_
         refine AllReadyH.cons (o := _) rfl (fun K1' hK1 => ?_) AllReadyH.nil
         go_simp
         refine (K13.out _).mono ?_
         rintro e u1 ⟨vm, rfl, hr, hb1⟩
         dsimp only
         have hH2 := And.intro (And.intro (HR.keep hb1 hH1.1) (Row.below hH1.2 hb1)) (Row.of_owns hr)
         refine hK1.out _ _ hH2.1 (fun _ => ?_)
         try simp only [Act.put, List.setIfInBounds_toArray, List.set_cons_zero, List.set_cons_succ]
         clear hK1 hr hb1
         refine held_weaken (S' := fun w' => (HR W w.heap.size (w.heap.size + 1) a b w' ∧ Row w' 1 vl L.length (bcells L)) ∧ Row w' 1 vm L.length (bcells L)) (fun _ h => h.1) _ _ _ _ ?_
         refine held_take (i := 54) (oi := _) (v := .string (str L)) (some 59) rfl rfl (by kernel_rfl) (by kernel_rfl) (by kernel_rfl) (fun _ _ _ h => h) (Or.inl ⟨by rfl, fun w' hw => (by have hz := row_str hw.2; go_simp)⟩) hH2 ?_
         try simp only [Act.put, List.setIfInBounds_toArray, List.set_cons_zero, List.set_cons_succ]
         refine held_take (i := 55) (oi := _) (v := .bool true) (some 60) rfl rfl (by kernel_rfl) (by kernel_rfl) (by kernel_rfl) (fun _ _ _ h => h) (Or.inl ⟨by rfl, fun w' hw => (by go_simp)⟩) hH2 ?_
         try simp only [Act.put, List.setIfInBounds_toArray, List.set_cons_zero, List.set_cons_succ]
         refine held_take (i := 56) (oi := _) (v := .bool true) (some 61) rfl rfl (by kernel_rfl) (by kernel_rfl) (by kernel_rfl) (fun _ _ _ h => h) (Or.inl ⟨by rfl, fun w' hw => (by go_simp)⟩) hH2 ?_
         try simp only [Act.put, List.setIfInBounds_toArray, List.set_cons_zero, List.set_cons_succ]
         refine held_take (i := 57) (oi := _) (v := .bool true) (some 62) rfl rfl (by kernel_rfl) (by kernel_rfl) (by kernel_rfl) (fun _ _ _ h => h) (Or.inl ⟨by rfl, fun w' hw => (by go_simp)⟩) hH2 ?_
         try simp only [Act.put, List.setIfInBounds_toArray, List.set_cons_zero, List.set_cons_succ]
         refine held_take (i := 58) (oi := _) (v := .agg #[.int .u64 (word a 0 : Int), .int .u64 (word a 1 : Int), .int .u64 (word a 2 : Int), .int .u64 (word a 3 : Int)]) (some 63) rfl rfl (by kernel_rfl) (by kernel_rfl) (by kernel_rfl) (fun _ _ _ h => h) (Or.inl ⟨by rfl, fun w' hw => (by obtain ⟨⟨⟨x0, x1, x2, x3⟩, _⟩, _⟩ := hw.1.1; go_simp)⟩) hH2 ?_
         try simp only [Act.put, List.setIfInBounds_toArray, List.set_cons_zero, List.set_cons_succ]
         refine held_take (i := 60) (oi := _) (v := .agg #[.int .u64 (word a 0 : Int), .int .u64 (word a 1 : Int), .int .u64 (word a 2 : Int), .int .u64 (word a 3 : Int)]) (some 65) rfl rfl (by kernel_rfl) (by kernel_rfl) (by kernel_rfl) (fun _ _ _ h => h) (Or.inl ⟨by rfl, fun w' hw => (by obtain ⟨⟨⟨x0, x1, x2, x3⟩, _⟩, _⟩ := hw.1.1; go_simp)⟩) hH2 ?_
         try simp only [Act.put, List.setIfInBounds_toArray, List.set_cons_zero, List.set_cons_succ]
         refine wpAnyH_ready (rs := [59]) (by kernel_rfl) (by simp) ?_
         refine AllReadyH.cons (o := _) rfl (fun K2' hK2 => ?_) AllReadyH.nil
         go_simp
         refine (K14.out _ (tab_held HT.out HS.out.bel hH2.1.1)).mono ?_
         rintro e u2 ⟨vr, rfl, hr, hb1⟩
         dsimp only
         have hH3 := And.intro (And.intro (And.intro (HR.keep hb1 hH2.1.1) (Row.below hH2.1.2 hb1)) (Row.below hH2.2 hb1)) (Row.of_owns hr)
         refine hK2.out _ _ hH3.1 (fun _ => ?_)
         try simp only [Act.put, List.setIfInBounds_toArray, List.set_cons_zero, List.set_cons_succ]
         clear hK2 hr hb1
         refine held_weaken (S' := fun w' => ((HR W w.heap.size (w.heap.size + 1) a b w' ∧ Row w' 1 vl L.length (bcells L)) ∧ Row w' 1 vm L.length (bcells L)) ∧ Row w' 2 vr R.length (pcells R)) (fun _ h => h.1) _ _ _ _ ?_
         refine wpAnyH_ready (rs := [61]) (by kernel_rfl) (by simp) ?_
         refine AllReadyH.cons (o := _) rfl (fun K3' hK3 => ?_) AllReadyH.nil
         go_simp
         refine (K15.out _).mono ?_
         rintro e u3 ⟨vq, rfl, hr, hb1⟩
         dsimp only
         have hH4 := And.intro (And.intro (And.intro (HR.keep hb1 hH3.1.1.1) (Row.below hH3.1.1.2 hb1)) (Row.below hH3.1.2 hb1)) (Row.below hH3.2 hb1)
         have hq := Row.of_owns hr
         refine hK3.out _ _ hH4 (fun _ => ?_)
         try simp only [Act.put, List.setIfInBounds_toArray, List.set_cons_zero, List.set_cons_succ]
         clear hK3 hr hb1
         refine wpAnyH_ready (rs := [62]) (by kernel_rfl) (by simp) ?_
         refine AllReadyH.cons (o := _) rfl (fun K4' hK4 => ?_) AllReadyH.nil
         go_simp
         refine (same_r _ _ R _ hH4.2 hq).mono ?_
         rintro e u4 ⟨rfl, hb1⟩
         dsimp only
         have hH5 := And.intro (And.intro (And.intro (HR.keep hb1 hH4.1.1.1) (Row.below hH4.1.1.2 hb1)) (Row.below hH4.1.2 hb1)) (Row.below hH4.2 hb1)
         refine hK4.out _ _ hH5 (fun _ => ?_)
         try simp only [Act.put, List.setIfInBounds_toArray, List.set_cons_zero, List.set_cons_succ]
         clear hK4 hb1
         refine held_take (i := 63) (oi := _) (v := .bool true) (some 68) rfl rfl (by kernel_rfl) (by kernel_rfl) (by kernel_rfl) (fun _ _ _ h => h) (Or.inl ⟨by rfl, fun w' hw => (by go_simp)⟩) hH5 ?_
         try simp only [Act.put, List.setIfInBounds_toArray, List.set_cons_zero, List.set_cons_succ]
         refine held_take (i := 64) (oi := _) (v := .bool true) (some 69) rfl rfl (by kernel_rfl) (by kernel_rfl) (by kernel_rfl) (fun _ _ _ h => h) (Or.inl ⟨by rfl, fun w' hw => (by go_simp)⟩) hH5 ?_
         try simp only [Act.put, List.setIfInBounds_toArray, List.set_cons_zero, List.set_cons_succ]
         refine wpAnyH_ready (rs := [65]) (by kernel_rfl) (by simp) ?_
         refine AllReadyH.cons (o := _) rfl (fun K5' hK5 => ?_) AllReadyH.nil
         go_simp
         refine (shown_p _ (tab_held HT.out HS.out.bel hH5.1.1.1)).mono ?_
         rintro e u5 ⟨rfl, hb1⟩
         dsimp only
         have hH6 := And.intro (And.intro (And.intro (HR.keep hb1 hH5.1.1.1) (Row.below hH5.1.1.2 hb1)) (Row.below hH5.1.2 hb1)) (Row.below hH5.2 hb1)
         refine hK5.out _ _ hH6 (fun _ => ?_)
         try simp only [Act.put, List.setIfInBounds_toArray, List.set_cons_zero, List.set_cons_succ]
         clear hK5 hb1
         refine held_take (i := 66) (oi := _) (v := .bool true) (some 71) rfl rfl (by kernel_rfl) (by kernel_rfl) (by kernel_rfl) (fun _ _ _ h => h) (Or.inl ⟨by rfl, fun w' hw => (by go_simp)⟩) hH6 ?_
         try simp only [Act.put, List.setIfInBounds_toArray, List.set_cons_zero, List.set_cons_succ]
         refine held_take (i := 67) (oi := _) (v := .bool true) (some 4) rfl rfl (by kernel_rfl) (by kernel_rfl) (by kernel_rfl) (fun _ _ _ h => h) (Or.inl ⟨by rfl, fun w' hw => (by go_simp)⟩) hH6 ?_
         try simp only [Act.put, List.setIfInBounds_toArray, List.set_cons_zero, List.set_cons_succ]
         refine wpAnyH_done (by kernel_rfl) ?_ _
         have hB9 := hH6.1.1.1.2.2
         refine NoPanic.normal ?_
         try simp only [Act.put, List.setIfInBounds_toArray, List.set_cons_zero, List.set_cons_succ]
         go_wp2_with fail
         go_ret
         exact ⟨rfl, next HS.out.bel hB9⟩
       have HL : ∀ w' : World, (convert 39 9 vl).run Tryd.prog w' = .ok (.string (str L)) w' := (hem trivial).elim
       have HEM := Lib.hid hem
       clear hem HRL))
  all_goals
    rename HR W w.heap.size (w.heap.size + 1) a b _ => hS
    go_wp2_with fail
    go_ret
    exact ⟨rfl, next HS.out.bel hS.2.2⟩


theorem walk (cs cd : Array Value) (w : World) (hT : Tab w) (hz : cs.size = [22, 22, 22, 22].length)
    (hc : ∀ (i : Nat) (u : TypeId) (x : Value), [22, 22, 22, 22][i]? = some u → cs[i]? = some x → Cell.okWide Tryd.prog w .any w.heap.size u x)
    (hy : cd.size = [22, 22, 22, 22].length)
    (hd : ∀ (i : Nat) (u : TypeId) (x : Value), [22, 22, 22, 22][i]? = some u → cd[i]? = some x → Cell.okWide Tryd.prog w .any w.heap.size u x) :
    Calls Tryd.prog 7 #[.agg cs, .agg cd] w fun e w' => e = .returned (.bool true) ∧ Below w.heap.size w w' := by
  obtain ⟨s, hs⟩ := set_of hz hc
  obtain ⟨t, ht⟩ := set_of hy hd
  rw [hs, ht]
  exact walkB s t w hT

theorem own : ownKnob Tryd.prog.godebug = none := by kernel_rfl
theorem laidOut : laidOutB Tryd.prog = true := by kernel_rfl
abbrev laidL : List (String × DataW Unit) := [("math/bits.deBruijn64tab", Rows.laid_math_bits_deBruijn64tab)]

set_option maxRecDepth 100000 in
theorem lifted (os : Os) (started : os.Started) (H : Type) (enc : TypeId × Value → H) :
    ReturnsInHanded {} Tryd.checked os 7 .any (fun w args => (Rows.classesAlgebraSpec.pre enc Tryd.prog Tryd.f7 [] false w args ∧ laidMetH Tryd.prog laidL w) ∧ sizedMet enc Tryd.prog Tryd.f7 (OpenSpec.ofChange Rows.classesAlgebraSpec) false w args) (Rows.classesAlgebraSpec.post enc Tryd.prog Tryd.f7 false true false false) := by
  refine returnsInHanded_of_change_and (C := Tryd.checked) (X := fun w _ => laidMetH Tryd.prog laidL w) (fun _ _ _ hh h => h.of_heap hh) own started (by kernel_rfl) Tryd.func7
    (ChangeSpec.witness_shaped (enc := enc) (C := Tryd.checked) (os := os) (X := fun w _ => laidMetH Tryd.prog laidL w) false (World.doorLaid Tryd.prog 400 os) #[.agg #[.int .u64 0, .int .u64 0, .int .u64 0, .int .u64 0], .agg #[.int .u64 0, .int .u64 0, .int .u64 0, .int .u64 0]] 8 rfl (World.shaped_of_RefB (by kernel_rfl) (by kernel_rfl)) (by kernel_rfl) (by kernel_rfl) (by kernel_rfl) (door_met os _)) ?_
  intro W base args ds gs before hval0 hW _ _ hL _
  have hT : Tab W := tab_of_laid hL
  have hval : ∀ (j : Nat) t v, Tryd.f7.params[j]? = some t → args[j]? = some v → Value.okWide Tryd.prog W .any base t v := hval0
  have hW' := hW
  obtain ⟨p, q, hA0, hV, rfl, hfz, hnd⟩ := hW
  have hA : DataW.TrodAll enc Tryd.prog W 0 (fun _ => true) true Tryd.f7.params.toList args.toList ds p := hA0
  rw [Tryd.params7] at hA hval
  obtain ⟨v0, vs0, d0, ds0, p0, q0, hargs, rfl, rfl, k0, r0⟩ := trodAll_cons hA
  obtain ⟨v1, vs1, d1, ds1, p1, q1, rfl, rfl, rfl, k1, r1⟩ := trodAll_cons r0
  obtain ⟨rfl, rfl, rfl⟩ := trodAll_nil r1
  obtain rfl : args = #[v0, v1] := by cases args; simp_all
  obtain ⟨rfl, rfl⟩ := trodVars_none hV
  have lt0 : ∀ x ∈ p0, x.block < W.heap.size := by obtain ⟨m, hm⟩ := k0; exact DataW.trod_lt m _ _ _ hm
  have lt1 : ∀ x ∈ p1, x.block < W.heap.size := by obtain ⟨m, hm⟩ := k1; exact DataW.trod_lt m _ _ _ hm
  obtain ⟨c0, rfl, z0, g0⟩ := arg_agg (ts := [22, 22, 22, 22]) (by kernel_rfl) (by kernel_rfl) (by kernel_rfl) (hval 0 24 v0 rfl rfl)
  obtain ⟨c1, rfl, z1, g1⟩ := arg_agg (ts := [22, 22, 22, 22]) (by kernel_rfl) (by kernel_rfl) (by kernel_rfl) (hval 1 24 v1 rfl rfl)
  clear hA0 hval0
  refine (walk c0 c1 W hT z0 g0 z1 g1).mono fun e W' ⟨he, bel⟩ => ?_
  subst he
  exact ⟨_, rfl, _, _, _, [], _, [], hW', trodAll_mk1 (shut_bool Tryd.underlying4 _), (trodAll_cons_mk (Below.trod laidOut (by kernel_rfl) (of_decide_eq_true (by kernel_rfl)) k0 bel lt0) (trodAll_cons_mk (Below.trod laidOut (by kernel_rfl) (of_decide_eq_true (by kernel_rfl)) k1 bel lt1) trodAll_mk0)), rfl, bel.frame _, fun h => by cases h⟩

theorem over : Rows.classesAlgebraRow.holds Tryd.pinned (OpenSpec.ofChange Rows.classesAlgebraSpec) :=
  OpenClaim.holds_of_wide 7 Tryd.f7 rfl rfl rfl rfl rfl rfl rfl ⟨rfl, rfl, rfl, rfl, rfl⟩ rfl rfl rfl rfl rfl (by kernel_rfl) Tryd.func7 (by kernel_rfl)
    (of_decide_eq_true (by kernel_rfl)) (by unfold Func.isWrapper; first | (rw [if_pos (by decide +kernel)]; kernel_rfl) | (rw [if_neg (by decide +kernel)]; exact ⟨rfl, rfl⟩))
    (fun os started H enc _ => lifted os started H enc)

theorem proved : Rows.ClassesAlgebraCardSaid :=
  Claim7.holds_tied_plain_at .later [] [.data] true (true, "22bfa03ded28fcdf6dce186b205dc0d6516f7b640c39f0a6a20e7c48906351c0") false
    over (fun _ h => by cases h) (by kernel_rfl) (fun _ h => by cases h) classesAlgebra_row_tie rfl ⟨rfl, rfl⟩ (by kernel_rfl) rfl
    (fun f fn hf hfn => by
      obtain rfl : f = 7 := Option.some.inj ((show Tryd.prog.funcNamed "dragnet/dragnetlaw03.ClassesAlgebra" = some 7 by kernel_rfl).symm.trans hf) |>.symm
      obtain rfl : fn = Tryd.f7 := (Option.some.inj (Tryd.func7.symm.trans hfn)).symm
      exact ⟨by kernel_rfl, fun j t ht => by
        rw [Tryd.params7] at ht
        have hm : t ∈ ([24, 24] : List Nat) := by simpa using Array.mem_of_getElem? ht
        have hall : (([24, 24] : List Nat).all fun u => !Tryd.prog.wantsStandIn u) = true := by kernel_rfl
        exact (show Tryd.prog.wantsStandIn t = false by simpa using List.all_eq_true.1 hall t hm)⟩)
    (by kernel_rfl)
#print axioms proved
end Go.Proofs.YtooiegejchcbhaaDoor.classesAlgebra
