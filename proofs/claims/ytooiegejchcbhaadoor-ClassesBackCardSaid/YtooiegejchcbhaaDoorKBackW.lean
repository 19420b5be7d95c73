/- ClassesBack: the law returns true. No conditions beside the laid table. -/
import Derived.Test.YtooiegejchcbhaaDoorArgSet
import Derived.Test.YtooiegejchcbhaaDoorKApart
import Derived.Test.YtooiegejchcbhaaDoorKLaid
import Derived.Test.YtooiegejchcbhaaDoorTie
import Derived.Test.YtooiegejchcbhaaDoorCards
import Derived.SevenTiedAt
import Derived.Lib.QuietBelow
import Derived.BigQuiet
namespace Go.Proofs.YtooiegejchcbhaaDoor.classesBack
open Go.ChangeShapes Go.WideShapes Go.ChangeAt Go.RowKit Go.Sort

def joinR (L : List Pr) : CSet := L.foldl (fun u x => u ||| rangeS (x.1 : Int) (x.2 : Int)) 0#256
theorem join_snoc (L : List Pr) (x : Pr) : joinR (L ++ [x]) = joinR L ||| rangeS (x.1 : Int) (x.2 : Int) := by simp [joinR]
theorem join_take {L : List Pr} {i : Nat} (h : i < L.length) : joinR (L.take (i + 1)) = joinR (L.take i) ||| rangeS (L[i].1 : Int) (L[i].2 : Int) := by
  rw [List.take_succ_eq_append_getElem h, join_snoc]
theorem hasB_join {b : Nat} (hb : b < 256) : ∀ (L : List Pr) (u : CSet), (∀ x ∈ L, x.1 ≤ x.2 ∧ x.2 < 256) →
    (hasB (L.foldl (fun u x => u ||| rangeS (x.1 : Int) (x.2 : Int)) u) b = true ↔ (hasB u b = true ∨ ∃ x ∈ L, x.1 ≤ b ∧ b ≤ x.2))
  | [], u, _ => by simp
  | x :: L, u, h => by
    rw [List.foldl_cons, hasB_join hb L _ (fun y hy => h y (by simp [hy])), hasB_or, Bool.or_eq_true, hasB_run (h x (by simp)).1 (h x (by simp)).2 hb]
    constructor
    · rintro ((h1 | h1) | ⟨y, hy, h1⟩)
      · exact .inl h1
      · exact .inr ⟨x, by simp, h1⟩
      · exact .inr ⟨y, by simp [hy], h1⟩
    · rintro (h1 | ⟨y, hy, h1⟩)
      · exact .inl (.inl h1)
      · rcases List.mem_cons.1 hy with rfl | hy
        · exact .inl (.inr h1)
        · exact .inr ⟨y, hy, h1⟩
theorem join_runs (s : CSet) : joinR (runsS s) = s := by
  apply set_ext; intro b hb
  rw [Bool.eq_iff_iff, joinR, hasB_join hb _ _ (runs_ok s), runs_cover s b hb]
  simp [hasB]
theorem print_len (s : CSet) : (printV s).length ≤ 2400 := by
  unfold printV
  have h1 := itemsT_len (runsS s)
  have h2 := itemsT_len (runsS (~~~s))
  have h3 := runs_len (itemsTo s 256)
  have h4 := runs_len (itemsTo (~~~s) 256)
  have h5 := items_le s 256
  have h6 := items_le (~~~s) 256
  unfold runsS at *
  split <;> simp <;> omega

abbrev HR (W : World) (g o : Nat) (x y : Int) (W' : World) : Prop :=
  (W'.cell? ⟨g, o, none⟩ = some (.int .u8 x) ∧ W'.cell? ⟨g, o + 1, none⟩ = some (.int .u8 y)) ∧ g < W.heap.size ∧ Below W.heap.size W W'
theorem HR.keep {W W' W'' : World} {g o : Nat} {x y : Int} (hb : Below W'.heap.size W' W'') (h : HR W g o x y W') : HR W g o x y W'' := by
  obtain ⟨⟨c0, c1⟩, hl, hB⟩ := h
  have hl' := Nat.lt_of_lt_of_le hl hB.size
  exact ⟨⟨(hb.cell (p := ⟨g, o, none⟩) hl').trans c0, (hb.cell (p := ⟨g, o + 1, none⟩) hl').trans c1⟩, hl, next hB hb⟩

theorem HR.any {W W1 W2 : World} {g o : Nat} {x y : Int} (h : HR W g o x y W1) (h1 : W2.os = W1.os) (h2 : W2.tape = W1.tape) (h3 : W2.output = W1.output) (hs : W.heap.size ≤ W2.heap.size) (hb : ∀ k, k < W.heap.size → W2.heap[k]? = W1.heap[k]?) : HR W g o x y W2 := by
  obtain ⟨⟨c0, c1⟩, hl, hB⟩ := h
  have e := hb g hl
  refine ⟨⟨?_, ?_⟩, hl, ⟨h1.trans hB.os, h2.trans hB.tape, h3.trans hB.output, hs, fun k hk => (hb k hk).trans (hB.block k hk)⟩⟩ <;> (unfold World.cell? at *; simp only [e]; assumption)
theorem HR.set4 {W W' : World} {g o K : Nat} {x y : Int} {x0 x1 x2 x3 : Value} (h : HR W g o x y W') (hK : W.heap.size ≤ K) :
    HR W g o x y ((((W'.setCell ⟨K, 0, none⟩ x0).setCell ⟨K, 1, none⟩ x1).setCell ⟨K, 2, none⟩ x2).setCell ⟨K, 3, none⟩ x3) :=
  h.any rfl rfl rfl (by have := h.2.2.size; simp [World.size_setCell]; omega) fun k hk => by
    have hne : k ≠ K := by omega
    rw [Below.heap_setCell _ _ _ _ hne, Below.heap_setCell _ _ _ _ hne, Below.heap_setCell _ _ _ _ hne, Below.heap_setCell _ _ _ _ hne]
theorem HR.swap {W W' : World} {g o : Nat} {x y : Int} {b b' : Obj} (h : HR W g o x y (W'.alloc b)) (hK : W.heap.size ≤ W'.heap.size) : HR W g o x y (W'.alloc b') :=
  h.any rfl rfl rfl (by simp; omega) fun k hk => by rw [Below.heap_alloc _ _ _ (by omega), Below.heap_alloc _ _ _ (by omega)]
theorem putZ {W : World} {K : Nat} {s : CSet} (h : W.heap[K]? = some (.cells #[.int .u64 0, .int .u64 0, .int .u64 0, .int .u64 0] 24 (0, 0))) : SetAt (putSet W K s) K s := SetAt.put (s := 0#256) h s
theorem later' {W W' : World} {n B : Nat} {o : Obj} (hb : Below n W W') (h : W.heap[B]? = some o) (hn : n = W.heap.size) : W'.heap[B]? = some o := by subst hn; exact (hb.block B (Array.getElem?_eq_some_iff.1 h).1).trans h
theorem zeros {W : World} {B : Nat} (h : W.heap[B]? = some (.cells #[.int .u64 0, .int .u64 0, .int .u64 0, .int .u64 0] 24 (0, 0))) :
    (W.cell? ⟨B, 0, none⟩ = some (.int .u64 0) ∧ W.cell? ⟨B, 1, none⟩ = some (.int .u64 0) ∧ W.cell? ⟨B, 2, none⟩ = some (.int .u64 0) ∧ W.cell? ⟨B, 3, none⟩ = some (.int .u64 0)) ∧
    (W.frozen? ⟨B, 0, none⟩ = false ∧ W.frozen? ⟨B, 1, none⟩ = false ∧ W.frozen? ⟨B, 2, none⟩ = false ∧ W.frozen? ⟨B, 3, none⟩ = false) ∧ B < W.heap.size :=
  ⟨by simp [World.cell?, h], by simp [World.frozen?, h], (Array.getElem?_eq_some_iff.1 h).1⟩

set_option maxRecDepth 100000 in
set_option maxHeartbeats 4000000 in
theorem walkB (s : CSet) (r : List UInt8) (hr : r.length ≤ 9223372036854775807) (w : World) (hT : Tab w) :
    Calls Tryd.prog 3 #[setV s, .string (str r)] w fun e w' => e = .returned (.bool true) ∧ Below w.heap.size w w' := by
  have hst := size_str r
  have KS := Lib.hid (fun w h => shown_p w h)
  have KP := Lib.hid (fun w h => print_p s w h)
  have ES := Lib.hid (fun w => eq_set w s s)
  have hs0 := SetAt.new w s
  have hB0 : Below w.heap.size w (w.alloc (.cells (setC s) 24)) := (Below.refl w.heap.size w).alloc (Nat.le_refl _) _
  have HA0 := Lib.hid hs0
  have HB0 := Lib.hid hB0
  have hT0 := hT.below hB0
  have HT0 := Lib.hid hT0
  have HTT := Lib.hid hT
  clear hT hs0 hB0 hT0
  by_cases hlen : 200 < r.length
  · have t1 : (200 : Int) < (r.length : Int) := by omega
    unfold setV
    unfold setC at *
    go_enter Tryd.func3, Tryd.ntmps3
    go_wp2_with fail
    refine (KS.out _ HT0.out).mono ?_
    rintro e w1 ⟨rfl, hb1⟩
    go_wp2_with fail
    go_ret
    exact ⟨rfl, next HB0.out hb1⟩
  have t1 : ¬ (200 : Int) < (r.length : Int) := by omega
  have hpl := print_len s
  have hpb := parse_back s
  have hpx := prefix_back s r
  have KQ := Lib.hid (fun w => parse_p (printV s) (by omega) w)
  have KR := Lib.hid (fun w => prefix_p (printV s ++ r) (by simp; omega) w)
  rw [hpb] at KQ
  rw [hpx] at KR
  clear hpb hpx
  obtain ⟨x0, x1, x2, x3⟩ := HA0.out.cells
  obtain ⟨L, hL, hap, hok, hj, hn256⟩ : ∃ L, runsS s = L ∧ (∀ i (hi : i + 1 < L.length), L[i].2 + 1 < L[i + 1].1) ∧ (∀ x ∈ L, x.1 ≤ x.2 ∧ x.2 < 256) ∧ joinR L = s ∧ L.length ≤ 256 :=
    ⟨_, rfl, runsS_apart s, runs_ok s, join_runs s, by have h1 := runs_len (itemsTo s 256); have h2 := items_le s 256; unfold runsS; omega⟩
  have hrn := fun w h => runs_p s w h
  rw [hL] at hrn
  have KRN := Lib.hid hrn
  have HAP := Lib.hid hap
  have HOK := Lib.hid hok
  have HJ := Lib.hid hj
  clear hL hap hok hj hrn
  generalize printV s = T at *
  unfold setV at *
  unfold setC at *
  go_enter Tryd.func3, Tryd.ntmps3
  go_wp2_with fail
  refine (KP.out _ HT0.out).mono ?_
  rintro e w1 ⟨rfl, hb1⟩
  have HA1 := Lib.hid (HA0.out.below hb1 (by simp))
  have HB1 := Lib.hid (next HB0.out hb1)
  have HT1 := Lib.hid (HT0.out.below hb1)
  clear hb1 HA0 HB0 HT0 x0 x1 x2 x3 KP
  go_wp2_with fail
  refine (KQ.out _).mono ?_
  rintro e w2 ⟨rfl, hb2⟩
  simp only
  have HA2 := Lib.hid (HA1.out.below hb2 HA1.out.lt)
  have HB2 := Lib.hid (next HB1.out hb2)
  have HT2 := Lib.hid (HT1.out.below hb2)
  clear hb2 HA1 HB1 HT1 KQ
  have HA2' := Lib.hid (HA2.out.alloc (.cells (setC s) 24))
  have HC2 := Lib.hid (SetAt.new w2 s)
  have HB2' := Lib.hid (HB2.out.alloc HB2.out.size (.cells (setC s) 24))
  have HT2' := Lib.hid (HT2.out.below ((Below.refl w2.heap.size w2).alloc (Nat.le_refl _) (.cells (setC s) 24)))
  unfold setV
  unfold setC at *
  have sa := str_append T r
  have hsT := size_str T
  go_wp2_with fail
  refine (KR.out _).mono ?_
  rintro e w3 ⟨rfl, hb3⟩
  unfold setV setC
  simp only
  have l2 := HA2.out.lt
  have HA3 := Lib.hid (HA2'.out.below hb3 (by simp; omega))
  have HC3 := Lib.hid (HC2.out.below hb3 (by simp))
  have HB3 := Lib.hid (next HB2'.out hb3)
  have HT3 := Lib.hid (HT2'.out.below hb3)
  clear hb3 HA2 HA2' HC2 HB2 HB2' HT2 HT2' KR sa l2
  have HA4 := Lib.hid (HA3.out.alloc (.cells (setC s) 24))
  have HC4 := Lib.hid (HC3.out.alloc (.cells (setC s) 24))
  have HD4 := Lib.hid (SetAt.new w3 s)
  have HB4 := Lib.hid (HB3.out.alloc HB3.out.size (.cells (setC s) 24))
  have HT4 := Lib.hid (HT3.out.below ((Below.refl w3.heap.size w3).alloc (Nat.le_refl _) (.cells (setC s) 24)))
  unfold setC at *
  obtain ⟨x0, x1, x2, x3⟩ := HA4.out.cells
  obtain ⟨y0, y1, y2, y3⟩ := HC4.out.cells
  obtain ⟨z0, z1, z2, z3⟩ := HD4.out.cells
  have es := ES.out
  simp only [decide_true] at es
  go_wp2_with fail
  refine (KRN.out _ HT4.out).mono ?_
  rintro e w4 ⟨rv, rfl, hR, hb4⟩
  replace hR := Row.of_owns hR
  have l3 := HA3.out.lt
  have hl4 : w.heap.size < w4.heap.size := by have h1 := hb4.size; simp at h1; omega
  have HA5 := Lib.hid ((HA4.out.below hb4 (by simp; omega)).alloc (.cells (setC 0#256) 24))
  have HD5 := Lib.hid (SetAt.new w4 0#256)
  have hB4 := next HB4.out hb4
  have HB5 := Lib.hid (hB4.alloc hB4.size (.cells (setC 0#256) 24))
  have HRW := Lib.hid hR
  have HR5 := Lib.hid ((Below.refl w4.heap.size w4).alloc (Nat.le_refl _) (.cells (setC 0#256) 24))
  obtain ⟨rp, rc, rfl⟩ := Row.form2 hR
  have HRP := Lib.hid (show Prs w4 (.slice rp L.length rc) L from HRW.out)
  clear hb4 HA3 HA4 HC3 HC4 HD4 HB3 HB4 HT3 HT4 x0 x1 x2 x3 y0 y1 y2 y3 z0 z1 z2 z3 hR hB4 l3
  unfold setC at *
  rw [show (word 0#256 0 : Int) = 0 from rfl, show (word 0#256 1 : Int) = 0 from rfl, show (word 0#256 2 : Int) = 0 from rfl, show (word 0#256 3 : Int) = 0 from rfl] at HA5 HD5 HB5 HR5
  go_wp2_with fail
  go_loopw [14] (fun iv wr => ∃ i : Nat, i ≤ L.length ∧ iv = .int .i64 (i : Nat) ∧ SetAt wr w.heap.size s ∧ SetAt wr w4.heap.size (joinR (L.take i)) ∧ Below w4.heap.size w4 wr ∧ Below w.heap.size w wr) (fun iv _ => L.length - (intOf iv).toNat)
  case atStart => exact ⟨0, by omega, rfl, HA5.out, HD5.out, HR5.out, HB5.out⟩
  case round =>
    obtain ⟨i, hi, rfl, hA, hD, hRB, hB⟩ := hrel
    have hR : Prs wr (.slice rp L.length rc) L := Row.below HRP.out hRB
    by_cases hlt : i < L.length
    · obtain ⟨g, o, hpa, hg, hc0, hc1⟩ := hR.at hlt
      subst hpa
      have i1 : (0 : Int) ≤ (i : Int) := by omega
      have i2 : (i : Int) < (L.length : Int) := by omega
      have okx := HOK.out L[i] (List.getElem_mem hlt)
      have HJT := Lib.hid (join_take hlt)
      obtain ⟨x, hx⟩ : ∃ x, L[i].1 = x := ⟨_, rfl⟩
      obtain ⟨y, hy⟩ : ∃ y, L[i].2 = y := ⟨_, rfl⟩
      rw [hx, hy] at okx HJT
      rw [hx] at hc0
      rw [hy] at hc1
      have hE : rangeE (x : Int) (y : Int) = 0 := by unfold rangeE; rw [if_neg (by omega)]
      have KRG := Lib.hid (fun w => range_p (x : Int) (y : Int) w)
      rw [hE] at KRG
      clear hE
      obtain ⟨R, hRr⟩ : ∃ R, rangeS (x : Int) (y : Int) = R := ⟨_, rfl⟩
      rw [hRr] at HJT KRG
      clear hRr
      have wx : IntKind.i64.wrap (x : Int) = (x : Int) := IntWalk.i64_in _ (by omega)
      have wy : IntKind.i64.wrap (y : Int) = (y : Int) := IntWalk.i64_in _ (by omega)
      have lg : g < wr.heap.size := hg
      by_cases h0 : i = 0
      case' pos =>
        have t0 : ¬ ((0 : Int) < (i : Int)) := by omega
        have t0d : decide ((0 : Int) < (i : Int)) = false := decide_eq_false (by omega)
        have t0n : decide (0 < i) = false := decide_eq_false (by omega)
        clear h0
        go_wp2_with fail
        refine wp_region_quiet_below (by kernel_rfl) (by kernel_rfl) ?_
        repeat (go_big_quiet_step (fail))
        refine wpQuiet_nil ?_
        intro _ hw'
        obtain ⟨⟨dq, osq⟩, hw''⟩ := hw'
        subst hw''
        clear t0 t0d t0n
      case' neg =>
        obtain ⟨k, hk⟩ : ∃ k, k + 1 = i := ⟨i - 1, by omega⟩
        have hkl : k < L.length := by omega
        obtain ⟨g2, o2, e2, _, _, hd1⟩ := hR.at hkl
        cases e2
        have hap := HAP.out k (by omega)
        have okz := HOK.out L[k] (List.getElem_mem hkl)
        have e9 : L[k + 1].1 = x := by subst hk; exact hx
        rw [e9] at hap
        obtain ⟨z, hz⟩ : ∃ z, L[k].2 = z := ⟨_, rfl⟩
        rw [hz] at hap okz hd1
        have t0 : ((0 : Int) < (i : Int)) := by omega
        have t0d : decide ((0 : Int) < (i : Int)) = true := decide_eq_true (by omega)
        have t0n : decide (0 < i) = true := decide_eq_true (by omega)
        have wi : IntKind.i64.wrap ((i : Int) - 1) = (k : Int) := (IntWalk.i64_in _ (by omega)).trans (by omega)
        have wz : IntKind.i64.wrap ((z : Int) + 1) = (z : Int) + 1 := IntWalk.i64_in _ (by omega)
        have wz0 : IntKind.i64.wrap (z : Int) = (z : Int) := IntWalk.i64_in _ (by omega)
        have k1 : (0 : Int) ≤ (k : Int) := by omega
        have k2 : (k : Int) < (L.length : Int) := by omega
        have t1 : ¬ ((x : Int) ≤ (z : Int) + 1) := by omega
        have t1d : decide ((x : Int) ≤ (z : Int) + 1) = false := decide_eq_false (by omega)
        have t1n : decide (x ≤ z + 1) = false := decide_eq_false (by omega)
        have g0 := fun d os => cell_regrown hc0 d os
        have g1 := fun d os => cell_regrown hd1 d os
        have HK := Lib.hid hk
        clear hk hap okz e9 hz
        go_wp2_with fail
        refine wp_region_quiet_below (by kernel_rfl) (by kernel_rfl) ?_
        repeat (go_big_quiet_step (fail))
        refine wpQuiet_nil ?_
        intro _ hw'
        obtain ⟨⟨dq, osq⟩, hw''⟩ := hw'
        subst hw''
        clear t0 t0d t0n t1 t1d t1n g0 g1 k1 k2 wi wz wz0
      all_goals
        have hgr := below_regrown wr dq osq
        generalize grow (redrawn wr dq) osq = W at *
        have HR15 := Lib.hid (⟨⟨(hgr.cell (p := ⟨g, o + i * 2, none⟩) hg).trans hc0, (hgr.cell (p := ⟨g, o + i * 2 + 1, none⟩) hg).trans hc1⟩, Nat.lt_of_lt_of_le hg hgr.size, (Below.refl _ _).drew⟩ : HR W g (o + i * 2) (x : Int) (y : Int) W.drew)
        have HG := Lib.hid hgr
        have HGA := Lib.hid (hA.below hgr hA.lt)
        have HGD := Lib.hid (hD.below hgr hD.lt)
        have HGR := Lib.hid (next hRB hgr)
        have HGB := Lib.hid (next hB hgr)
        clear hgr hc0 hc1 hA hD hR hRB hB
        go_wp2_with fail
        go_region_held3 (fun w' => HR W g (o + i * 2) (x : Int) (y : Int) w') (first
          | with_reducible exact HR.set4 (by assumption) (Nat.le_refl _)
          | with_reducible exact HR.keep (by assumption) (by assumption)
          | with_reducible exact HR.keep ((Below.refl _ _).alloc (Nat.le_refl _) _) (by assumption)
          | with_reducible exact HR.swap (by assumption) (by assumption)
          | exact HR15.out) (first
          | (go_at_call 14; refine (KRG.out _).mono ?_; rintro e w6 ⟨rfl, hb6⟩; unfold setV setC
             have sz6 : W.heap.size ≤ w6.heap.size := Nat.le_trans (by first | exact Nat.le_refl _ | (show W.heap.size ≤ (W.alloc _).heap.size; rw [World.size_alloc]; exact Nat.le_succ _)) hb6.size
             first
               | (have z1 : w6.heap[W.heap.size]? = _ := later' hb6 (heap_alloc_new _ _) rfl; obtain ⟨⟨y0, y1, y2, y3⟩, ⟨x0, x1, x2, x3⟩, l1⟩ := zeros z1)
               | skip))
        all_goals
          rename HR W g (o + i * 2) _ _ _ => hS
          have hB7 := hS.2.2
          clear hS hb6
          first
            | (have h15 := putZ (s := R) z1
               clear z1 y0 y1 y2 y3 x0 x1 x2 x3 l1
               unfold putSet at h15
               generalize (((w6.setCell ⟨W.heap.size, 0, none⟩ (.int .u64 (word R 0 : Int))).setCell ⟨W.heap.size, 1, none⟩ (.int .u64 (word R 1 : Int))).setCell ⟨W.heap.size, 2, none⟩ (.int .u64 (word R 2 : Int))).setCell ⟨W.heap.size, 3, none⟩ (.int .u64 (word R 3 : Int)) = W7 at *
               have hBW : W.heap.size ≤ W.heap.size := Nat.le_refl _
               obtain ⟨B, hBe⟩ : ∃ B, W.heap.size = B := ⟨_, rfl⟩
               rw [hBe] at h15
               replace hBW : W.heap.size ≤ B := Nat.le_of_eq hBe
               rw [hBe]
               clear hBe)
            | (have h15 := SetAt.new w6 R
               unfold setC at h15
               generalize w6.alloc (.cells #[.int .u64 (word R 0 : Int), .int .u64 (word R 1 : Int), .int .u64 (word R 2 : Int), .int .u64 (word R 3 : Int)] 24) = W7 at *
               have hBW := sz6
               generalize w6.heap.size = B at *)
          have hA7 := HGA.out.below hB7 HGA.out.lt
          have hD7 := HGD.out.below hB7 HGD.out.lt
          have HA7 := Lib.hid hA7
          have HD7 := Lib.hid hD7
          have HR7 := Lib.hid (next HGR.out hB7)
          have HB7 := Lib.hid (next HGB.out hB7)
          obtain ⟨c0, c1, c2, c3⟩ := hD7.cells
          obtain ⟨d0, d1, d2, d3⟩ := SetAt.cells h15
          clear hA7 hD7 hB7 h15
          go_wp2_with fail
          refine (union_p _ _ _).mono ?_
          rintro e w8 ⟨rfl, hb8⟩
          rw [← HJT.out]
          unfold setV setC
          have hD8 := HD7.out.below hb8 HD7.out.lt
          have HA8 := Lib.hid (HA7.out.below hb8 HA7.out.lt)
          have HR8 := Lib.hid (next HR7.out hb8)
          have HB8 := Lib.hid (next HB7.out hb8)
          have HD8 := Lib.hid hD8
          clear hb8 c0 c1 c2 c3 d0 d1 d2 d3
          obtain ⟨c0, c1, c2, c3⟩ := hD8.cells
          obtain ⟨f0, f1, f2, f3⟩ := hD8.free
          have wi1 : IntKind.i64.wrap ((i : Int) + 1) = (i : Int) + 1 := IntWalk.i64_in _ (by omega)
          clear hD8
          go_wp2_with fail
          refine ⟨⟨i + 1, by omega, by go_num, HA8.out.other (by omega) _, HD8.out.put _, below_put HR8.out (Nat.le_refl _) _, below_put HB8.out (by omega) _⟩, by simp [intOf]; omega⟩
    · obtain rfl : L.length = i := by omega
      have i1 : ¬ ((L.length : Int) < (L.length : Int)) := by omega
      rw [List.take_length, HJ.out] at hD
      have HBe := Lib.hid hB
      obtain ⟨c0, c1, c2, c3⟩ := hA.cells
      obtain ⟨d0, d1, d2, d3⟩ := hD.cells
      clear hA hD hR hB hRB
      go_wp2_with fail
      refine (KS.out _ (HTT.out.below HBe.out)).mono ?_
      rintro e w6 ⟨rfl, hb6⟩
      go_wp2_with fail
      go_ret
      exact ⟨rfl, next HBe.out hb6⟩
theorem walk (cs : Array Value) (t : ByteArray) (w : World) (hT : Tab w) (hz : cs.size = [22, 22, 22, 22].length)
    (hc : ∀ (i : Nat) (u : TypeId) (x : Value), [22, 22, 22, 22][i]? = some u → cs[i]? = some x → Cell.okWide Tryd.prog w .any w.heap.size u x) (hm : t.size ≤ maxLen) :
    Calls Tryd.prog 3 #[.agg cs, .string t] w fun e w' => e = .returned (.bool true) ∧ Below w.heap.size w w' := by
  obtain ⟨s, hs⟩ := set_of hz hc
  rw [hs]
  obtain ⟨l, rfl⟩ : ∃ l : List UInt8, t = str l := ⟨t.data.toList, rfl⟩
  exact walkB s l (by rw [size_str] at hm; unfold maxLen at hm; omega) w hT

theorem own : ownKnob Tryd.prog.godebug = none := by kernel_rfl
theorem laidOut : laidOutB Tryd.prog = true := by kernel_rfl
abbrev laidL : List (String × DataW Unit) := [("math/bits.deBruijn64tab", Rows.laid_math_bits_deBruijn64tab)]

set_option maxRecDepth 100000 in
theorem lifted (os : Os) (started : os.Started) (H : Type) (enc : TypeId × Value → H) :
    ReturnsInHanded {} Tryd.checked os 3 .any (fun w args => (Rows.classesBackSpec.pre enc Tryd.prog Tryd.f3 [] false w args ∧ laidMetH Tryd.prog laidL w) ∧ sizedMet enc Tryd.prog Tryd.f3 (OpenSpec.ofChange Rows.classesBackSpec) false w args) (Rows.classesBackSpec.post enc Tryd.prog Tryd.f3 false true false false) := by
  refine returnsInHanded_of_change_and (C := Tryd.checked) (X := fun w _ => laidMetH Tryd.prog laidL w) (fun _ _ _ hh h => h.of_heap hh) own started (by kernel_rfl) Tryd.func3
    (ChangeSpec.witness_shaped (enc := enc) (C := Tryd.checked) (os := os) (X := fun w _ => laidMetH Tryd.prog laidL w) false (World.doorLaid Tryd.prog 400 os) #[.agg #[.int .u64 0, .int .u64 0, .int .u64 0, .int .u64 0], .string .empty] 8 rfl (World.shaped_of_RefB (by kernel_rfl) (by kernel_rfl)) (by kernel_rfl) (by kernel_rfl) (by kernel_rfl) (door_met os _)) ?_
  intro W base args ds gs before hval0 hW _ _ hL _
  have hT : Tab W := tab_of_laid hL
  have hval : ∀ (j : Nat) t v, Tryd.f3.params[j]? = some t → args[j]? = some v → Value.okWide Tryd.prog W .any base t v := hval0
  have hW' := hW
  obtain ⟨p, q, hA0, hV, rfl, hfz, hnd⟩ := hW
  have hA : DataW.TrodAll enc Tryd.prog W 0 (fun _ => true) true Tryd.f3.params.toList args.toList ds p := hA0
  rw [Tryd.params3] at hA hval
  obtain ⟨v0, vs0, d0, ds0, p0, q0, hargs, rfl, rfl, k0, r0⟩ := trodAll_cons hA
  obtain ⟨v1, vs1, d1, ds1, p1, q1, rfl, rfl, rfl, k1, r1⟩ := trodAll_cons r0
  obtain ⟨rfl, rfl, rfl⟩ := trodAll_nil r1
  obtain rfl : args = #[v0, v1] := by cases args; simp_all
  obtain ⟨rfl, rfl⟩ := trodVars_none hV
  have lt0 : ∀ x ∈ p0, x.block < W.heap.size := by obtain ⟨m, hm⟩ := k0; exact DataW.trod_lt m _ _ _ hm
  have lt1 : ∀ x ∈ p1, x.block < W.heap.size := by obtain ⟨m, hm⟩ := k1; exact DataW.trod_lt m _ _ _ hm
  obtain ⟨c0, rfl, z0, g0⟩ := arg_agg (ts := [22, 22, 22, 22]) (by kernel_rfl) (by kernel_rfl) (by kernel_rfl) (hval 0 24 v0 rfl rfl)
  obtain ⟨s1, rfl, m1⟩ := arg_string Tryd.underlying9 (hval 1 9 v1 rfl rfl)
  clear hA0 hval0
  refine (walk c0 s1 W hT z0 g0 m1).mono fun e W' ⟨he, bel⟩ => ?_
  subst he
  exact ⟨_, rfl, _, _, _, [], _, [], hW', trodAll_mk1 (shut_bool Tryd.underlying4 _), (trodAll_cons_mk (Below.trod laidOut (by kernel_rfl) (of_decide_eq_true (by kernel_rfl)) k0 bel lt0) (trodAll_cons_mk (Below.trod laidOut (by kernel_rfl) (of_decide_eq_true (by kernel_rfl)) k1 bel lt1) trodAll_mk0)), rfl, bel.frame _, fun h => by cases h⟩

theorem over : Rows.classesBackRow.holds Tryd.pinned (OpenSpec.ofChange Rows.classesBackSpec) :=
  OpenClaim.holds_of_wide 3 Tryd.f3 rfl rfl rfl rfl rfl rfl rfl ⟨rfl, rfl, rfl, rfl, rfl⟩ rfl rfl rfl rfl rfl (by kernel_rfl) Tryd.func3 (by kernel_rfl)
    (of_decide_eq_true (by kernel_rfl)) (by unfold Func.isWrapper; first | (rw [if_pos (by decide +kernel)]; kernel_rfl) | (rw [if_neg (by decide +kernel)]; exact ⟨rfl, rfl⟩))
    (fun os started H enc _ => lifted os started H enc)

theorem proved : Rows.ClassesBackCardSaid :=
  Claim7.holds_tied_plain_at .later [] [.data] true (true, "22bfa03ded28fcdf6dce186b205dc0d6516f7b640c39f0a6a20e7c48906351c0") false
    over (fun _ h => by cases h) (by kernel_rfl) (fun _ h => by cases h) classesBack_row_tie rfl ⟨rfl, rfl⟩ (by kernel_rfl) rfl
    (fun f fn hf hfn => by
      obtain rfl : f = 3 := Option.some.inj ((show Tryd.prog.funcNamed "dragnet/dragnetlaw03.ClassesBack" = some 3 by kernel_rfl).symm.trans hf) |>.symm
      obtain rfl : fn = Tryd.f3 := (Option.some.inj (Tryd.func3.symm.trans hfn)).symm
      exact ⟨by kernel_rfl, fun j t ht => by
        rw [Tryd.params3] at ht
        have hm : t ∈ ([24, 9] : List Nat) := by simpa using Array.mem_of_getElem? ht
        have hall : (([24, 9] : List Nat).all fun u => !Tryd.prog.wantsStandIn u) = true := by kernel_rfl
        exact (show Tryd.prog.wantsStandIn t = false by simpa using List.all_eq_true.1 hall t hm)⟩)
    (by kernel_rfl)
#print axioms proved
end Go.Proofs.YtooiegejchcbhaaDoor.classesBack
