/- Texts that the claims share, part 3. -/
import Derived.Test.YtpjllppbpnkemaaMg2
import Derived.Stop.RegionWithIn
import Derived.Maps.AppendAt
import Derived.Shelf.SlSortCmp.Insertion
import Derived.BigRegion
import Derived.Ground.SlsfProg
import Derived.Test.YtpjllppbpnkemaaProg
import Derived.Sort.WalkA
import Derived.Sort.LotA
import Derived.Deep.RegionHeld3

/- Positions of the program. -/
namespace Go.Proofs.Ytpjllppbpnkemaa
open Go.RowKit Go.Sort Go.Shelf
attribute [local go_sem] Oper.semAt_some

theorem below_put' {n : Nat} {W : World} {l : Nat} (o : Obj) (h : n ≤ l) : Below n W (W.putObj l o) :=
  ⟨rfl, rfl, rfl, by simp [World.putObj], fun i hi => World.putObj_heap_other (by omega)⟩
theorem KS.set {W : World} {b : Nat} {v : Value} (h : Boxed W b 3 v) (u : Value) : KS (some b) W (W.drew.setCell ⟨b, 0, none⟩ u) := ⟨by simp [World.size_setCell], fun k cs t fr hk ht => by
  by_cases e : k = b
  · subst e
    rw [show W.heap[k]? = _ from h] at hk
    cases hk
    rcases ht with ht | ht | ht | ⟨_, ht⟩
    · cases ht
    · cases ht
    · cases ht
    · exact absurd rfl ht
  · rw [Below.heap_setCell _ _ _ _ e]
    exact hk⟩
set_option maxRecDepth 100000 in
set_option maxHeartbeats 8000000 in
theorem positions_in (v : Value) (p : List El) (w : World) (h : Pats w v p) (h0 : cntE p = 0) :
    CallsIn Fence.wide 8 Try.prog 20 #[v] w (PosP p w) := by
  have hb1 : Below w.heap.size w (w.alloc (.cells #[v] 22)) := (Below.refl _ _).alloc (Nat.le_refl _) _
  have bP := Boxed.new w 22 v
  obtain ⟨W1, hW1⟩ : ∃ W1, w.alloc (.cells #[v] 22) = W1 := ⟨_, rfl⟩
  rw [hW1] at hb1 bP
  have KC := Lib.hid (count_p v p W1 (Row.below h hb1))
  have HP := Lib.hid (Row.below h hb1)
  have HB1 := Lib.hid hb1
  have HBP := Lib.hid bP
  obtain ⟨a, cap, rfl⟩ := Row.form2 h
  have cp := bP.cell
  clear h hb1 bP
  refine callsIn_of_wp_marks Try.func20 rfl trivial ?_ rfl
  simp only [Try.ntmps20, List.size_toArray, List.length_cons, List.length_nil, Nat.reduceAdd, Nat.reduceSub, Array.replicate_succ, Array.replicate_zero, List.push_toArray, List.append_toArray, List.nil_append, List.cons_append]
  subst hW1
  have hok := (cntE_ok h0).1
  have HOK := Lib.hid hok
  have HCE := Lib.hid h0
  have hle := hok.le
  gi_wp2
  refine ⟨trivial, (callsIn_wide.2 KC.out).mono ?_⟩
  rintro e w2 ⟨rfl, hb2⟩
  rw [h0]
  have HB2 := Lib.hid (next HB1.out hb2)
  have bp2 := (hb2.block _ HBP.out.lt).trans HBP.out
  have cp2 := Boxed.cell bp2
  have HBP2 := Lib.hid (show Boxed w2 w.heap.size 22 (.slice a p.length cap) from bp2)
  have HP2 := Lib.hid (Row.below HP.out hb2)
  have KG := Lib.hid (gaps_p _ p w2 (Row.below HP.out hb2) (by omega))
  clear hb2 cp bp2 KC h0
  gi_wp2
  refine ⟨trivial, (callsIn_wide.2 KG.out).mono ?_⟩
  rintro e w3 ⟨v3, rfl, ho, hb3⟩
  have HB3 := Lib.hid (next HB2.out hb3)
  have bp3 := (hb3.block _ HBP2.out.lt).trans HBP2.out
  have cp3 := Boxed.cell bp3
  have HBP3 := Lib.hid (show Boxed w3 w.heap.size 22 (.slice a p.length cap) from bp3)
  have HO3 := Lib.hid ho
  have HV3 := Lib.hid (Row.of_owns ho)
  obtain ⟨ga, gc, rfl⟩ := Row.form2 HV3.out
  have KA := Lib.hid (fun w => all_p (.slice ga (gapsV p).length gc) w ⟨_, _, _, rfl⟩)
  clear ho hb3 cp2 bp3 KG
  gi_wp2
  refine ⟨trivial, (callsIn_wide.2 (KA.out _)).mono ?_⟩
  rintro e w4 ⟨rfl, rfl⟩
  have hw3 := HB3.out.size
  have hw0 := HBP3.out.lt
  have bG6 := ((Boxed.new w3 22 (.slice ga (gapsV p).length gc)).alloc (.cells #[.int .i64 0] 3)).alloc (.cells #[.slice ga (gapsV p).length gc] 22)
  have bN6 := (Boxed.new (w3.alloc (.cells #[.slice ga (gapsV p).length gc] 22)) 3 (.int .i64 0)).alloc (.cells #[.slice ga (gapsV p).length gc] 22)
  have bI6 := Boxed.new ((w3.alloc (.cells #[.slice ga (gapsV p).length gc] 22)).alloc (.cells #[.int .i64 0] 3)) 22 (.slice ga (gapsV p).length gc)
  have bP6 := ((HBP3.out.alloc (.cells #[.slice ga (gapsV p).length gc] 22)).alloc (.cells #[.int .i64 0] 3)).alloc (.cells #[.slice ga (gapsV p).length gc] 22)
  have own6 := ((ownsRow_base (base' := 0) HO3.out (Nat.zero_le _)).alloc (.cells #[.slice ga (gapsV p).length gc] 22)).alloc (.cells #[.int .i64 0] 3) |>.alloc (.cells #[.slice ga (gapsV p).length gc] 22)
  have hB6 : Below w.heap.size w (((w3.alloc (.cells #[.slice ga (gapsV p).length gc] 22)).alloc (.cells #[.int .i64 0] 3)).alloc (.cells #[.slice ga (gapsV p).length gc] 22)) := ((HB3.out.alloc hw3 _).alloc (by simp; omega) _).alloc (by simp; omega) _
  simp only [World.size_alloc] at bN6 bI6 ⊢
  obtain ⟨W6, hW6⟩ : ∃ W6, (((w3.alloc (.cells #[.slice ga (gapsV p).length gc] 22)).alloc (.cells #[.int .i64 0] 3)).alloc (.cells #[.slice ga (gapsV p).length gc] 22)) = W6 := ⟨_, rfl⟩
  have hs6 : W6.heap.size = w3.heap.size + 3 := by rw [← hW6]; simp
  rw [hW6] at bG6 bN6 bI6 bP6 own6 hB6 ⊢
  have HOWN := ownOf_in HOK.out
  have HG := Lib.hid HOK.out.gaps
  have HCNT := (cntE_ok HCE.out).2
  have HPS := Lib.hid (show posSum p = sumTo (ownOf p) (lexN (gapsV p) []) from rfl)
  have HOF := Lib.hid (show ownOf p = (p.length : Int) - ((gapsV p).length : Int) from rfl)
  have hgl : (gapsV p).length ≤ p.length := List.length_filter_le _ _
  rw [← lexN_count HG.out] at HCNT
  clear hW6 cp3 KA HO3 HV3 HP HP2 HBP HBP2 HBP3 HB1 HB2 HB3
  gi_wp2
  refine range_vals (gf := 68) rfl (enters_of Try.func68 (by kernel_rfl) rfl)
    (all_iter (w3.heap.size + 1 + 1) (w3.heap.size + 2) (some (w3.heap.size + 1)) (fun k e => by cases e; omega) _ _ HG.out W6 (by omega) bI6 own6) (Below.refl _ _) rfl
    (fun v c W l o o' h hl ho => owns_keep h fun g cs _ hg => (World.putObj_heap_other (by rintro rfl; rw [hl] at hg; cases hg; cases ho)).trans hg)
    (fun a b => a.trans b) (fun W l o o' _ hl ho => KS.putObj _ W l o o' hl ho)
    (fun pre W => (Boxed W (w3.heap.size + 1) 3 (.int .i64 (sumTo (ownOf p) pre)) ∧ Boxed W w3.heap.size 22 (.slice ga (gapsV p).length gc) ∧ Boxed W w.heap.size 22 (.slice a p.length cap)) ∧ Below w.heap.size w W)
    (fun s A l o o' hs hl ho hc => ⟨⟨hs.1.1.kept (grownBy_putObj' A l o') (by simp; omega), hs.1.2.1.kept (grownBy_putObj' A l o') (by simp; omega), hs.1.2.2.kept (grownBy_putObj' A l o') (by simp; omega)⟩, hs.2.trans (below_put' _ (by omega))⟩)
    (fun s A B hs st => ⟨⟨(st.block _ hs.1.1.lt).trans hs.1.1, (st.block _ hs.1.2.1.lt).trans hs.1.2.1, (st.block _ hs.1.2.2.lt).trans hs.1.2.2⟩, next hs.2 st⟩)
    (fun o1 o2 _ _ => ⟨⟨(bN6.alloc _).alloc _, (bG6.alloc _).alloc _, (bP6.alloc _).alloc _⟩, (hB6.alloc (by omega) _).alloc (by simp; omega) _⟩)
    ?a1 ?assign ?body ?done
  case assign =>
    intro l x W K hK
    gi_wp2
    exact hK
  case body =>
    rintro l pre c v W ⟨⟨hn, hgb, hpb⟩, hB⟩ hpre hgv
    have hmem : c ∈ lexN (gapsV p) [] := hpre.subset (by simp)
    have HSM := Lib.hid (lexN_small HG.out hmem).1
    have hlen := hpre.length_le
    rw [List.length_append, List.length_singleton] at hlen
    have hin := sumTo_in HOWN (l := pre) (fun d hd => (lexN_small HG.out (hpre.subset (List.mem_append_left _ hd))).1)
    have hcs := HSM.out.sum_in c.length (Nat.le_refl _)
    rw [List.take_length] at hcs
    have hcl := HSM.out.1
    have HSN := Lib.hid (sumTo_snoc (ownOf p) pre c)
    have KT := Lib.hid (fun (W' : World) (h : W'.ownsRow (w3.heap.size + 2) 3 1 v c.length (icell c)) => total_p v c W' (Row.of_owns h) HSM.out)
    have HGV := Lib.hid hgv
    obtain ⟨va, vc, rfl⟩ := Row.form2 (Row.of_owns hgv)
    have cn := hn.cell
    have fn := hn.frozen
    have cg := hgb.cell
    have cpp := hpb.cell
    have wa : IntKind.i64.wrap ((p.length : Int) - ((gapsV p).length : Int)) = ownOf p := by rw [HOF.out]; exact IntWalk.i64_in _ (by omega)
    have wb : IntKind.i64.wrap (ownOf p + c.sum) = ownOf p + c.sum := IntWalk.i64_in _ (by omega)
    have wc : IntKind.i64.wrap (sumTo (ownOf p) pre + (ownOf p + c.sum)) = sumTo (ownOf p) pre + (ownOf p + c.sum) := IntWalk.i64_in _ (by omega)
    have HN := Lib.hid hn
    have HGB := Lib.hid hgb
    have HPB := Lib.hid hpb
    have HB := Lib.hid hB
    have FIN := Lib.hid (show KeepsFrom W6.heap.size W (W.drew.setCell ⟨w3.heap.size + 1, 0, none⟩ (.int .i64 (sumTo (ownOf p) pre + (ownOf p + c.sum)))) ∧ KS (some (w3.heap.size + 1)) W (W.drew.setCell ⟨w3.heap.size + 1, 0, none⟩ (.int .i64 (sumTo (ownOf p) pre + (ownOf p + c.sum)))) ∧ (Boxed (W.drew.setCell ⟨w3.heap.size + 1, 0, none⟩ (.int .i64 (sumTo (ownOf p) pre + (ownOf p + c.sum)))) (w3.heap.size + 1) 3 (.int .i64 (sumTo (ownOf p) (pre ++ [c]))) ∧ Boxed (W.drew.setCell ⟨w3.heap.size + 1, 0, none⟩ (.int .i64 (sumTo (ownOf p) pre + (ownOf p + c.sum)))) w3.heap.size 22 (.slice ga (gapsV p).length gc) ∧ Boxed (W.drew.setCell ⟨w3.heap.size + 1, 0, none⟩ (.int .i64 (sumTo (ownOf p) pre + (ownOf p + c.sum)))) w.heap.size 22 (.slice a p.length cap)) ∧ Below w.heap.size w (W.drew.setCell ⟨w3.heap.size + 1, 0, none⟩ (.int .i64 (sumTo (ownOf p) pre + (ownOf p + c.sum)))) from ⟨((KeepsOthers.drew W).trans (KeepsOthers.setCell _ _ _)).from _, KS.set HN.out _, ⟨by rw [HSN.out]; exact (show Boxed W.drew _ _ _ from HN.out).set _, (show Boxed W.drew _ _ _ from HGB.out).other (by omega) _, (show Boxed W.drew _ _ _ from HPB.out).other (by omega) _⟩, (HB.out.drew).setCell (p := ⟨w3.heap.size + 1, 0, none⟩) (show w.heap.size ≤ w3.heap.size + 1 by omega) _⟩)
    have HHZ := Lib.hid (show (W.drew.setCell ⟨w3.heap.size + 1, 0, none⟩ (.int .i64 (sumTo (ownOf p) pre + (ownOf p + c.sum)))).cell? ⟨w.heap.size, 0, none⟩ = some (.slice a p.length cap) ∧ (W.drew.setCell ⟨w3.heap.size + 1, 0, none⟩ (.int .i64 (sumTo (ownOf p) pre + (ownOf p + c.sum)))).cell? ⟨w3.heap.size, 0, none⟩ = some (.slice ga (gapsV p).length gc) from ⟨FIN.out.2.2.1.2.2.cell, FIN.out.2.2.1.2.1.cell⟩)
    have FIN := Lib.hid (show KeepsFrom W6.heap.size W (W.drew.setCell ⟨w3.heap.size + 1, 0, none⟩ (.int .i64 (sumTo (ownOf p) pre + (ownOf p + c.sum)))) ∧ KS (some (w3.heap.size + 1)) W (W.drew.setCell ⟨w3.heap.size + 1, 0, none⟩ (.int .i64 (sumTo (ownOf p) pre + (ownOf p + c.sum)))) ∧ (Boxed (W.drew.setCell ⟨w3.heap.size + 1, 0, none⟩ (.int .i64 (sumTo (ownOf p) pre + (ownOf p + c.sum)))) (w3.heap.size + 1) 3 (.int .i64 (sumTo (ownOf p) (pre ++ [c]))) ∧ Boxed (W.drew.setCell ⟨w3.heap.size + 1, 0, none⟩ (.int .i64 (sumTo (ownOf p) pre + (ownOf p + c.sum)))) w3.heap.size 22 (.slice ga (gapsV p).length gc) ∧ Boxed (W.drew.setCell ⟨w3.heap.size + 1, 0, none⟩ (.int .i64 (sumTo (ownOf p) pre + (ownOf p + c.sum)))) w.heap.size 22 (.slice a p.length cap)) ∧ Below w.heap.size w (W.drew.setCell ⟨w3.heap.size + 1, 0, none⟩ (.int .i64 (sumTo (ownOf p) pre + (ownOf p + c.sum)))) from ⟨((KeepsOthers.drew W).trans (KeepsOthers.setCell _ _ _)).from _, KS.set HN.out _, ⟨by rw [HSN.out]; exact (show Boxed W.drew _ _ _ from HN.out).set _, (show Boxed W.drew _ _ _ from HGB.out).other (by omega) _, (show Boxed W.drew _ _ _ from HPB.out).other (by omega) _⟩, (HB.out.drew).setCell (p := ⟨w3.heap.size + 1, 0, none⟩) (show w.heap.size ≤ w3.heap.size + 1 by omega) _⟩)
    have HHZ := Lib.hid (show (W.drew.setCell ⟨w3.heap.size + 1, 0, none⟩ (.int .i64 (sumTo (ownOf p) pre + (ownOf p + c.sum)))).cell? ⟨w.heap.size, 0, none⟩ = some (.slice a p.length cap) ∧ (W.drew.setCell ⟨w3.heap.size + 1, 0, none⟩ (.int .i64 (sumTo (ownOf p) pre + (ownOf p + c.sum)))).cell? ⟨w3.heap.size, 0, none⟩ = some (.slice ga (gapsV p).length gc) from ⟨FIN.out.2.2.1.2.2.cell, FIN.out.2.2.1.2.1.cell⟩)
    clear hn hgb hpb hB hgv hmem hpre hin hcs hlen
    gi_wp2
    refine region_round (fun w' => w'.cell? ⟨w.heap.size, 0, none⟩ = some (.slice a p.length cap) ∧ w'.cell? ⟨w3.heap.size, 0, none⟩ = some (.slice ga (gapsV p).length gc)) (by kernel_rfl) (by kernel_rfl) (by rintro ⟨_, _, h⟩; exact h) ⟨cpp, cg⟩ (fun hH0 => ?_)
    refine held_take (i := 1) (oi := _) (v := .slice a p.length cap) (some 23) rfl rfl (by kernel_rfl) (by kernel_rfl) (by kernel_rfl) (fun _ _ _ h => h) (Or.inl ⟨by rfl, fun w' hw => (by obtain ⟨x1, x2⟩ := hw; go_simp)⟩) hH0 ?_
    try simp only [Act.put, List.setIfInBounds_toArray, List.set_cons_zero, List.set_cons_succ]
    refine held_take (i := 2) (oi := _) (v := .int .i64 (p.length : Int)) (some 24) rfl rfl (by kernel_rfl) (by kernel_rfl) (by kernel_rfl) (fun _ _ _ h => h) (Or.inl ⟨by rfl, fun w' hw => (by go_simp)⟩) hH0 ?_
    try simp only [Act.put, List.setIfInBounds_toArray, List.set_cons_zero, List.set_cons_succ]
    refine held_take (i := 3) (oi := _) (v := .slice ga (gapsV p).length gc) (some 25) rfl rfl (by kernel_rfl) (by kernel_rfl) (by kernel_rfl) (fun _ _ _ h => h) (Or.inl ⟨by rfl, fun w' hw => (by obtain ⟨x1, x2⟩ := hw; go_simp)⟩) hH0 ?_
    try simp only [Act.put, List.setIfInBounds_toArray, List.set_cons_zero, List.set_cons_succ]
    refine held_take (i := 4) (oi := _) (v := .int .i64 ((gapsV p).length : Int)) (some 26) rfl rfl (by kernel_rfl) (by kernel_rfl) (by kernel_rfl) (fun _ _ _ h => h) (Or.inl ⟨by rfl, fun w' hw => (by go_simp)⟩) hH0 ?_
    try simp only [Act.put, List.setIfInBounds_toArray, List.set_cons_zero, List.set_cons_succ]
    refine held_take (i := 5) (oi := _) (v := .int .i64 (ownOf p)) (some 27) rfl rfl (by kernel_rfl) (by kernel_rfl) (by kernel_rfl) (fun _ _ _ h => h) (Or.inl ⟨by rfl, fun w' hw => (by go_simp)⟩) hH0 ?_
    try simp only [Act.put, List.setIfInBounds_toArray, List.set_cons_zero, List.set_cons_succ]
    refine held_take (i := 6) (oi := _) (v := .slice va c.length vc) (some 28) rfl rfl (by kernel_rfl) (by kernel_rfl) (by kernel_rfl) (fun _ _ _ h => h) (Or.inl ⟨by rfl, fun w' hw => (by go_simp)⟩) hH0 ?_
    try simp only [Act.put, List.setIfInBounds_toArray, List.set_cons_zero, List.set_cons_succ]
    refine wpAnyH_ready (rs := [0, 7]) (by kernel_rfl) (by simp) ?_
    refine AllReadyH.cons (o := _) rfl (fun K1' hK1 => ?_) (AllReadyH.cons (o := _) rfl (fun K2' hK2 => ?_) AllReadyH.nil)
    · go_simp
      refine hK1.out _ _ hH0 (fun _ => ?_)
      try simp only [Act.put, List.setIfInBounds_toArray, List.set_cons_zero, List.set_cons_succ]
      clear hK1
      refine wpAnyH_ready (rs := [7]) (by kernel_rfl) (by simp) ?_
      refine AllReadyH.cons (o := _) rfl (fun K3' hK3 => ?_) AllReadyH.nil
      go_simp
      refine (KT.out W.drew HGV.out).mono ?_
      rintro e u1 ⟨rfl, rfl⟩
      dsimp only
      refine hK3.out _ _ hH0 (fun _ => ?_)
      try simp only [Act.put, List.setIfInBounds_toArray, List.set_cons_zero, List.set_cons_succ]
      clear hK3
      refine held_take (i := 8) (oi := _) (v := .int .i64 (ownOf p + c.sum)) (some 30) rfl rfl (by kernel_rfl) (by kernel_rfl) (by kernel_rfl) (fun _ _ _ h => h) (Or.inl ⟨by rfl, fun w' hw => (by go_simp)⟩) hH0 ?_
      try simp only [Act.put, List.setIfInBounds_toArray, List.set_cons_zero, List.set_cons_succ]
      refine held_take (i := 9) (oi := _) (v := .int .i64 (sumTo (ownOf p) pre + (ownOf p + c.sum))) (some 31) rfl rfl (by kernel_rfl) (by kernel_rfl) (by kernel_rfl) (fun _ _ _ h => h) (Or.inl ⟨by rfl, fun w' hw => (by go_simp)⟩) hH0 ?_
      try simp only [Act.put, List.setIfInBounds_toArray, List.set_cons_zero, List.set_cons_succ]
      refine wpAnyH_ready (rs := [10]) (by kernel_rfl) (by simp) ?_
      refine AllReadyH.cons (o := _) rfl (fun K9' hK9 => ?_) AllReadyH.nil
      go_simp
      refine hK9.out _ _ HHZ.out (fun _ => ?_)
      try simp only [Act.put, List.setIfInBounds_toArray, List.set_cons_zero, List.set_cons_succ]
      clear hK9
      refine wpAnyH_done (by kernel_rfl) ?_ _
      gi_wp2
      exact FIN.out
    · go_simp
      refine (KT.out W.drew HGV.out).mono ?_
      rintro e u1 ⟨rfl, rfl⟩
      dsimp only
      refine hK2.out _ _ hH0 (fun _ => ?_)
      try simp only [Act.put, List.setIfInBounds_toArray, List.set_cons_zero, List.set_cons_succ]
      clear hK2
      refine held_take (i := 8) (oi := _) (v := .int .i64 (ownOf p + c.sum)) (some 30) rfl rfl (by kernel_rfl) (by kernel_rfl) (by kernel_rfl) (fun _ _ _ h => h) (Or.inl ⟨by rfl, fun w' hw => (by go_simp)⟩) hH0 ?_
      try simp only [Act.put, List.setIfInBounds_toArray, List.set_cons_zero, List.set_cons_succ]
      refine wpAnyH_ready (rs := [0]) (by kernel_rfl) (by simp) ?_
      refine AllReadyH.cons (o := _) rfl (fun K4' hK4 => ?_) AllReadyH.nil
      go_simp
      refine hK4.out _ _ hH0 (fun _ => ?_)
      try simp only [Act.put, List.setIfInBounds_toArray, List.set_cons_zero, List.set_cons_succ]
      clear hK4
      refine held_take (i := 9) (oi := _) (v := .int .i64 (sumTo (ownOf p) pre + (ownOf p + c.sum))) (some 31) rfl rfl (by kernel_rfl) (by kernel_rfl) (by kernel_rfl) (fun _ _ _ h => h) (Or.inl ⟨by rfl, fun w' hw => (by go_simp)⟩) hH0 ?_
      try simp only [Act.put, List.setIfInBounds_toArray, List.set_cons_zero, List.set_cons_succ]
      refine wpAnyH_ready (rs := [10]) (by kernel_rfl) (by simp) ?_
      refine AllReadyH.cons (o := _) rfl (fun K9' hK9 => ?_) AllReadyH.nil
      go_simp
      refine hK9.out _ _ HHZ.out (fun _ => ?_)
      try simp only [Act.put, List.setIfInBounds_toArray, List.set_cons_zero, List.set_cons_succ]
      clear hK9
      refine wpAnyH_done (by kernel_rfl) ?_ _
      gi_wp2
      exact FIN.out
  case done =>
    rintro D W hD ⟨⟨hn, hgb, hpb⟩, hB⟩ hK
    rw [← HPS.out] at hn
    have cn := hn.cell
    have HB := Lib.hid hB
    have HK := Lib.hid hK
    clear hn hgb hpb hB hK
    by_cases h256 : 256 < posSum p
    · have HE := Lib.hid (show posE p = 3 by unfold posE; rw [if_neg (by rw [HCE.out]; simp), if_pos h256])
      have HV := Lib.hid (show posV p = 0 by unfold posV; rw [if_neg (by rw [HE.out]; decide)])
      generalize posSum p = S at *
      gi_wp2
      refine ⟨by simp, .inl ⟨_, _, rfl, run_takeDeferred HK.out, ?_⟩⟩
      exact ⟨_, results_tmp2 rfl _ _ _, show PosP _ _ _ _ from ⟨by rw [HE.out, HV.out]; rfl, HB.out.trans (below_put' _ (by omega))⟩⟩
    · have HE := Lib.hid (show posE p = 0 by unfold posE; rw [if_neg (by rw [HCE.out]; simp), if_neg h256])
      have HV := Lib.hid (show posV p = posSum p by unfold posV; rw [if_pos HE.out])
      generalize posSum p = S at *
      gi_wp2
      refine ⟨by simp, .inl ⟨_, _, rfl, run_takeDeferred HK.out, ?_⟩⟩
      exact ⟨_, results_tmp2 rfl _ _ _, show PosP _ _ _ _ from ⟨by rw [HE.out, HV.out]; rfl, HB.out.trans (below_put' _ (by omega))⟩⟩
theorem positions_p (v : Value) (p : List El) (w : World) (h : Pats w v p) : Calls Try.prog 20 #[v] w (PosP p w) := by
  by_cases h0 : cntE p = 0
  · exact callsIn_wide.1 (positions_in v p w h h0)
  · have HE := Lib.hid (show posE p = cntE p by unfold posE; rw [if_pos h0])
    have HV := Lib.hid (show posV p = 0 by unfold posV; rw [if_neg (by rw [HE.out]; exact h0)])
    have hb1 : Below w.heap.size w (w.alloc (.cells #[v] 22)) := (Below.refl _ _).alloc (Nat.le_refl _) _
    have cp := (Boxed.new w 22 v).cell
    have KC := Lib.hid (count_p v p _ (Row.below h hb1))
    have HB1 := Lib.hid hb1
    obtain ⟨a, cap, rfl⟩ := Row.form2 h
    have t1 : (cntE p != 0) = true := bne_iff_ne.2 h0
    unfold CntP at KC
    generalize cntE p = E at *
    generalize cntV p = V at *
    clear h0 h hb1
    go_enter Try.func20, Try.ntmps20
    go_wp2_with fail
    refine KC.out.mono ?_
    rintro e w2 ⟨rfl, hb2⟩
    have HB2 := Lib.hid (next HB1.out hb2)
    clear hb2
    go_wp2_with fail
    go_ret2
    exact show PosP _ _ _ _ from ⟨by rw [HE.out, HV.out]; rfl, HB2.out⟩
end Go.Proofs.Ytpjllppbpnkemaa

/- slices.Collect over the choices: the list of slices of numbers. -/
namespace Go.Proofs.Ytpjllppbpnkemaa
open Go.RowKit Go.Sort Go.Shelf
attribute [local go_sem] Oper.semAt_some

/-- a block of another type stays where an own row grows -/
theorem grown_keep {w w' : World} {base n s : Nat} {e t : TypeId} {v : Value} {xs : List Value} (hown : w.ownsRow base e s v n xs) (hg : w.grownBy w' v.ownBlock) {g : Nat} {cs : Array Value} {fr : Nat × Nat} (h : w.heap[g]? = some (.cells cs t fr)) (hne : t ≠ e) : w'.heap[g]? = some (.cells cs t fr) := by
  have hlt := (Array.getElem?_eq_some_iff.1 h).1
  rw [hg.block g hlt ?_]
  · exact h
  · intro e1
    rcases hown.2 with ⟨rfl, _⟩ | ⟨g', cap, cur, rfl, _, hg', _⟩
    · cases e1
    · cases e1
      rw [h] at hg'
      injection hg' with hg'
      injection hg' with _ h2
      exact hne h2
theorem infoL : (Try.prog.info? 34).map (fun i => (i.zero, i.size, i.bytes)) = some (some (.slice none 0 0), 1, 24) := by kernel_rfl
/-- slices of numbers, each in a block of its own type -/
def Elems (W : World) (B : Nat) (vs : List Value) (l : List (List Int)) : Prop := vs.length = l.length ∧ ∀ i (h : i < l.length) (h' : i < vs.length), W.ownsRow B 3 1 vs[i] l[i].length (icell l[i])
theorem Elems.keep {A C : World} {B : Nat} {vs : List Value} {l : List (List Int)} (h : Elems A B vs l) (hk : ∀ (g : Nat) (cs : Array Value), A.heap[g]? = some (.cells cs 3) → C.heap[g]? = some (.cells cs 3)) : Elems C B vs l :=
  ⟨h.1, fun i hi hi' => owns_keep (h.2 i hi hi') fun g cs _ hg => hk g cs hg⟩
theorem Elems.below {A C : World} {B : Nat} {vs : List Value} {l : List (List Int)} (h : Elems A B vs l) (hb : Below A.heap.size A C) : Elems C B vs l :=
  h.keep fun g _ hg => (hb.block g (Array.getElem?_eq_some_iff.1 hg).1).trans hg
theorem Elems.snoc {W : World} {B : Nat} {vs : List Value} {l : List (List Int)} (h : Elems W B vs l) {v : Value} {c : List Int} (hv : W.ownsRow B 3 1 v c.length (icell c)) : Elems W B (vs ++ [v]) (l ++ [c]) := by
  refine ⟨by simp [h.1], fun i hi hi' => ?_⟩
  by_cases e : i < l.length
  · rw [List.getElem_append_left (by rw [h.1]; exact e), List.getElem_append_left e]
    exact h.2 i e _
  · have e2 : i = l.length := by simp at hi; omega
    subst e2
    simp only [List.getElem_append_right (Nat.le_refl _), Nat.sub_self]
    have e3 := h.1
    rw [List.getElem_append_right (by omega)]
    simp only [e3, Nat.sub_self, List.getElem_cons_zero]
    exact hv
/-- a list of such slices -/
def Lists (W : World) (base B : Nat) (v : Value) (l : List (List Int)) : Prop := ∃ vs, W.ownsRow base 34 1 v l.length vs ∧ Elems W B vs l
theorem put_int {W : World} {l : Nat} {o o' : Obj} (hl : W.heap[l]? = some o) (ho : o.isCells = false) (g : Nat) (cs : Array Value) (hg : W.heap[g]? = some (.cells cs 3)) : (W.putObj l o').heap[g]? = some (.cells cs 3) :=
  (World.putObj_heap_other (by rintro rfl; rw [hl] at hg; cases hg; cases ho)).trans hg
theorem below_put2 {n : Nat} {W : World} {l : Nat} (o : Obj) (h : n ≤ l) : Below n W (W.putObj l o) :=
  ⟨rfl, rfl, rfl, by simp [World.putObj], fun i hi => World.putObj_heap_other (by omega)⟩

set_option maxRecDepth 100000 in
set_option maxHeartbeats 4000000 in
theorem appendSeq_v (gf : Nat) (lb : Array Value) (hgf : ∀ args w, (callFunc gf args).run Try.prog w = .ok (.enter gf args) w) (B : Nat) (items : List (List Int)) (w : World)
    (hit : IterV Try.prog gf lb (fun v c W => W.ownsRow B 3 1 v c.length (icell c)) (KS none) items w) (hlen : items.length ≤ 1000000) :
    CallsIn Fence.wide 8 Try.prog 71 #[.slice none 0 0, .func (.func gf) #[] lb] w fun e w' =>
      ∃ v, e = .returned v ∧ Lists w' w.heap.size B v items ∧ Below w.heap.size w w' := by
  obtain ⟨i0, hi, hz0, hz1, hz2⟩ := info_parts infoL
  refine callsIn_of_wp_marks Try.func71 rfl trivial ?_ rfl
  simp only [Try.ntmps71, List.size_toArray, List.length_cons, List.length_nil, Nat.reduceAdd, Nat.reduceSub, Array.replicate_succ, Array.replicate_zero, List.push_toArray, List.append_toArray, List.nil_append, List.cons_append]
  gi_wp2
  have bO := Boxed.new w 42 (.slice none 0 0)
  have hB1 : Below w.heap.size w (w.alloc (.cells #[.slice none 0 0] 42)) := (Below.refl _ w).alloc (Nat.le_refl _) _
  have hs1 : (w.alloc (.cells #[.slice none 0 0] 42)).heap.size = w.heap.size + 1 := by simp
  obtain ⟨W4, hW4⟩ : ∃ W4, w.alloc (.cells #[.slice none 0 0] 42) = W4 := ⟨_, rfl⟩
  rw [hW4] at bO hB1 hs1 ⊢
  clear hW4
  refine range_vals (gf := gf) rfl hgf hit hB1 rfl
    (fun v c W l o o' h hl ho => owns_keep h fun g cs _ hg => put_int hl ho g cs hg)
    (fun a b => a.trans b) (fun W l o o' _ hl ho => KS.putObj _ W l o o' hl ho)
    (fun pre W => (∃ v vs, Boxed W w.heap.size 42 v ∧ W.ownsRow (w.heap.size + 1) 34 1 v pre.length vs ∧ Elems W B vs pre) ∧ Below w.heap.size w W ∧ w.heap.size + 1 ≤ W.heap.size)
    (fun s A l o o' hs hl ho hc => ⟨by obtain ⟨v, vs, h1, h2, h3⟩ := hs.1; exact ⟨v, vs, h1.kept (grownBy_putObj' A l o') (by simp; omega), ownsRow_putObj h2 o' ho hc, h3.keep fun g cs hg => put_int ho hc g cs hg⟩, hs.2.1.trans (below_put2 _ (by omega)), by have := hs.2.2; simpa [World.putObj] using this⟩)
    (fun s A C hs st => ⟨by obtain ⟨v, vs, h1, h2, h3⟩ := hs.1; exact ⟨v, vs, (st.block _ h1.lt).trans h1, ownsRow_below h2 st, h3.below st⟩, next hs.2.1 st, Nat.le_trans hs.2.2 st.size⟩)
    (fun o1 o2 _ _ => ⟨⟨_, [], (bO.alloc _).alloc _, World.ownsRow_nil _ _ _ _, rfl, fun i hi => absurd hi (by simp)⟩, (hB1.alloc (by omega) _).alloc (by simp; omega) _, by simp; omega⟩)
    ?a1 ?assign ?body ?done
  case assign =>
    intro l x W K hK
    gi_wp2
    exact hK
  case body =>
    rintro l pre c x W ⟨⟨v, vs, hv, hrow, hel⟩, hB, hs⟩ hpre hgv
    have hc2 := hv.cell
    have hf2 := hv.frozen
    have hpl : pre.length + 1 ≤ 1000000 := by
      have h1 := hpre.length_le
      simp at h1; omega
    obtain ⟨xa, xc, rfl⟩ := Row.form2 (Row.of_owns hgv)
    gi_wp2_with (gi_at_builtin; refine wpListIn_append_own _ rfl _ _ 42 rfl (w.heap.size + 1) 34 i0 _ 1 24 Try.underlying42 hi hz0 hz1 hz2 rfl (by decide) _ _ _ rfl (hrow.alloc _) ⟨W.heap.size, 0, none⟩ 1 1 [.slice xa c.length xc] rfl rfl (cells_new _ _ _) (by simp [Value.oneCell']) (by unfold maxLen; omega) (by omega) (by simp; omega) ?_; intro v' w1 hown' hgrow _; obtain ⟨g', cap', rfl⟩ := ownsRow_succ hown'; obtain ⟨hv1, hv2, hr2, hk2, hb2⟩ := hv.appended (n₀ := w.heap.size) (by decide) (ownsRow_base hrow (by omega)) hB.size (by omega) (ownsRow_base hown' (by omega)) hgrow; have hc3 := hv1.cell; have hf3 := hv1.frozen)
    have hkeep : ∀ (k : Nat) (cs : Array Value) (t : TypeId) (fr : Nat × Nat), W.heap[k]? = some (.cells cs t fr) → t ≠ 34 → t ≠ 42 → (w1.setCell ⟨w.heap.size, 0, none⟩ (.slice (some ⟨g', 0, none⟩) (pre.length + 1) cap')).heap[k]? = some (.cells cs t fr) := by
      intro k cs t fr hk h1 h2
      have hne : k ≠ w.heap.size := by
        rintro rfl
        rw [show W.heap[w.heap.size]? = _ from hv] at hk
        cases hk
        exact h2 rfl
      rw [Below.heap_setCell _ _ _ _ hne]
      exact grown_keep (hrow.alloc _) hgrow ((heap_alloc_old _ _ (Array.getElem?_eq_some_iff.1 hk).1).trans hk) h1
    refine ⟨hk2.from _, ⟨hb2.size, fun k cs t fr hk ht => hkeep k cs t fr hk (by rcases ht with rfl | rfl | rfl | ⟨rfl, _⟩ <;> decide) (by rcases ht with rfl | rfl | rfl | ⟨rfl, _⟩ <;> decide)⟩, ⟨_, vs ++ [.slice xa c.length xc], hv2, ?_, ?_⟩, hB.trans hb2, ?_⟩
    · rw [List.length_append]; exact hown'.kept (grownBy_setCell' w1 w.heap.size _) (.inr (hv1.not_row (by decide) hown').symm)
    · refine Elems.keep (hel.snoc hgv) fun g cs hg => hkeep g cs _ _ hg (by decide) (by decide)
    · have := hb2.size; omega
  case done =>
    rintro D W hD ⟨⟨v, vs, hv, hrow, hel⟩, hB, _⟩ hK
    have hc2 := hv.cell
    gi_wp2
    refine ⟨by simp, .inl ⟨_, _, rfl, run_takeDeferred hK, ?_⟩⟩
    exact ⟨_, results_tmp rfl _ _ _, v, rfl, ⟨vs, ownsRow_putObj (ownsRow_base hrow (by omega)) _ hK rfl, hel.keep fun g cs hg => put_int hK rfl g cs hg⟩, hB.trans (below_put2 _ (by omega))⟩
theorem collect_v (gf : Nat) (lb : Array Value) (hgf : ∀ args w, (callFunc gf args).run Try.prog w = .ok (.enter gf args) w) (B : Nat) (items : List (List Int)) (w : World)
    (hit : IterV Try.prog gf lb (fun v c W => W.ownsRow B 3 1 v c.length (icell c)) (KS none) items w) (hlen : items.length ≤ 1000000) :
    Calls Try.prog 54 #[.func (.func gf) #[] lb] w fun e w' =>
      ∃ v, e = .returned v ∧ Lists w' w.heap.size B v items ∧ Below w.heap.size w w' := by
  have hc := callsIn_wide.1 (appendSeq_v gf lb hgf B items w hit hlen)
  have HC := Lib.hid hc
  clear hc hit hlen
  go_enter Try.func54, Try.ntmps54
  go_wp2_with fail
  refine HC.out.mono ?_
  rintro e w' ⟨v, rfl, h1, h2⟩
  have H1 := Lib.hid h1
  have H2 := Lib.hid h2
  clear h1 h2
  go_wp2_with fail
  go_ret
  exact ⟨v, rfl, H1.out, H2.out⟩
end Go.Proofs.Ytpjllppbpnkemaa

/- slices.swapRangeCmpFunc and rotateCmpFunc over a row of one-cell elements. -/
namespace Go.Proofs.Ytpjllppbpnkemaa
open Go.Shelf Go.RowKit Go.Lib Go.Sort

/-- two parts exchanged, the first n of each -/
def swapR (d : Array Nat) (a b : Nat) : Nat → Array Nat
  | 0 => d
  | n + 1 => swp (swapR d a b n) (a + n) (b + n)
theorem swapR_size (d : Array Nat) (a b : Nat) : ∀ n, (swapR d a b n).size = d.size
  | 0 => rfl
  | n + 1 => by rw [swapR, size_swp, swapR_size]
set_option maxRecDepth 100000 in
set_option maxHeartbeats 8000000 in
theorem swapRange_p (enc : Nat → Value) (hO : OneCell enc) (blk cap a b n m : Nat) (cv : Value) (d0 d : Array Nat) (w : World) (hH : Holds enc w blk 0 d0) (hs : d.size = d0.size) (h1 : a + n ≤ b) (h2 : b + n ≤ d.size) (hsz : d.size ≤ 1000000) :
    Calls Try.prog 100 #[.slice (some ⟨blk, 0, none⟩) d.size cap, .int .i64 (a : Int), .int .i64 (b : Int), .int .i64 (n : Int), cv] ((putRow enc w blk 0 d).drewN m) fun e w' => e = .returned (.tuple #[]) ∧ ∃ q, w' = (putRow enc w blk 0 (swapR d a b n)).drewN q := by
  have hcl0 := hO.cells
  simp only [Value.cells] at hcl0
  have hst := hO.store Try.prog
  have HH := Lib.hid hH
  have HS := Lib.hid hs
  clear hH hs
  go_enter Try.func100, Try.ntmps100
  go_wp2_with fail
  go_loopw [10] (fun iv wr => ∃ i q : Nat, i ≤ n ∧ iv = .int .i64 (i : Int) ∧ wr = (putRow enc w blk 0 (swapR d a b i)).drewN q) (fun iv _ => n - (intOf iv).toNat)
  case atStart => exact ⟨0, m, by omega, rfl, rfl⟩
  case round =>
    obtain ⟨i, q, hi, rfl, hwr⟩ := hrel
    by_cases hlt : i < n
    · obtain ⟨di, hdi⟩ : ∃ di, di = swapR d a b i := ⟨_, rfl⟩
      have hsd : di.size = d.size := by rw [hdi, swapR_size]
      rw [← hdi] at hwr
      have hHj := holds_putRow enc w blk 0 d0 di HH.out (hsd.trans HS.out)
      obtain ⟨ca, fa⟩ := hHj (a + i) (by omega)
      obtain ⟨cb, fb⟩ := hHj (b + i) (by omega)
      rw [Nat.zero_add] at ca fa cb fb
      have ca' : wr.cell? ⟨blk, a + i, none⟩ = some (enc di[a + i]!) := by rw [hwr]; exact ca
      have fa' : wr.frozen? ⟨blk, a + i, none⟩ = false := by rw [hwr]; exact fa
      have cb' : wr.cell? ⟨blk, b + i, none⟩ = some (enc di[b + i]!) := by rw [hwr]; exact cb
      have fb' : wr.frozen? ⟨blk, b + i, none⟩ = false := by rw [hwr]; exact fb
      have HSW := Lib.hid (swap_worldC enc w blk 0 di q (a + i) (b + i) (by omega) (by omega))
      have HW := Lib.hid hwr
      have HDI := Lib.hid hdi
      clear ca fa cb fb hHj hwr hdi
      have i1 : (i : Int) < (n : Int) := by omega
      have wi1 : IntKind.i64.wrap ((i : Int) + 1) = (i : Int) + 1 := IntWalk.i64_in _ (by omega)
      obtain ⟨A, hA⟩ : ∃ A, A = a + i := ⟨_, rfl⟩
      obtain ⟨B, hB⟩ : ∃ B, B = b + i := ⟨_, rfl⟩
      have wa : IntKind.i64.wrap ((a : Int) + (i : Int)) = (A : Int) := by rw [hA, IntWalk.i64_in _ (by omega)]; omega
      have wb : IntKind.i64.wrap ((b : Int) + (i : Int)) = (B : Int) := by rw [hB, IntWalk.i64_in _ (by omega)]; omega
      have hne : A ≠ B := by omega
      have a0 : (0 : Int) ≤ (A : Int) := by omega
      have a1 : (A : Int) < (d.size : Int) := by omega
      have b0 : (0 : Int) ≤ (B : Int) := by omega
      have b1 : (B : Int) < (d.size : Int) := by omega
      rw [← hA] at ca' fa'
      rw [← hB] at cb' fb'
      rw [← hA, ← hB, Nat.zero_add, Nat.zero_add] at HSW
      have HA := Lib.hid hA
      have HB := Lib.hid hB
      clear hA hB
      generalize di[A]! = xa at *
      generalize di[B]! = xb at *
      go_wp2_with fail
      go_region
      all_goals
        go_wp2_with fail
        refine ⟨⟨i + 1, q + 1, by omega, by go_num, ?_⟩, by simp [intOf] <;> omega⟩
        rw [HW.out, HSW.out, swapR, ← HA.out, ← HB.out, ← HDI.out]
    · obtain rfl : i = n := by omega
      have i1 : ¬ (i : Int) < (i : Int) := by omega
      have HW := Lib.hid hwr
      clear hwr
      go_wp2_with fail
      go_end0
      exact ⟨rfl, _, HW.out⟩
end Go.Proofs.Ytpjllppbpnkemaa

/- slices.rotateCmpFunc over a row of one-cell elements. -/
namespace Go.Proofs.Ytpjllppbpnkemaa
open Go.Shelf Go.RowKit Go.Lib Go.Sort

/-- the rotation's rounds: i elements ahead of m, j from m on, are still to be exchanged -/
def rotN : Nat → Array Nat → Nat → Nat → Nat → Array Nat
  | 0, d, m, i, _ => swapR d (m - i) m i
  | f + 1, d, m, i, j => if i = j then swapR d (m - i) m i else if j < i then rotN f (swapR d (m - i) m j) m (i - j) j else rotN f (swapR d (m - i) (m + j - i) i) m i (j - i)
theorem rotN_size : ∀ (f : Nat) (d : Array Nat) (m i j : Nat), (rotN f d m i j).size = d.size
  | 0, d, m, i, j => swapR_size _ _ _ _
  | f + 1, d, m, i, j => by
    unfold rotN
    split
    · exact swapR_size _ _ _ _
    · split
      · rw [rotN_size, swapR_size]
      · rw [rotN_size, swapR_size]
def rotA (d : Array Nat) (a m b : Nat) : Array Nat := rotN (b - a) d m (m - a) (b - m)
theorem rotA_size (d : Array Nat) (a m b : Nat) : (rotA d a m b).size = d.size := rotN_size _ _ _ _ _
set_option maxRecDepth 100000 in
set_option maxHeartbeats 8000000 in
theorem rotate_p (enc : Nat → Value) (hO : OneCell enc) (blk cap a b m n : Nat) (cv : Value) (d0 d : Array Nat) (w : World) (hH : Holds enc w blk 0 d0) (hs : d.size = d0.size) (h1 : a < m) (h2 : m < b) (h3 : b ≤ d.size) (hsz : d.size ≤ 1000000) :
    Calls Try.prog 88 #[.slice (some ⟨blk, 0, none⟩) d.size cap, .int .i64 (a : Int), .int .i64 (m : Int), .int .i64 (b : Int), cv] ((putRow enc w blk 0 d).drewN n) fun e w' => e = .returned (.tuple #[]) ∧ ∃ q, w' = (putRow enc w blk 0 (rotA d a m b)).drewN q := by
  have KS := Lib.hid (fun (di : Array Nat) (hsd : di.size = d.size) (x y k q : Nat) (g1 : x + k ≤ y) (g2 : y + k ≤ d.size) => swapRange_p enc hO blk cap x y k q cv d0 di w hH (hsd.trans hs) g1 (by omega) (by omega))
  have HRA := Lib.hid (show rotA d a m b = rotN (b - a) d m (m - a) (b - m) from rfl)
  obtain ⟨i0, hi0⟩ : ∃ i0, i0 = m - a := ⟨_, rfl⟩
  obtain ⟨j0, hj0⟩ : ∃ j0, j0 = b - m := ⟨_, rfl⟩
  rw [← hi0, ← hj0] at HRA
  have wi0 : IntKind.i64.wrap ((m : Int) - (a : Int)) = (i0 : Int) := by rw [IntWalk.i64_in _ (by omega)]; omega
  have wj0 : IntKind.i64.wrap ((b : Int) - (m : Int)) = (j0 : Int) := by rw [IntWalk.i64_in _ (by omega)]; omega
  have HI0 := Lib.hid hi0
  have HJ0 := Lib.hid hj0
  have b1 : 1 ≤ i0 ∧ 1 ≤ j0 ∧ i0 ≤ m - a ∧ j0 ≤ b - m ∧ i0 + j0 ≤ b - a := by omega
  clear hH hi0 hj0 hs
  go_enter Try.func88, Try.ntmps88
  go_wp2_with fail
  go_loopw [10, 11] (fun iv jv wr => ∃ (i j q f : Nat) (di : Array Nat), iv = .int .i64 (i : Int) ∧ jv = .int .i64 (j : Int) ∧ 1 ≤ i ∧ 1 ≤ j ∧ i ≤ m - a ∧ j ≤ b - m ∧ i + j ≤ f ∧ di.size = d.size ∧ Hid (rotN f di m i j = rotN (b - a) d m i0 j0) ∧ wr = (putRow enc w blk 0 di).drewN q) (fun iv jv _ => (intOf iv + intOf jv).toNat)
  case atStart => exact ⟨i0, j0, n, b - a, d, rfl, rfl, b1.1, b1.2.1, b1.2.2.1, b1.2.2.2.1, b1.2.2.2.2, rfl, rfl, rfl⟩
  case round =>
    obtain ⟨i, j, q, f, di, rfl, rfl, hi1, hj1, hia, hjb, hf, hsd, HR, hwr⟩ := hrel
    have HW := Lib.hid hwr
    obtain ⟨mi, hmi⟩ : ∃ mi, mi = m - i := ⟨_, rfl⟩
    have wmi : IntKind.i64.wrap ((m : Int) - (i : Int)) = (mi : Int) := by rw [IntWalk.i64_in _ (by omega)]; omega
    obtain ⟨f, rfl⟩ : ∃ g, f = g + 1 := ⟨f - 1, by omega⟩
    by_cases hij : i = j
    · subst hij
      have t1 : ((i : Int) != (i : Int)) = false := by simp
      have K := KS.out di hsd mi m i q (by omega) (by omega)
      rw [hsd, ← hwr] at K
      have K := Lib.hid K
      clear hwr
      have HE := Lib.hid (show rotN (f + 1) di m i i = swapR di (m - i) m i by unfold rotN; rw [if_pos rfl])
      rw [← hmi] at HE
      have HM := Lib.hid hmi
      clear hmi
      go_wp2_with fail
      with_reducible refine K.out.mono ?_
      rintro e w1 ⟨rfl, q1, hw1⟩
      have HW1 := Lib.hid hw1
      clear hw1
      go_wp2_with fail
      go_end0
      exact ⟨rfl, q1, by rw [HW1.out, HRA.out, ← HR.out, HE.out]⟩
    · have t1 : ((i : Int) != (j : Int)) = true := bne_iff_ne.2 (by omega)
      have t2 : ((i : Int) == (j : Int)) = false := beq_eq_false_iff_ne.2 (by omega)
      by_cases hgt : j < i
      · have g1 : (j : Int) < (i : Int) := by omega
        have K := KS.out di hsd mi m j q (by omega) (by omega)
        rw [hsd, ← hwr] at K
        have K := Lib.hid K
        clear hwr
        obtain ⟨ij, hijE⟩ : ∃ ij, ij = i - j := ⟨_, rfl⟩
        have wij : IntKind.i64.wrap ((i : Int) - (j : Int)) = (ij : Int) := by rw [IntWalk.i64_in _ (by omega)]; omega
        have HE := Lib.hid (show rotN (f + 1) di m i j = rotN f (swapR di (m - i) m j) m (i - j) j by
          conv => lhs; unfold rotN
          rw [if_neg hij, if_pos hgt])
        rw [← hmi, ← hijE] at HE
        have n1 : 1 ≤ ij ∧ ij ≤ m - a ∧ ij + j ≤ f ∧ ij < i := by omega
        have HM := Lib.hid hmi
        have HIJ := Lib.hid hijE
        clear hmi hijE
        go_wp2_with fail
        with_reducible refine K.out.mono ?_
        rintro e w1 ⟨rfl, q1, hw1⟩
        have HW1 := Lib.hid hw1
        clear hw1
        go_wp2_with fail
        refine ⟨⟨ij, j, q1, f, swapR di mi m j, rfl, rfl, n1.1, hj1, n1.2.1, hjb, n1.2.2.1, by rw [swapR_size]; exact hsd, ?_, HW1.out⟩, by simp [intOf]; omega⟩
        show _ = _
        rw [← HE.out]; exact HR.out
      · have g1 : ¬ (j : Int) < (i : Int) := by omega
        obtain ⟨mj, hmj⟩ : ∃ mj, mj = m + j := ⟨_, rfl⟩
        obtain ⟨mk, hmk⟩ : ∃ mk, mk = m + j - i := ⟨_, rfl⟩
        have wmj : IntKind.i64.wrap ((m : Int) + (j : Int)) = (mj : Int) := by rw [IntWalk.i64_in _ (by omega)]; omega
        have wmk : IntKind.i64.wrap ((mj : Int) - (i : Int)) = (mk : Int) := by rw [IntWalk.i64_in _ (by omega)]; omega
        have K := KS.out di hsd mi mk i q (by omega) (by omega)
        rw [hsd, ← hwr] at K
        have K := Lib.hid K
        clear hwr
        obtain ⟨ji, hjiE⟩ : ∃ ji, ji = j - i := ⟨_, rfl⟩
        have wji : IntKind.i64.wrap ((j : Int) - (i : Int)) = (ji : Int) := by rw [IntWalk.i64_in _ (by omega)]; omega
        have HE := Lib.hid (show rotN (f + 1) di m i j = rotN f (swapR di (m - i) (m + j - i) i) m i (j - i) by
          conv => lhs; unfold rotN
          rw [if_neg hij, if_neg hgt])
        rw [← hmi, ← hjiE, ← hmk] at HE
        have n1 : 1 ≤ ji ∧ ji ≤ b - m ∧ i + ji ≤ f ∧ ji < j := by omega
        have HM := Lib.hid hmi
        have HIJ := Lib.hid hjiE
        have HMJ := Lib.hid hmj
        have HMK := Lib.hid hmk
        clear hmi hjiE hmj hmk
        go_wp2_with fail
        with_reducible refine K.out.mono ?_
        rintro e w1 ⟨rfl, q1, hw1⟩
        have HW1 := Lib.hid hw1
        clear hw1
        go_wp2_with fail
        refine ⟨⟨i, ji, q1, f, swapR di mi mk i, rfl, rfl, hi1, n1.1, hia, n1.2.1, n1.2.2.1, by rw [swapR_size]; exact hsd, ?_, HW1.out⟩, by simp [intOf]; omega⟩
        show _ = _
        rw [← HE.out]; exact HR.out
end Go.Proofs.Ytpjllppbpnkemaa

/- Library functions at this seat: the shelf layings in plain words (printed by wip/tools/lay.sh; the numbers are this seat's). -/
namespace Go.Proofs.Ytpjllppbpnkemaa
open Go.Shelf
def insL_ren : Go.Shelf.Ren := ⟨fun | 20 => 81 | n => n, fun | 24 => 34 | 22 => 42 | 3 => 3 | 25 => 85 | 4 => 4 | 0 => 0 | n => n, fun | n => n⟩
theorem insL : Go.Proofs.SlLaysF.n20 Try.prog insL_ren := {
  mixed := by kernel_rfl
  f20 := ⟨Try.f81.name, by decide, Try.func81.trans (congrArg some (by kernel_rfl))⟩
  t0 := Try.underlying0
  a0 := Try.isAgg0
  z0 := Try.sizeOf0
  v0 := Try.zeroValue0
  t3 := Try.underlying3
  a3 := Try.isAgg3
  z3 := Try.sizeOf3
  v3 := Try.zeroValue3
  t4 := Try.underlying4
  a4 := Try.isAgg4
  z4 := Try.sizeOf4
  v4 := Try.zeroValue4
  t22 := Try.underlying42
  a22 := Try.isAgg42
  z22 := Try.sizeOf42
  v22 := Try.zeroValue42
  a24 := Try.isAgg34
  z24 := Try.sizeOf34
  t25 := Try.underlying85
  a25 := Try.isAgg85
  z25 := Try.sizeOf85
  v25 := Try.zeroValue85 }
end Go.Proofs.Ytpjllppbpnkemaa

/- The comparison of choices; the insertion sort over the list of choices. -/
namespace Go.Proofs.Ytpjllppbpnkemaa
open Go.Shelf Go.RowKit Go.Lib Go.Sort

def encN (vs : List Value) (i : Nat) : Value := vs.getD i (.slice none 0 0)
def keyN (l : List (List Int)) (i : Nat) : Int := (l.getD i []).sum
def cfN (l : List (List Int)) (x y : Nat) : Int := keyN l x - keyN l y
theorem small_getD {l : List (List Int)} (h : ∀ c ∈ l, Small c) (i : Nat) : Small (l.getD i []) := by
  by_cases hi : i < l.length
  · rw [List.getD_eq_getElem?_getD, List.getElem?_eq_getElem hi]
    exact h _ (List.getElem_mem hi)
  · rw [List.getD_eq_getElem?_getD, List.getElem?_eq_none (by omega)]
    exact ⟨by simp, by simp⟩
theorem elems_getD {W : World} {B : Nat} {vs : List Value} {l : List (List Int)} (h : Elems W B vs l) (i : Nat) : W.ownsRow B 3 1 (encN vs i) (l.getD i []).length (icell (l.getD i [])) := by
  unfold encN
  by_cases hi : i < l.length
  · have hi' : i < vs.length := by rw [h.1]; exact hi
    rw [List.getD_eq_getElem?_getD, List.getD_eq_getElem?_getD, List.getElem?_eq_getElem hi, List.getElem?_eq_getElem hi']
    exact h.2 i hi hi'
  · have e1 : vs[i]? = none := List.getElem?_eq_none (by rw [h.1]; omega)
    have e2 : l[i]? = none := List.getElem?_eq_none (by omega)
    rw [List.getD_eq_getElem?_getD, List.getD_eq_getElem?_getD, e1, e2]
    exact World.ownsRow_nil _ _ _ _
theorem encN_one {W : World} {B : Nat} {vs : List Value} {l : List (List Int)} (h : Elems W B vs l) : OneCell (encN vs) := fun i => by
  obtain ⟨a, c, e⟩ := Row.form2 (Row.of_owns (elems_getD h i))
  rw [e]; rfl
set_option maxRecDepth 100000 in
theorem cmp_p (va vb : Value) (a b : List Int) (w : World) (ha : Nums w va a) (hb : Nums w vb b) (sa : Small a) (sb : Small b) :
    Calls Try.prog 56 #[va, vb] w fun e w' => e = .returned (.int .i64 (a.sum - b.sum)) ∧ w' = w := by
  have K1 := Lib.hid (total_p va a w ha sa)
  have K2 := Lib.hid (total_p vb b w hb sb)
  have h1 := sa.sum_in a.length (Nat.le_refl _)
  have h2 := sb.sum_in b.length (Nat.le_refl _)
  rw [List.take_length] at h1 h2
  have l1 := sa.1
  have l2 := sb.1
  obtain ⟨x, cx, rfl⟩ := Row.form2 ha
  obtain ⟨y, cy, rfl⟩ := Row.form2 hb
  have ws : IntKind.i64.wrap (a.sum - b.sum) = a.sum - b.sum := IntWalk.i64_in _ (by omega)
  clear ha hb h1 h2
  go_enter Try.func56, Try.ntmps56
  go_wp2_with fail
  with_reducible refine K1.out.mono ?_
  rintro e w1 ⟨rfl, rfl⟩
  go_wp2_with fail
  with_reducible refine K2.out.mono ?_
  rintro e w1 ⟨rfl, rfl⟩
  go_wp2_with fail
  go_ret
  exact ⟨rfl, rfl⟩
theorem sort_heap {enc : Nat → Value} {w : World} {blk m k : Nat} {dk : Array Nat} {os : Array Obj} (hk : k ≠ blk) (hlt : k < w.heap.size) : (sortWorld enc w blk 0 m dk os).heap[k]? = w.heap[k]? := by
  unfold sortWorld grow putRow mapBlock Sort.ahead
  simp only
  rw [Array.getElem?_append_left (by simpa using hlt), Array.getElem?_modify, if_neg (Ne.symm hk)]
theorem cmp_reads {w : World} {B blk size : Nat} {vs : List Value} {l : List (List Int)} (h : Elems w B vs l) (hs : ∀ c ∈ l, Small c) {cs : Array Value} {fr : Nat × Nat} (hb : w.heap[blk]? = some (.cells cs 34 fr)) :
    CmpReads Try.prog 56 #[] (encN vs) (cfN l) blk 0 size w := by
  intro m os dk hd x y
  have hk : ∀ (g : Nat) (c : Array Value), w.heap[g]? = some (.cells c 3) → (sortWorld (encN vs) w blk 0 m dk os).heap[g]? = some (.cells c 3) := fun g c hg => by
    rw [sort_heap (by rintro rfl; rw [hb] at hg; cases hg) (Array.getElem?_eq_some_iff.1 hg).1]
    exact hg
  have hx := Row.of_owns (elems_getD (h.keep hk) x)
  have hy := Row.of_owns (elems_getD (h.keep hk) y)
  refine (cmp_p _ _ _ _ _ hx hy (small_getD hs x) (small_getD hs y)).mono ?_
  rintro e w' ⟨rfl, rfl⟩
  exact ⟨rfl, 0, rfl⟩
theorem insInner_size (lt : Nat → Nat → Bool) (a : Nat) : ∀ (j : Nat) (d : Array Nat), (insInner lt a j d).size = d.size
  | 0, _ => rfl
  | j + 1, d => by
    unfold insInner
    split
    · rw [insInner_size, size_swp]
    · rfl
theorem insOuter_size (lt : Nat → Nat → Bool) (a b : Nat) : ∀ (k i : Nat) (d : Array Nat), b - i = k → (insOuter lt a b i d).size = d.size
  | 0, i, d, h => by rw [insOuter_stop _ _ _ _ _ (by omega)]
  | k + 1, i, d, h => by
    rw [insOuter_go _ _ _ _ _ (by omega), insOuter_size lt a b k (i + 1) _ (by omega), insInner_size]
theorem insertionSort_size (lt : Nat → Nat → Bool) (d : Array Nat) (a b : Nat) : (Sort.insertionSort lt d a b).size = d.size := insOuter_size lt a b _ _ d rfl

theorem insertion_p {w : World} {B blk cap a b m : Nat} {vs : List Value} {l : List (List Int)} (h : Elems w B vs l) (hs : ∀ c ∈ l, Small c) {cs : Array Value} {fr : Nat × Nat} (hb : w.heap[blk]? = some (.cells cs 34 fr))
    (d0 d : Array Nat) (hH : Holds (encN vs) w blk 0 d0) (hd : d.size = d0.size) (hab : a ≤ b) (hbd : b ≤ d.size) (hsz : d.size ≤ 1000000) :
    Calls Try.prog 81 #[.slice (some ⟨blk, 0, none⟩) d.size cap, .int .i64 (a : Int), .int .i64 (b : Int), .func (.func 56) #[] #[]] ((putRow (encN vs) w blk 0 d).drewN m) fun e w' =>
      e = .returned (.tuple #[]) ∧ ∃ q, w' = (putRow (encN vs) w blk 0 (Sort.insertionSort (ltOf (cfN l)) d a b)).drewN q := by
  have hlt := (Array.getElem?_eq_some_iff.1 hb).1
  obtain ⟨W, hW⟩ : ∃ W, W = (putRow (encN vs) w blk 0 d).drewN m := ⟨_, rfl⟩
  have hWh : ∀ k, k ≠ blk → k < w.heap.size → W.heap[k]? = w.heap[k]? := fun k h1 h2 => by
    rw [hW]
    show (putRow (encN vs) w blk 0 d).heap[k]? = _
    unfold putRow mapBlock
    simp only
    rw [Array.getElem?_modify, if_neg (Ne.symm h1)]
  have hWb : ∃ cs' fr', W.heap[blk]? = some (.cells cs' 34 fr') := by
    rw [hW]
    refine ⟨putCells (encN vs) 0 d cs, fr, ?_⟩
    show (putRow (encN vs) w blk 0 d).heap[blk]? = _
    unfold putRow mapBlock
    simp only
    rw [Array.getElem?_modify, if_pos rfl, hb]
    rfl
  obtain ⟨cs', fr', hWb⟩ := hWb
  have hE : Elems W B vs l := h.keep fun g c hg => by
    rw [hWh g (by rintro rfl; rw [hb] at hg; cases hg) (Array.getElem?_eq_some_iff.1 hg).1]
    exact hg
  have hHW : Holds (encN vs) W blk 0 d := by rw [hW]; exact holds_putRow (encN vs) w blk 0 d0 d hH hd
  have K := Any.insertionSortCmpFunc_one insL (encN vs) (encN_one h) (cfN l) 56 #[] blk 0 cap a b d W (enters_of Try.func56 (by kernel_rfl) rfl) (cmp_reads hE hs hWb) hHW hab hbd (by omega)
  rw [← hW]
  refine K.mono ?_
  rintro e w' ⟨rfl, n, rfl⟩
  refine ⟨rfl, m + n, ?_⟩
  rw [hW]
  have e := putRow_ahead_putRow (encN vs) w 0 m blk 0 d (Sort.insertionSort (ltOf (cfN l)) d a b) (insertionSort_size _ d a b)
  rw [Nat.zero_add] at e
  show (putRow (encN vs) (Sort.ahead (putRow (encN vs) (Sort.ahead w 0) blk 0 d) m) blk 0 (Sort.insertionSort (ltOf (cfN l)) d a b)).drewN n = _
  rw [e, putRow_drewN]
  have e2 := putRow_drewN (enc := encN vs) w 0 (m + n) blk 0 (Sort.insertionSort (ltOf (cfN l)) d a b)
  rw [Nat.zero_add] at e2
  exact e2.symm
end Go.Proofs.Ytpjllppbpnkemaa

/- The insertion sort is stable: plain. -/
namespace Go.Proofs.Ytpjllppbpnkemaa
open Go.Shelf Go.RowKit Go.Lib Go.Sort

/-- before: by the sum, then by the place in the list -/
def ltR (l : List (List Int)) (x y : Nat) : Bool := decide (keyN l x < keyN l y ∨ (keyN l x = keyN l y ∧ x < y))
theorem ltR_swo (l : List (List Int)) : SWO (ltR l) where
  irrefl x := by unfold ltR; rw [decide_eq_false_iff_not]; omega
  trans x y z h1 h2 := by unfold ltR at *; rw [decide_eq_true_eq] at *; omega
  ntrans x y z h1 h2 := by unfold ltR at *; rw [decide_eq_false_iff_not] at *; omega
theorem lt_eq_R (l : List (List Int)) {x y : Nat} (h : y < x) : ltOf (cfN l) x y = ltR l x y := by
  unfold ltOf ltR cfN
  rw [decide_eq_decide]
  omega
theorem ins_inner_R (l : List (List Int)) (a : Nat) : ∀ (j : Nat) (d : Array Nat), j < d.size → (∀ k, a ≤ k → k < j → d[k]! < d[j]!) → insInner (ltOf (cfN l)) a j d = insInner (ltR l) a j d
  | 0, _, _, _ => rfl
  | j + 1, d, hs, h => by
    unfold insInner
    by_cases hj : a < j + 1
    · have e := lt_eq_R l (h j (by omega) (by omega))
      rw [e]
      split
      · refine ins_inner_R l a j _ (by rw [size_swp]; omega) fun k h1 h2 => ?_
        rw [swp_get d hs (by omega), swp_get d hs (by omega), if_pos rfl, if_neg (by omega), if_neg (by omega)]
        exact h k h1 (by omega)
      · rfl
    · rw [if_neg (by simp; omega), if_neg (by simp; omega)]
theorem insInner_in (lt : Nat → Nat → Bool) (a b : Nat) (p : Nat → Prop) : ∀ (j : Nat) (d : Array Nat), j < b → b ≤ d.size → a ≤ j → (∀ k, a ≤ k → k < b → p d[k]!) → ∀ k, a ≤ k → k < b → p (insInner lt a j d)[k]!
  | 0, d, _, _, _, h => h
  | j + 1, d, h1, h2, h3, h => by
    unfold insInner
    split
    · rename_i hc
      have hj : a ≤ j := by simp at hc; omega
      refine insInner_in lt a b p j _ (by omega) (by rw [size_swp]; exact h2) hj fun k h4 h5 => ?_
      rw [swp_get d (by omega) (by omega)]
      split
      · exact h _ (by omega) (by omega)
      · split
        · exact h _ hj (by omega)
        · exact h k h4 h5
    · exact h
theorem insInner_above (lt : Nat → Nat → Bool) (a : Nat) : ∀ (j : Nat) (d : Array Nat), j < d.size → ∀ k, j < k → (insInner lt a j d)[k]! = d[k]!
  | 0, d, _, k, _ => rfl
  | j + 1, d, h, k, hk => by
    unfold insInner
    split
    · rw [insInner_above lt a j _ (by rw [size_swp]; omega) k (by omega), swp_get d h (by omega), if_neg (by omega), if_neg (by omega)]
    · rfl
theorem ins_outer_R (l : List (List Int)) (a b : Nat) : ∀ (n i : Nat) (d : Array Nat), b - i = n → a < i → b ≤ d.size → (∀ k, a ≤ k → k < i → ∀ j, i ≤ j → j < b → d[k]! < d[j]!) → (∀ k j, i ≤ k → k < j → j < b → d[k]! < d[j]!) → insOuter (ltOf (cfN l)) a b i d = insOuter (ltR l) a b i d
  | 0, i, d, hn, _, _, _, _ => by rw [insOuter_stop _ _ _ _ _ (by omega), insOuter_stop _ _ _ _ _ (by omega)]
  | n + 1, i, d, hn, hai, hb, h1, h2 => by
    have hib : i < b := by omega
    rw [insOuter_go _ _ _ _ _ hib, insOuter_go _ _ _ _ _ hib, ins_inner_R l a i d (by omega) fun k g1 g2 => h1 k g1 g2 i (Nat.le_refl _) hib]
    refine ins_outer_R l a b n (i + 1) _ (by omega) (by omega) (by rw [insInner_size]; exact hb) (fun k g1 g2 j g3 g4 => ?_) (fun k j g1 g2 g3 => ?_)
    · rw [insInner_above _ _ _ _ (by omega) j (by omega)]
      refine insInner_in (ltR l) a (i + 1) (fun x => x < d[j]!) i d (by omega) (by omega) (by omega) (fun k' g5 g6 => ?_) k g1 g2
      by_cases e : k' = i
      · subst e; exact h2 k' j (Nat.le_refl _) (by omega) g4
      · exact h1 k' g5 (by omega) j (by omega) g4
    · rw [insInner_above _ _ _ _ (by omega) j (by omega), insInner_above _ _ _ _ (by omega) k (by omega)]
      exact h2 k j (by omega) g2 g3
/-- the insertion sort of a part whose elements ascend: sorted by the sum, then by the place -/
theorem ins_stable (l : List (List Int)) (d : Array Nat) (a b : Nat) (hab : a ≤ b) (hb : b ≤ d.size) (h : ∀ k j, a ≤ k → k < j → j < b → d[k]! < d[j]!) :
    PermIn a b d (Sort.insertionSort (ltOf (cfN l)) d a b) ∧ SortedIn (ltR l) a b (Sort.insertionSort (ltOf (cfN l)) d a b) := by
  have e : Sort.insertionSort (ltOf (cfN l)) d a b = Sort.insertionSort (ltR l) d a b := by
    unfold Sort.insertionSort
    refine ins_outer_R l a b _ (a + 1) d rfl (by omega) hb (fun k g1 g2 j g3 g4 => h k j g1 (by omega) g4) (fun k j g1 g2 g3 => h k j (by omega) g2 g3)
  rw [e]
  exact insertionSort_holds (lt := ltR l) (ltR_swo l) d a b hab hb
end Go.Proofs.Ytpjllppbpnkemaa

/- symMergeCmpFunc's plain mirror; worlds of the sort. -/
namespace Go.Proofs.Ytpjllppbpnkemaa
open Go.Shelf Go.RowKit Go.Lib Go.Sort

/-- the binary search: the first place from i on, below j, at which Q fails -/
def bsN (Q : Nat → Bool) : Nat → Nat → Nat → Nat
  | 0, i, _ => i
  | f + 1, i, j => if i < j then (if Q ((i + j) / 2) = true then bsN Q f ((i + j) / 2 + 1) j else bsN Q f i ((i + j) / 2)) else i
theorem bsN_end {Q : Nat → Bool} {f i j : Nat} (h : ¬ i < j) : bsN Q f i j = i := by
  cases f with
  | zero => rfl
  | succ f => unfold bsN; rw [if_neg h]
theorem bsN_yes {Q : Nat → Bool} {f i j : Nat} (h : i < j) (hq : Q ((i + j) / 2) = true) : bsN Q (f + 1) i j = bsN Q f ((i + j) / 2 + 1) j := by
  conv => lhs; unfold bsN
  rw [if_pos h, if_pos hq]
theorem bsN_no {Q : Nat → Bool} {f i j : Nat} (h : i < j) (hq : Q ((i + j) / 2) = false) : bsN Q (f + 1) i j = bsN Q f i ((i + j) / 2) := by
  conv => lhs; unfold bsN
  rw [if_pos h, if_neg (by rw [hq]; decide)]
theorem bsN_in (Q : Nat → Bool) : ∀ (f i j : Nat), i ≤ j → j - i ≤ f → i ≤ bsN Q f i j ∧ bsN Q f i j ≤ j
  | 0, i, j, h, hf => ⟨Nat.le_refl _, h⟩
  | f + 1, i, j, h, hf => by
    by_cases hij : i < j
    · cases hq : Q ((i + j) / 2)
      · rw [bsN_no hij hq]
        have := bsN_in Q f i ((i + j) / 2) (by omega) (by omega)
        omega
      · rw [bsN_yes hij hq]
        have := bsN_in Q f ((i + j) / 2 + 1) j (by omega) (by omega)
        omega
    · rw [bsN_end hij]; omega
/-- an element moved up by n places -/
def upN (d : Array Nat) (a : Nat) : Nat → Array Nat
  | 0 => d
  | n + 1 => swp (upN d a n) (a + n) (a + n + 1)
/-- an element moved down by n places -/
def dnN (d : Array Nat) (m : Nat) : Nat → Array Nat
  | 0 => d
  | n + 1 => swp (dnN d m n) (m - n) (m - n - 1)
theorem upN_size (d : Array Nat) (a : Nat) : ∀ n, (upN d a n).size = d.size
  | 0 => rfl
  | n + 1 => by rw [upN, size_swp, upN_size]
theorem dnN_size (d : Array Nat) (m : Nat) : ∀ n, (dnN d m n).size = d.size
  | 0 => rfl
  | n + 1 => by rw [dnN, size_swp, dnN_size]
section
variable (l : List (List Int))
/-- where the general case cuts: from, to, and what the places add up to -/
def cutS (d : Array Nat) (a m b : Nat) : Nat :=
  let mid := (a + b) / 2
  let n := mid + m
  let s0 := if mid < m then n - b else a
  let r0 := if mid < m then mid else m
  bsN (fun c => !decide (cfN l d[n - 1 - c]! d[c]! < 0)) (b - a) s0 r0
def symN : Nat → Array Nat → Nat → Nat → Nat → Array Nat
  | 0, d, _, _, _ => d
  | f + 1, d, a, m, b =>
    if m - a = 1 then upN d a (bsN (fun h => decide (cfN l d[h]! d[a]! < 0)) (b - m) m b - 1 - a)
    else if b - m = 1 then dnN d m (m - bsN (fun h => !decide (cfN l d[m]! d[h]! < 0)) (m - a) a m)
    else
      let mid := (a + b) / 2
      let s := cutS l d a m b
      let e := mid + m - s
      let d1 := if s < m ∧ m < e then rotA d s m e else d
      let d2 := if a < s ∧ s < mid then symN f d1 a s mid else d1
      if mid < e ∧ e < b then symN f d2 mid e b else d2
theorem symN_size : ∀ (f : Nat) (d : Array Nat) (a m b : Nat), (symN l f d a m b).size = d.size
  | 0, _, _, _, _ => rfl
  | f + 1, d, a, m, b => by
    unfold symN
    split
    · exact upN_size _ _ _
    · split
      · exact dnN_size _ _ _
      · simp only
        split <;> split <;> split <;> simp [symN_size, rotA_size]
end
/-- what the sort's walk is over -/
structure SC (w : World) (B : Nat) (vs : List Value) (l : List (List Int)) (blk : Nat) (d0 : Array Nat) : Prop where
  el : Elems w B vs l
  sm : ∀ c ∈ l, Small c
  hb : ∃ cs fr, w.heap[blk]? = some (.cells cs 34 fr)
  hh : Holds (encN vs) w blk 0 d0
/-- a world of the sort in which the row holds dk -/
def Rw (w : World) (vs : List Value) (blk : Nat) (dk : Array Nat) (W : World) : Prop := ∃ q, W = (putRow (encN vs) w blk 0 dk).drewN q
theorem Rw.drew {w W : World} {vs : List Value} {blk : Nat} {dk : Array Nat} (h : Rw w vs blk dk W) : Rw w vs blk dk W.drew := by
  obtain ⟨q, rfl⟩ := h
  exact ⟨q + 1, rfl⟩
theorem Rw.at {w W : World} {B : Nat} {vs : List Value} {l : List (List Int)} {blk : Nat} {d0 dk : Array Nat} (S : SC w B vs l blk d0) (h : Rw w vs blk dk W) (hd : dk.size = d0.size) {j : Nat} (hj : j < dk.size) :
    W.cell? ⟨blk, j, none⟩ = some (encN vs dk[j]!) ∧ W.frozen? ⟨blk, j, none⟩ = false := by
  obtain ⟨q, rfl⟩ := h
  have := holds_putRow (encN vs) w blk 0 d0 dk S.hh hd j hj
  rw [Nat.zero_add] at this
  exact this
theorem Rw.swap {w W : World} {vs : List Value} {blk : Nat} {dk : Array Nat} (h : Rw w vs blk dk W) {i j : Nat} (hi : i < dk.size) (hj : j < dk.size) :
    Rw w vs blk (swp dk i j) (((W.setCell ⟨blk, i, none⟩ (encN vs dk[j]!)).setCell ⟨blk, j, none⟩ (encN vs dk[i]!)).drew) := by
  obtain ⟨q, rfl⟩ := h
  have := swap_worldC (encN vs) w blk 0 dk q i j hi hj
  rw [Nat.zero_add, Nat.zero_add] at this
  exact ⟨q + 1, this⟩
theorem Rw.cmp {w W : World} {B : Nat} {vs : List Value} {l : List (List Int)} {blk : Nat} {d0 dk : Array Nat} (S : SC w B vs l blk d0) (h : Rw w vs blk dk W) (x y : Nat) :
    Calls Try.prog 56 #[encN vs x, encN vs y] W fun e w' => e = .returned (.int .i64 (cfN l x y)) ∧ w' = W := by
  obtain ⟨q, rfl⟩ := h
  obtain ⟨cs, fr, hb⟩ := S.hb
  have hk : ∀ (g : Nat) (c : Array Value), w.heap[g]? = some (.cells c 3) → ((putRow (encN vs) w blk 0 dk).drewN q).heap[g]? = some (.cells c 3) := fun g c hg => by
    have hne : g ≠ blk := by rintro rfl; rw [hb] at hg; cases hg
    show (putRow (encN vs) w blk 0 dk).heap[g]? = _
    unfold putRow mapBlock
    simp only
    rw [Array.getElem?_modify, if_neg (Ne.symm hne)]
    exact hg
  exact cmp_p _ _ _ _ _ (Row.of_owns (elems_getD (S.el.keep hk) x)) (Row.of_owns (elems_getD (S.el.keep hk) y)) (small_getD S.sm x) (small_getD S.sm y)
end Go.Proofs.Ytpjllppbpnkemaa

/- slices.symMergeCmpFunc where the left part has one element. -/
namespace Go.Proofs.Ytpjllppbpnkemaa
open Go.Shelf Go.RowKit Go.Lib Go.Sort

set_option maxRecDepth 100000 in
set_option maxHeartbeats 16000000 in
theorem symA_p {w : World} {B blk cap : Nat} {vs : List Value} {l : List (List Int)} {d0 : Array Nat} (S : SC w B vs l blk d0) (N : Nat) (hN : d0.size = N) (hsz : N ≤ 1000000) (f : Nat) (d : Array Nat) (a b : Nat) (W : World) (hd : d.size = d0.size) (hR : Rw w vs blk d W) (h2 : a + 1 < b) (h3 : b ≤ N) :
    Calls Try.prog 82 #[.slice (some ⟨blk, 0, none⟩) N cap, .int .i64 (a : Int), .int .i64 ((a : Int) + 1), .int .i64 (b : Int), .func (.func 56) #[] #[]] W fun e w' => e = .returned (.tuple #[]) ∧ Rw w vs blk (symN l (f + 1) d a (a + 1) b) w' := by
  have hO := encN_one S.el
  have hcl0 := hO.cells
  simp only [Value.cells] at hcl0
  have hst := hO.store Try.prog
  have HS := Lib.hid S
  have HR := Lib.hid hR
  have HD := Lib.hid hd
  have HN := Lib.hid hN
  have HDN := Lib.hid (hd.trans hN)
  obtain ⟨Q, hQ⟩ : ∃ Q : Nat → Bool, Q = fun h => decide (cfN l d[h]! d[a]! < 0) := ⟨_, rfl⟩
  have HQ := Lib.hid hQ
  have HE := Lib.hid (show symN l (f + 1) d a (a + 1) b = upN d a (bsN Q (b - (a + 1)) (a + 1) b - 1 - a) by
    rw [hQ]
    conv => lhs; unfold symN
    rw [if_pos (by omega)])
  have w1 : IntKind.i64.wrap ((a : Int) + 1 - (a : Int)) = 1 := by rw [IntWalk.i64_in _ (by omega)]; omega
  clear S hR hd hN hQ
  go_enter Try.func82, Try.ntmps82
  go_wp2_with fail
  go_loopw [10, 11] (fun iv jv wr => ∃ i j g : Nat, iv = .int .i64 (i : Int) ∧ jv = .int .i64 (j : Int) ∧ a + 1 ≤ i ∧ i ≤ j ∧ j ≤ b ∧ j - i ≤ g ∧ Hid (bsN Q g i j = bsN Q (b - (a + 1)) (a + 1) b) ∧ Rw w vs blk d wr) (fun iv jv _ => (intOf jv).toNat - (intOf iv).toNat)
  case atStart => exact ⟨a + 1, b, b - (a + 1), by go_num, rfl, by omega, by omega, by omega, by omega, rfl, HR.out⟩
  case round =>
    obtain ⟨i, j, g, rfl, rfl, hi1, hij, hjb, hg, HB, hRw⟩ := hrel
    have HRW := Lib.hid hRw
    clear hRw
    by_cases hlt : i < j
    · obtain ⟨g, rfl⟩ : ∃ g', g = g' + 1 := ⟨g - 1, by omega⟩
      obtain ⟨h, hh⟩ : ∃ h, h = (i + j) / 2 := ⟨_, rfl⟩
      have k1 : i ≤ h := by omega
      have k2 : h < j := by omega
      have i1 : (i : Int) < (j : Int) := by omega
      have wij : IntKind.i64.wrap ((i : Int) + (j : Int)) = (i : Int) + (j : Int) := IntWalk.i64_in _ (by omega)
      have uij : IntKind.u64.wrap ((i : Int) + (j : Int)) = (i : Int) + (j : Int) := IntWalk.u64_in _ (by omega)
      have e2 : ((i : Int) + (j : Int)) / 2 = (h : Int) := by omega
      have uh : IntKind.u64.wrap (h : Int) = (h : Int) := IntWalk.u64_in _ (by omega)
      have wh : IntKind.i64.wrap (h : Int) = (h : Int) := IntWalk.i64_in _ (by omega)
      have wh1 : IntKind.i64.wrap ((h : Int) + 1) = (h : Int) + 1 := IntWalk.i64_in _ (by omega)
      have hN0 := HDN.out
      obtain ⟨ch, _⟩ := Rw.at HS.out HRW.out HD.out (j := h) (by omega)
      obtain ⟨ca, _⟩ := Rw.at HS.out HRW.out HD.out (j := a) (by omega)
      have KC := Lib.hid (Rw.cmp HS.out HRW.out.drew d[h]! d[a]!)
      have HYES := Lib.hid (fun hq => @bsN_yes Q g i j hlt hq)
      have HNO := Lib.hid (fun hq => @bsN_no Q g i j hlt hq)
      have HQH := Lib.hid (show Q ((i + j) / 2) = decide (cfN l d[h]! d[a]! < 0) by rw [HQ.out, ← hh])
      have h0 : (0 : Int) ≤ (h : Int) := by omega
      have h4 : (h : Int) < (N : Int) := by omega
      have a0 : (0 : Int) ≤ (a : Int) := by omega
      have a4 : (a : Int) < (N : Int) := by omega
      have HHH := Lib.hid hh
      clear hh hN0
      generalize d[h]! = xh at *
      generalize d[a]! = xa at *
      go_wp2_with fail
      go_region_held3 (fun w' => w'.cell? ⟨blk, h, none⟩ = some (encN vs xh) ∧ w'.cell? ⟨blk, a, none⟩ = some (encN vs xa)) (go_keep)
        (first | (go_at_call 56; refine KC.out.mono ?_; rintro e w5 ⟨rfl, rfl⟩))
      have HRD := Lib.hid HRW.out.drew
      by_cases hq : cfN l xh xa < 0
      · have HY := Lib.hid (HYES.out (by rw [HQH.out, decide_eq_true hq]))
        have q1 : decide (cfN l xh xa < 0) = true := decide_eq_true hq
        clear HYES HNO
        go_wp2_with fail
        refine ⟨⟨h + 1, j, g, by go_num, rfl, by omega, by omega, hjb, by omega, ?_, HRD.out⟩, by simp [intOf]; omega⟩
        show _ = _
        rw [HHH.out, ← HY.out]; exact HB.out
      · have HY := Lib.hid (HNO.out (by rw [HQH.out, decide_eq_false hq]))
        have q1 : decide (cfN l xh xa < 0) = false := decide_eq_false hq
        clear HYES HNO
        go_wp2_with fail
        refine ⟨⟨i, h, g, rfl, rfl, hi1, k1, by omega, by omega, ?_, HRD.out⟩, by simp [intOf]; omega⟩
        show _ = _
        rw [HHH.out, ← HY.out]; exact HB.out
    · obtain rfl : i = j := by omega
      have i1 : ¬ (i : Int) < (i : Int) := by omega
      have HBE := Lib.hid (show bsN Q (b - (a + 1)) (a + 1) b = i by rw [← HB.out, bsN_end (by omega)])
      have HE2 := Lib.hid (show symN l (f + 1) d a (a + 1) b = upN d a (i - 1 - a) by rw [HE.out, HBE.out])
      have wi : IntKind.i64.wrap ((i : Int) - 1) = (i : Int) - 1 := IntWalk.i64_in _ (by omega)
      go_wp2_with fail
      go_loopw [13] (fun kv wk => ∃ k : Nat, kv = .int .i64 ((a + k : Nat) : Int) ∧ k ≤ i - 1 - a ∧ Rw w vs blk (upN d a k) wk) (fun kv _ => i - (intOf kv).toNat)
      case atStart => exact ⟨0, rfl, by omega, HRW.out⟩
      case round =>
        obtain ⟨k, rfl, hk, hRk⟩ := hrel
        have HRK := Lib.hid hRk
        clear hRk
        by_cases hkl : k < i - 1 - a
        · obtain ⟨A, hA⟩ : ∃ A, A = a + k := ⟨_, rfl⟩
          obtain ⟨C, hC⟩ : ∃ C, C = a + k + 1 := ⟨_, rfl⟩
          have hN0 := HDN.out
          have hsz2 : (upN d a k).size = d.size := upN_size _ _ _
          obtain ⟨c1, f1⟩ := Rw.at HS.out HRK.out (hsz2.trans HD.out) (j := A) (by omega)
          obtain ⟨c2, f2⟩ := Rw.at HS.out HRK.out (hsz2.trans HD.out) (j := C) (by omega)
          have HSW := Lib.hid (HRK.out.swap (i := A) (j := C) (by omega) (by omega))
          have HUP := Lib.hid (show upN d a (k + 1) = swp (upN d a k) A C by rw [hA, hC]; rfl)
          rw [← hA]
          have j1 : (A : Int) < (i : Int) - 1 := by omega
          have wA : IntKind.i64.wrap ((A : Int) + 1) = (C : Int) := by rw [IntWalk.i64_in _ (by omega)]; omega
          have b0 : (0 : Int) ≤ (A : Int) := by omega
          have b1 : (A : Int) < (N : Int) := by omega
          have b2 : (0 : Int) ≤ (C : Int) := by omega
          have b3 : (C : Int) < (N : Int) := by omega
          have hne : A ≠ C := by omega
          have HKL := Lib.hid (show k + 1 ≤ i - 1 - a ∧ A < i by omega)
          have HAK := Lib.hid (show a + (k + 1) = C ∧ C = A + 1 by omega)
          have HA := Lib.hid hA
          have HC := Lib.hid hC
          clear hA hC hN0 hsz2
          generalize (upN d a k)[A]! = xA at *
          generalize (upN d a k)[C]! = xC at *
          go_wp2_with fail
          go_region
          all_goals
            go_wp2_with fail
            refine ⟨⟨k + 1, by rw [HAK.out.1], HKL.out.1, ?_⟩, by have h1 := HKL.out.2; have h2 := HAK.out.2; simp [intOf]; omega⟩
            rw [HUP.out]; exact HSW.out
        · have j1 : ¬ ((a + k : Nat) : Int) < (i : Int) - 1 := by omega
          have hke : k = i - 1 - a := by omega
          have HKE := Lib.hid hke
          clear hke
          go_wp2_with fail
          refine bodyPost_ret (results_none rfl _ _ _) rfl ?_
          exact ⟨rfl, by rw [HE2.out, ← HKE.out]; exact HRK.out⟩
end Go.Proofs.Ytpjllppbpnkemaa

/- slices.symMergeCmpFunc where the right part has one element. -/
namespace Go.Proofs.Ytpjllppbpnkemaa
open Go.Shelf Go.RowKit Go.Lib Go.Sort

set_option maxRecDepth 100000 in
set_option maxHeartbeats 16000000 in
theorem symB_p {w : World} {B blk cap : Nat} {vs : List Value} {l : List (List Int)} {d0 : Array Nat} (S : SC w B vs l blk d0) (N : Nat) (hN : d0.size = N) (hsz : N ≤ 1000000) (f : Nat) (d : Array Nat) (a m : Nat) (W : World) (hd : d.size = d0.size) (hR : Rw w vs blk d W) (h2 : a + 2 ≤ m) (h3 : m + 1 ≤ N) :
    Calls Try.prog 82 #[.slice (some ⟨blk, 0, none⟩) N cap, .int .i64 (a : Int), .int .i64 (m : Int), .int .i64 ((m : Int) + 1), .func (.func 56) #[] #[]] W fun e w' => e = .returned (.tuple #[]) ∧ Rw w vs blk (symN l (f + 1) d a m (m + 1)) w' := by
  have hO := encN_one S.el
  have hcl0 := hO.cells
  simp only [Value.cells] at hcl0
  have hst := hO.store Try.prog
  have HS := Lib.hid S
  have HR := Lib.hid hR
  have HD := Lib.hid hd
  have HN := Lib.hid hN
  have HDN := Lib.hid (hd.trans hN)
  obtain ⟨Q, hQ⟩ : ∃ Q : Nat → Bool, Q = fun h => !decide (cfN l d[m]! d[h]! < 0) := ⟨_, rfl⟩
  have HQ := Lib.hid hQ
  have HE := Lib.hid (show symN l (f + 1) d a m (m + 1) = dnN d m (m - bsN Q (m - a) a m) by
    rw [hQ]
    conv => lhs; unfold symN
    rw [if_neg (by omega), if_pos (by omega)])
  have w1 : IntKind.i64.wrap ((m : Int) + 1 - (m : Int)) = 1 := by rw [IntWalk.i64_in _ (by omega)]; omega
  have w0 : IntKind.i64.wrap ((m : Int) - (a : Int)) = (m : Int) - (a : Int) := IntWalk.i64_in _ (by omega)
  have t0 : ((m : Int) - (a : Int) == 1) = false := beq_eq_false_iff_ne.2 (by omega)
  clear S hR hd hN hQ
  go_enter Try.func82, Try.ntmps82
  go_wp2_with fail
  go_loopw [14, 15] (fun iv jv wr => ∃ i j g : Nat, iv = .int .i64 (i : Int) ∧ jv = .int .i64 (j : Int) ∧ a ≤ i ∧ i ≤ j ∧ j ≤ m ∧ j - i ≤ g ∧ Hid (bsN Q g i j = bsN Q (m - a) a m) ∧ Rw w vs blk d wr) (fun iv jv _ => (intOf jv).toNat - (intOf iv).toNat)
  case atStart => exact ⟨a, m, m - a, rfl, rfl, by omega, by omega, by omega, by omega, rfl, HR.out⟩
  case round =>
    obtain ⟨i, j, g, rfl, rfl, hi1, hij, hjb, hg, HB, hRw⟩ := hrel
    have HRW := Lib.hid hRw
    clear hRw
    by_cases hlt : i < j
    · obtain ⟨g, rfl⟩ : ∃ g', g = g' + 1 := ⟨g - 1, by omega⟩
      obtain ⟨h, hh⟩ : ∃ h, h = (i + j) / 2 := ⟨_, rfl⟩
      have k1 : i ≤ h := by omega
      have k2 : h < j := by omega
      have i1 : (i : Int) < (j : Int) := by omega
      have wij : IntKind.i64.wrap ((i : Int) + (j : Int)) = (i : Int) + (j : Int) := IntWalk.i64_in _ (by omega)
      have uij : IntKind.u64.wrap ((i : Int) + (j : Int)) = (i : Int) + (j : Int) := IntWalk.u64_in _ (by omega)
      have e2 : ((i : Int) + (j : Int)) / 2 = (h : Int) := by omega
      have uh : IntKind.u64.wrap (h : Int) = (h : Int) := IntWalk.u64_in _ (by omega)
      have wh : IntKind.i64.wrap (h : Int) = (h : Int) := IntWalk.i64_in _ (by omega)
      have wh1 : IntKind.i64.wrap ((h : Int) + 1) = (h : Int) + 1 := IntWalk.i64_in _ (by omega)
      have hN0 := HDN.out
      obtain ⟨ch, _⟩ := Rw.at HS.out HRW.out HD.out (j := h) (by omega)
      obtain ⟨ca, _⟩ := Rw.at HS.out HRW.out HD.out (j := m) (by omega)
      have KC := Lib.hid (Rw.cmp HS.out HRW.out.drew d[m]! d[h]!)
      have HYES := Lib.hid (fun hq => @bsN_yes Q g i j hlt hq)
      have HNO := Lib.hid (fun hq => @bsN_no Q g i j hlt hq)
      have HQH := Lib.hid (show Q ((i + j) / 2) = !decide (cfN l d[m]! d[h]! < 0) by rw [HQ.out, ← hh])
      have h0 : (0 : Int) ≤ (h : Int) := by omega
      have h4 : (h : Int) < (N : Int) := by omega
      have a0 : (0 : Int) ≤ (m : Int) := by omega
      have a4 : (m : Int) < (N : Int) := by omega
      have HHH := Lib.hid hh
      clear hh hN0
      generalize d[h]! = xh at *
      generalize d[m]! = xa at *
      go_wp2_with fail
      go_region_held3 (fun w' => w'.cell? ⟨blk, h, none⟩ = some (encN vs xh) ∧ w'.cell? ⟨blk, m, none⟩ = some (encN vs xa)) (go_keep)
        (first | (go_at_call 56; refine KC.out.mono ?_; rintro e w5 ⟨rfl, rfl⟩))
      have HRD := Lib.hid HRW.out.drew
      by_cases hq : cfN l xa xh < 0
      · have HY := Lib.hid (HNO.out (by rw [HQH.out, decide_eq_true hq]; rfl))
        have HQT := Lib.hid (decide_eq_true hq)
        clear HYES HNO hq
        go_wp2_with fail
        all_goals first
          | (rename_i hx; rw [HQT.out] at hx; cases hx; done)
          | (refine ⟨⟨i, h, g, rfl, rfl, hi1, k1, by omega, by omega, ?_, HRD.out⟩, by simp [intOf]; omega⟩
             show _ = _
             rw [HHH.out, ← HY.out]; exact HB.out)
      · have HY := Lib.hid (HYES.out (by rw [HQH.out, decide_eq_false hq]; rfl))
        have HQT := Lib.hid (decide_eq_false hq)
        clear HYES HNO hq
        go_wp2_with fail
        all_goals first
          | (rename_i hx; rw [HQT.out] at hx; cases hx; done)
          | (refine ⟨⟨h + 1, j, g, by go_num, rfl, by omega, by omega, hjb, by omega, ?_, HRD.out⟩, by simp [intOf]; omega⟩
             show _ = _
             rw [HHH.out, ← HY.out]; exact HB.out)
    · obtain rfl : i = j := by omega
      have i1 : ¬ (i : Int) < (i : Int) := by omega
      have HBE := Lib.hid (show bsN Q (m - a) a m = i by rw [← HB.out, bsN_end (by omega)])
      have HE2 := Lib.hid (show symN l (f + 1) d a m (m + 1) = dnN d m (m - i) by rw [HE.out, HBE.out])
      go_wp2_with fail
      go_loopw [17] (fun kv wk => ∃ k : Nat, kv = .int .i64 ((m - k : Nat) : Int) ∧ k ≤ m - i ∧ Rw w vs blk (dnN d m k) wk) (fun kv _ => (intOf kv).toNat)
      case atStart => exact ⟨0, rfl, by omega, HRW.out⟩
      case round =>
        obtain ⟨k, rfl, hk, hRk⟩ := hrel
        have HRK := Lib.hid hRk
        clear hRk
        by_cases hkl : k < m - i
        · obtain ⟨A, hA⟩ : ∃ A, A = m - k := ⟨_, rfl⟩
          obtain ⟨C, hC⟩ : ∃ C, C = m - k - 1 := ⟨_, rfl⟩
          have hN0 := HDN.out
          have hsz2 : (dnN d m k).size = d.size := dnN_size _ _ _
          obtain ⟨c1, f1⟩ := Rw.at HS.out HRK.out (hsz2.trans HD.out) (j := A) (by omega)
          obtain ⟨c2, f2⟩ := Rw.at HS.out HRK.out (hsz2.trans HD.out) (j := C) (by omega)
          have HSW := Lib.hid (HRK.out.swap (i := A) (j := C) (by omega) (by omega))
          have HUP := Lib.hid (show dnN d m (k + 1) = swp (dnN d m k) A C by rw [hA, hC]; rfl)
          rw [← hA]
          have j1 : (i : Int) < (A : Int) := by omega
          have wA : IntKind.i64.wrap ((A : Int) - 1) = (C : Int) := by rw [IntWalk.i64_in _ (by omega)]; omega
          have b0 : (0 : Int) ≤ (A : Int) := by omega
          have b1 : (A : Int) < (N : Int) := by omega
          have b2 : (0 : Int) ≤ (C : Int) := by omega
          have b3 : (C : Int) < (N : Int) := by omega
          have hne : A ≠ C := by omega
          have HKL := Lib.hid (show k + 1 ≤ m - i ∧ i < A by omega)
          have HAK := Lib.hid (show m - (k + 1) = C ∧ A = C + 1 by omega)
          clear hA hC hN0 hsz2
          generalize (dnN d m k)[A]! = xA at *
          generalize (dnN d m k)[C]! = xC at *
          go_wp2_with fail
          go_region
          all_goals
            go_wp2_with fail
            refine ⟨⟨k + 1, by rw [HAK.out.1], HKL.out.1, ?_⟩, by have h2 := HAK.out.2; simp [intOf]; omega⟩
            rw [HUP.out]; exact HSW.out
        · have j1 : ¬ (i : Int) < ((m - k : Nat) : Int) := by omega
          have hke : k = m - i := by omega
          have HKE := Lib.hid hke
          clear hke
          go_wp2_with fail
          refine bodyPost_ret (results_none rfl _ _ _) rfl ?_
          exact ⟨rfl, by rw [HE2.out, ← HKE.out]; exact HRK.out⟩
end Go.Proofs.Ytpjllppbpnkemaa
