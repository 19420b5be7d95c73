/- Texts that the claims share, part 6. -/
import Derived.Test.YtafdaiidnphbaaaMg5
import Derived.Test.YtafdaiidnphbaaaMg3
import Derived.Test.YtafdaiidnphbaaaMg4

/- Merge of the reference (printed by wip/tools/oc_mgr.py). -/
namespace Go.Proofs.Ytafdaiidnphbaaa
open Go.RowKit Go.Sort Go.Lib

theorem hits_tail {w : World} {p : Option Addr} {c : Nat} {l : List Hit} (h : Hits w (.slice p l.length c) l) (hc : l.length ≤ c) (h0 : 0 < l.length) :
    ∃ p' c', (∀ w', (Instr.slice 34 (.slice p l.length c) (some (.int .i64 1)) none none).run Try.prog w' = .ok (.slice p' l.tail.length c') w') ∧ Hits w (.slice p' l.tail.length c') l.tail ∧ l.tail.length ≤ c' := by
  have hl : l.tail.length = l.length - 1 := List.length_tail
  rw [hl]
  refine ⟨if c = 1 then p else p.map (·.add (1 * 2)), c - 1, fun w' => ?_, ?_, by omega⟩
  rotate_left
  · have := hrow_cut h (lo := 1) h0 (Nat.le_refl _) hc
    rw [hcells_take, List.take_length, hcells_drop, List.drop_one] at this
    unfold Hits
    rw [hl]
    exact this
  · have hsz : ∀ w', (sizeOf (Try.prog.elem 34)).run Try.prog w' = .ok 2 w' := fun w' => by kernel_rfl
    rw [run_slice_l (P := Try.prog) w' 34 p l.length c (by kernel_rfl) .i64 1 (by omega) (by omega), hsz]
    simp only [Result.andThen, sliced]
    rfl
theorem mergeH_nil (a : List Hit) : mergeH a [] = a := by cases a <;> simp [mergeH]
theorem mergeH_x {x y : Hit} {a b : List Hit} (h : HLt x y) : mergeH (x :: a) (y :: b) = x :: mergeH a (y :: b) := by rw [mergeH, if_pos ((ltOf_iff _ _).2 h)]
theorem mergeH_y {x y : Hit} {a b : List Hit} (h : HLt y x) : mergeH (x :: a) (y :: b) = y :: mergeH (x :: a) b := by
  rw [mergeH, if_neg (by rw [ltOf_iff]; intro h2; exact HLt.irrefl _ (h.trans h2)), if_pos ((ltOf_iff _ _).2 h)]
theorem mergeH_z {x y : Hit} {a b : List Hit} (h1 : ¬ HLt x y) (h2 : ¬ HLt y x) : mergeH (x :: a) (y :: b) = x :: mergeH a b := by
  rw [mergeH, if_neg (by rw [ltOf_iff]; exact h1), if_neg (by rw [ltOf_iff]; exact h2)]
def slLen : Value → Nat
  | .slice _ n _ => n
  | _ => 0
set_option maxRecDepth 100000 in
set_option maxHeartbeats 16000000 in
theorem merge_r (va vb : Option Addr) (cca ccb : Nat) (a b : List Hit) (w : World) (ha : Hits w (.slice va a.length cca) a) (hb : Hits w (.slice vb b.length ccb) b) (hca : a.length ≤ cca) (hcb : b.length ≤ ccb) :
    Calls Try.prog 24 #[.slice va a.length cca, .slice vb b.length ccb] w (Hits2 w (mergeL a b) (mergeE a b)) := by
  have HA := Lib.hid ha
  have HB := Lib.hid hb
  have KA := Lib.hid (sorted_r _ a w ha)
  have KB := Lib.hid (fun w1 (h : Below w.heap.size w w1) => sorted_r _ b w1 (Row.below hb h))
  by_cases h0 : (sortedV a).2 = 0
  · by_cases h1 : (sortedV b).2 = 0
    · have hoa := okH_of h0
      have hob := okH_of h1
      have HE := Lib.hid (show mergeE a b = 0 by unfold mergeE; rw [if_neg (by rw [h0]; simp), h1])
      have HL := Lib.hid (show mergeL a b = mergeH a b by unfold mergeL; rw [if_pos HE.out])
      have hla := hoa.le
      have hlb := hob.le
      obtain ⟨i0, hi, hz0, hz1, hz2⟩ := info_parts infoHit
      rw [sortedV_ok h0] at KA
      rw [sortedV_ok h1] at KB
      clear h0 h1 ha hb hoa hob
      go_enter Try.func24, Try.ntmps24
      go_wp2_with fail
      refine KA.out.mono ?_
      rintro e w1 ⟨rfl, hb1⟩
      have HB1 := Lib.hid hb1
      have K2 := Lib.hid (KB.out w1 hb1)
      clear hb1 KA KB
      go_wp2_with fail
      refine K2.out.mono ?_
      rintro e w2 ⟨rfl, hb2⟩
      have HB2 := Lib.hid (HB1.out.trans (hb2.mono HB1.out.size))
      clear hb2 K2 HB1
      go_wp2_with fail
      go_loopw [0, 1, 8] (fun av bv ov wr => ∃ (pa : Option Addr) (ca : Nat) (pb : Option Addr) (cb na nb : Nat) (a' b' o : List Hit) (ow : Value), ow = ov ∧ av = .slice pa na ca ∧ bv = .slice pb nb cb ∧ a'.length = na ∧ b'.length = nb ∧ Hits w (.slice pa a'.length ca) a' ∧ Hits w (.slice pb b'.length cb) b' ∧ a'.length ≤ ca ∧ b'.length ≤ cb ∧ o ++ mergeH a' b' = mergeH a b ∧ o.length + a'.length + b'.length ≤ a.length + b.length ∧ wr.ownsRow w.heap.size 38 2 ow o.length (hcells o) ∧ Below w.heap.size w wr) (fun av bv _ _ => slLen av + slLen bv)
      case atStart => exact ⟨va, cca, vb, ccb, _, _, a, b, [], _, rfl, rfl, rfl, rfl, rfl, HA.out, HB.out, hca, hcb, rfl, by simp, World.ownsRow_nil _ _ _ _, HB2.out⟩
      case round =>
        clear HA HB hca hcb HB2
        obtain ⟨pa, ca, pb, cb, na, nb, a', b', o, ow, rfl, rfl, rfl, hna, hnb, ha, hb, hca, hcb, hm, hlen, hown, hB⟩ := hrel
        have HOWN := Lib.hid hown
        have HM := Lib.hid hm
        have HBW := Lib.hid hB
        have l0 : w.heap.size ≤ wr.heap.size := hB.size
        clear hown hm
        cases a' with
        | nil =>
          obtain rfl : na = 0 := by simpa using hna.symm
          cases b' with
          | nil =>
            obtain rfl : nb = 0 := by simpa using hnb.symm
            have HO := Lib.hid (show o = mergeH a b by have := HM.out; rw [mergeH, List.append_nil] at this; exact this)
            clear ha hb hB
            go_wp2_with fail
            go_ret2
            exact show Hits2 _ _ _ _ _ from (by rw [HE.out, HL.out, ← HO.out]; exact ⟨_, rfl, HOWN.out, HBW.out⟩)
          | cons y b' =>
            obtain rfl : nb = b'.length + 1 := by simpa using hnb.symm
            obtain ⟨y1, y2⟩ := y
            obtain ⟨gb, ob, hgb, hlb, eb0, eb1⟩ := Hits.at hb (i := 0) (by simp)
            subst hgb
            have fb := Hits.ats (Row.below hb hB) (i := 0) (by simp)
            obtain ⟨fb0, fb1⟩ := fb
            simp only [Nat.zero_mul, Nat.add_zero, List.getElem_cons_zero] at fb0 fb1
            clear eb0 eb1
            obtain ⟨qb, db, slb, htb, hdb⟩ := hits_tail hb hcb (by simp)
            have HTb := Lib.hid htb
            have HDb := Lib.hid hdb
            clear htb hdb
            simp only [List.length_cons, List.tail_cons] at slb HTb HDb hcb hlen
            have zb : ((b'.length : Int) + 1 == 0) = false := beq_eq_false_iff_ne.2 (by omega)
            have HHa := Lib.hid ha
            clear ha hb hB
            go_wp2_with fail
            refine wp_region_quiet_below (by kernel_rfl) (by kernel_rfl) ?_
            repeat (go_big_quiet_step (fail))
            refine wpQuiet_nil ?_
            intro _ hw'
            obtain ⟨⟨dq, osq⟩, hw''⟩ := hw'
            subst hw''
            have hbr := below_regrown wr dq osq
            have fb0' := cell_regrown fb0 dq osq
            have fb1' := cell_regrown fb1 dq osq
            have HOWN2 := Lib.hid (ownsRow_below HOWN.out hbr)
            have HBW2 := Lib.hid (HBW.out.trans (hbr.mono HBW.out.size))
            have l2 : w.heap.size ≤ (Go.Sort.grow (redrawn wr dq) osq).heap.size := HBW2.out.size
            have l3 := hbr.size
            clear hbr fb0 fb1
            generalize Go.Sort.grow (redrawn wr dq) osq = w7 at *
            go_wp2_with fail
            refine wp_region_quiet_below (by kernel_rfl) (by kernel_rfl) ?_
            repeat (go_big_quiet_step (fail))
            refine wpQuiet_nil ?_
            intro _ hw'
            obtain ⟨⟨dq, osq⟩, hw''⟩ := hw'
            subst hw''
            have hbr := below_regrown w7 dq osq
            have fb0'' := cell_regrown fb0' dq osq
            have fb1'' := cell_regrown fb1' dq osq
            have HOWN3 := Lib.hid (ownsRow_below HOWN2.out hbr)
            have HBW3 := Lib.hid (HBW2.out.trans (hbr.mono HBW2.out.size))
            have l2' : w.heap.size ≤ (Go.Sort.grow (redrawn w7 dq) osq).heap.size := HBW3.out.size
            have l3' := hbr.size
            clear hbr fb0' fb1'
            generalize Go.Sort.grow (redrawn w7 dq) osq = w9 at *
            go_wp2_with fail
            have an : ow.ownBlock ≠ some gb := fun h => by have := (HOWN3.out.lt _ h).1; omega
            have ll : gb < w9.heap.size := by omega
            have HG := Lib.hid (⟨fb0'', fb1''⟩ : w9.cell? ⟨gb, ob, none⟩ = some (.int .i64 y1) ∧ w9.cell? ⟨gb, ob + 1, none⟩ = some (.int .i64 y2))
            go_region_held3 (fun w' => w'.cell? ⟨gb, ob, none⟩ = some (.int .i64 y1) ∧ w'.cell? ⟨gb, ob + 1, none⟩ = some (.int .i64 y2))
              (first
                | go_keep
                | (go_split_ands
                   refine ⟨?_, ?_⟩
                   · (rw [hgrow.cell_far _ (by simp; omega) (Ne.symm an)]; assumption)
                   · (rw [hgrow.cell_far _ (by simp; omega) (Ne.symm an)]; assumption)))
              ((refine step_append_lies _ (by rfl) _ _ _ (by rfl) w.heap.size 38 i0 _ 2 16 Try.underlying34 hi hz0 hz1 hz2 rfl (by omega) ow o.length _ (by rfl) ((HOWN3.out.alloc _).drew)
                  ⟨w9.heap.size, 0, none⟩ 1 1 (hcell (y1, y2)) (by rfl) (by rfl) (World.news_of_block (cs := #[.int .i64 y1, .int .i64 y2]) (t := 38) (fr := (0, 0)) (heap_alloc_new w9 _)) (hcell_one _)
                  (by omega) (by unfold maxLen; omega) (by omega) (by simp; omega) (w9.heap.size + 1) (by simp) ?_; intro gg cap w8 hown1 hgrow hat hlt2))
            have bg : Below w.heap.size w9 w8 := (((Below.refl _ w9).alloc HBW3.out.size _).drew).grown hgrow (by simp; omega) fun q e => (HOWN3.out.lt q e).1
            have HB9 := Lib.hid (HBW3.out.trans bg)
            rw [← hcells_snoc] at hown1
            have HO9 := Lib.hid hown1
            have HM9 := Lib.hid (show (o ++ [(y1, y2)]) ++ mergeH [] b' = mergeH a b by rw [← HM.out, List.append_assoc, mergeH, mergeH]; rfl)
            clear hown1 hgrow hat bg an HG fb0'' fb1''
            go_wp2_with fail
            exact ⟨⟨pa, ca, qb, db, 0, b'.length, [], b', o ++ [(y1, y2)], _, rfl, rfl, rfl, rfl, rfl, HHa.out, HTb.out, hca, HDb.out, HM9.out, by simp only [List.length_append, List.length_cons, List.length_nil] at *; omega, by rw [List.length_append]; exact HO9.out, HB9.out⟩, by simp only [slLen]; omega⟩
        | cons x a' =>
          obtain rfl : na = a'.length + 1 := by simpa using hna.symm
          obtain ⟨x1, x2⟩ := x
          cases b' with
          | nil =>
            obtain rfl : nb = 0 := by simpa using hnb.symm
            obtain ⟨ga, oa, hga, hla, ea0, ea1⟩ := Hits.at ha (i := 0) (by simp)
            subst hga
            have fa := Hits.ats (Row.below ha hB) (i := 0) (by simp)
            obtain ⟨fa0, fa1⟩ := fa
            simp only [Nat.zero_mul, Nat.add_zero, List.getElem_cons_zero] at fa0 fa1
            clear ea0 ea1
            obtain ⟨qa, da, sla, hta, hda⟩ := hits_tail ha hca (by simp)
            have HTa := Lib.hid hta
            have HDa := Lib.hid hda
            clear hta hda
            simp only [List.length_cons, List.tail_cons] at sla HTa HDa hca hlen
            have za : ((a'.length : Int) + 1 == 0) = false := beq_eq_false_iff_ne.2 (by omega)
            have za2 : decide (0 < (a'.length : Int) + 1) = true := decide_eq_true (by omega)
            have HHb := Lib.hid hb
            clear ha hb hB
            go_wp2_with fail
            refine wp_region_quiet_below (by kernel_rfl) (by kernel_rfl) ?_
            repeat (go_big_quiet_step (fail))
            refine wpQuiet_nil ?_
            intro _ hw'
            obtain ⟨⟨dq, osq⟩, hw''⟩ := hw'
            subst hw''
            have hbr := below_regrown wr dq osq
            have fa0' := cell_regrown fa0 dq osq
            have fa1' := cell_regrown fa1 dq osq
            have HOWN2 := Lib.hid (ownsRow_below HOWN.out hbr)
            have HBW2 := Lib.hid (HBW.out.trans (hbr.mono HBW.out.size))
            have l2 : w.heap.size ≤ (Go.Sort.grow (redrawn wr dq) osq).heap.size := HBW2.out.size
            have l3 := hbr.size
            clear hbr fa0 fa1
            generalize Go.Sort.grow (redrawn wr dq) osq = w7 at *
            go_wp2_with fail
            have an : ow.ownBlock ≠ some ga := fun h => by have := (HOWN2.out.lt _ h).1; omega
            have ll : ga < w7.heap.size := by omega
            have HG := Lib.hid (⟨fa0', fa1'⟩ : w7.cell? ⟨ga, oa, none⟩ = some (.int .i64 x1) ∧ w7.cell? ⟨ga, oa + 1, none⟩ = some (.int .i64 x2))
            go_region_held3 (fun w' => w'.cell? ⟨ga, oa, none⟩ = some (.int .i64 x1) ∧ w'.cell? ⟨ga, oa + 1, none⟩ = some (.int .i64 x2))
              (first
                | go_keep
                | (go_split_ands
                   refine ⟨?_, ?_⟩
                   · (rw [hgrow.cell_far _ (by simp; omega) (Ne.symm an)]; assumption)
                   · (rw [hgrow.cell_far _ (by simp; omega) (Ne.symm an)]; assumption)))
              ((refine step_append_lies _ (by rfl) _ _ _ (by rfl) w.heap.size 38 i0 _ 2 16 Try.underlying34 hi hz0 hz1 hz2 rfl (by omega) ow o.length _ (by rfl) ((HOWN2.out.alloc _).drew)
                  ⟨w7.heap.size, 0, none⟩ 1 1 (hcell (x1, x2)) (by rfl) (by rfl) (World.news_of_block (cs := #[.int .i64 x1, .int .i64 x2]) (t := 38) (fr := (0, 0)) (heap_alloc_new w7 _)) (hcell_one _)
                  (by omega) (by unfold maxLen; omega) (by omega) (by simp; omega) (w7.heap.size + 1) (by simp) ?_; intro gg cap w8 hown1 hgrow hat hlt2))
            have bg : Below w.heap.size w7 w8 := (((Below.refl _ w7).alloc HBW2.out.size _).drew).grown hgrow (by simp; omega) fun q e => (HOWN2.out.lt q e).1
            have HB9 := Lib.hid (HBW2.out.trans bg)
            rw [← hcells_snoc] at hown1
            have HO9 := Lib.hid hown1
            have HM9 := Lib.hid (show (o ++ [(x1, x2)]) ++ mergeH a' [] = mergeH a b by rw [← HM.out, List.append_assoc, mergeH_nil, mergeH_nil]; rfl)
            clear hown1 hgrow hat bg an HG fa0' fa1'
            go_wp2_with fail
            exact ⟨⟨qa, da, pb, cb, a'.length, 0, a', [], o ++ [(x1, x2)], _, rfl, rfl, rfl, rfl, rfl, HTa.out, HHb.out, HDa.out, hcb, HM9.out, by simp only [List.length_append, List.length_cons, List.length_nil] at *; omega, by rw [List.length_append]; exact HO9.out, HB9.out⟩, by simp only [slLen]; omega⟩
          | cons y b' =>
            obtain rfl : nb = b'.length + 1 := by simpa using hnb.symm
            obtain ⟨y1, y2⟩ := y
            have HHa := Lib.hid ha
            have HHb := Lib.hid hb
            obtain ⟨ga, oa, hga, hla, ea0, ea1⟩ := Hits.at ha (i := 0) (by simp)
            subst hga
            have fa := Hits.ats (Row.below ha hB) (i := 0) (by simp)
            obtain ⟨fa0, fa1⟩ := fa
            simp only [Nat.zero_mul, Nat.add_zero, List.getElem_cons_zero] at fa0 fa1
            clear ea0 ea1
            obtain ⟨qa, da, sla, hta, hda⟩ := hits_tail ha hca (by simp)
            have HTa := Lib.hid hta
            have HDa := Lib.hid hda
            clear hta hda
            obtain ⟨gb, ob, hgb, hlb, eb0, eb1⟩ := Hits.at hb (i := 0) (by simp)
            subst hgb
            have fb := Hits.ats (Row.below hb hB) (i := 0) (by simp)
            obtain ⟨fb0, fb1⟩ := fb
            simp only [Nat.zero_mul, Nat.add_zero, List.getElem_cons_zero] at fb0 fb1
            clear eb0 eb1
            obtain ⟨qb, db, slb, htb, hdb⟩ := hits_tail hb hcb (by simp)
            have HTb := Lib.hid htb
            have HDb := Lib.hid hdb
            clear htb hdb
            simp only [List.length_cons, List.tail_cons] at sla HTa HDa slb HTb HDb hlen hca hcb HHa HHb
            have za : ((a'.length : Int) + 1 == 0) = false := beq_eq_false_iff_ne.2 (by omega)
            have za2 : decide (0 < (a'.length : Int) + 1) = true := decide_eq_true (by omega)
            have zb : ((b'.length : Int) + 1 == 0) = false := beq_eq_false_iff_ne.2 (by omega)
            have C1 := Lib.hid (fun W => after_r (y1, y2) (x1, x2) W)
            have C2 := Lib.hid (fun W => after_r (x1, x2) (y1, y2) W)
            unfold hitV at C1 C2
            clear ha hb hB
            by_cases hxy : HLt (x1, x2) (y1, y2)
            · rw [(ltOf_iff _ _).2 hxy] at C1
              have HXY := Lib.hid hxy
              clear hxy
              have p0 := fun d os => cell_regrown fa0 d os
              have p1 := fun d os => cell_regrown fa1 d os
              have p2 := fun d os => cell_regrown fb0 d os
              have p3 := fun d os => cell_regrown fb1 d os
              go_wp2_with fail
              refine wp_region_quiet_below (by kernel_rfl) (by kernel_rfl) ?_
              repeat (go_big_quiet_step ((go_at_call 48; exact Calls.regrown_of (C1.out _))))
              refine wpQuiet_nil ?_
              intro _ hw'
              obtain ⟨⟨dq, osq⟩, hw''⟩ := hw'
              subst hw''
              clear p0 p1 p2 p3
              have hbr := below_regrown wr dq osq
              have fa0' := cell_regrown fa0 dq osq
              have fa1' := cell_regrown fa1 dq osq
              have fb0' := cell_regrown fb0 dq osq
              have fb1' := cell_regrown fb1 dq osq
              have HOWN2 := Lib.hid (ownsRow_below HOWN.out hbr)
              have HBW2 := Lib.hid (HBW.out.trans (hbr.mono HBW.out.size))
              have l2 : w.heap.size ≤ (Go.Sort.grow (redrawn wr dq) osq).heap.size := HBW2.out.size
              have l3 := hbr.size
              clear hbr fa0 fa1 fb0 fb1
              generalize Go.Sort.grow (redrawn wr dq) osq = w7 at *
              go_wp2_with fail
              clear fb0' fb1'
              have an : ow.ownBlock ≠ some ga := fun h => by have := (HOWN2.out.lt _ h).1; omega
              have ll : ga < w7.heap.size := by omega
              have HG := Lib.hid (⟨fa0', fa1'⟩ : w7.cell? ⟨ga, oa, none⟩ = some (.int .i64 x1) ∧ w7.cell? ⟨ga, oa + 1, none⟩ = some (.int .i64 x2))
              go_region_held3 (fun w' => w'.cell? ⟨ga, oa, none⟩ = some (.int .i64 x1) ∧ w'.cell? ⟨ga, oa + 1, none⟩ = some (.int .i64 x2))
                (first
                  | go_keep
                  | (go_split_ands
                     refine ⟨?_, ?_⟩
                     · (rw [hgrow.cell_far _ (by simp; omega) (Ne.symm an)]; assumption)
                     · (rw [hgrow.cell_far _ (by simp; omega) (Ne.symm an)]; assumption)))
                ((refine step_append_lies _ (by rfl) _ _ _ (by rfl) w.heap.size 38 i0 _ 2 16 Try.underlying34 hi hz0 hz1 hz2 rfl (by omega) ow o.length _ (by rfl) ((HOWN2.out.alloc _).drew)
                    ⟨w7.heap.size, 0, none⟩ 1 1 (hcell (x1, x2)) (by rfl) (by rfl) (World.news_of_block (cs := #[.int .i64 x1, .int .i64 x2]) (t := 38) (fr := (0, 0)) (heap_alloc_new w7 _)) (hcell_one _)
                    (by omega) (by unfold maxLen; omega) (by omega) (by simp; omega) (w7.heap.size + 1) (by simp) ?_; intro gg cap w8 hown1 hgrow hat hlt2))
              have bg : Below w.heap.size w7 w8 := (((Below.refl _ w7).alloc HBW2.out.size _).drew).grown hgrow (by simp; omega) fun q e => (HOWN2.out.lt q e).1
              have HB9 := Lib.hid (HBW2.out.trans bg)
              rw [← hcells_snoc] at hown1
              have HO9 := Lib.hid hown1
              have HM9 := Lib.hid (show (o ++ [(x1, x2)]) ++ mergeH a' ((y1, y2) :: b') = mergeH a b by rw [← HM.out, List.append_assoc, mergeH_x HXY.out]; rfl)
              clear hown1 hgrow hat bg an HG fa0' fa1'
              go_wp2_with fail
              exact ⟨⟨qa, da, some ⟨gb, ob, none⟩, cb, a'.length, b'.length + 1, a', ((y1, y2) :: b'), o ++ [(x1, x2)], _, rfl, rfl, rfl, rfl, by simp, HTa.out, HHb.out, HDa.out, hcb, HM9.out, by simp only [List.length_append, List.length_cons, List.length_nil] at *; omega, by rw [List.length_append]; exact HO9.out, HB9.out⟩, by simp only [slLen]; omega⟩
            · have C1' := Lib.hid (show ltOf cmpH (x1, x2) (y1, y2) = false from Bool.eq_false_iff.2 (fun h => hxy ((ltOf_iff _ _).1 h)))
              rw [C1'.out] at C1
              have HXY := Lib.hid hxy
              clear hxy C1'
              have p0 := fun d os => cell_regrown fa0 d os
              have p1 := fun d os => cell_regrown fa1 d os
              have p2 := fun d os => cell_regrown fb0 d os
              have p3 := fun d os => cell_regrown fb1 d os
              by_cases hyx : HLt (y1, y2) (x1, x2)
              · rw [(ltOf_iff _ _).2 hyx] at C2
                have HYX := Lib.hid hyx
                clear hyx
                go_wp2_with fail
                refine wp_region_quiet_below (by kernel_rfl) (by kernel_rfl) ?_
                repeat (go_big_quiet_step ((go_at_call 48; exact Calls.regrown_of (C1.out _))))
                refine wpQuiet_nil ?_
                intro _ hw'
                obtain ⟨⟨dq, osq⟩, hw''⟩ := hw'
                subst hw''
                clear p0 p1 p2 p3
                have hbr := below_regrown wr dq osq
                have fa0' := cell_regrown fa0 dq osq
                have fa1' := cell_regrown fa1 dq osq
                have fb0' := cell_regrown fb0 dq osq
                have fb1' := cell_regrown fb1 dq osq
                have HOWN2 := Lib.hid (ownsRow_below HOWN.out hbr)
                have HBW2 := Lib.hid (HBW.out.trans (hbr.mono HBW.out.size))
                have l2 : w.heap.size ≤ (Go.Sort.grow (redrawn wr dq) osq).heap.size := HBW2.out.size
                have l3 := hbr.size
                clear hbr fa0 fa1 fb0 fb1
                generalize Go.Sort.grow (redrawn wr dq) osq = w7 at *
                have p0 := fun d os => cell_regrown fa0' d os
                have p1 := fun d os => cell_regrown fa1' d os
                have p2 := fun d os => cell_regrown fb0' d os
                have p3 := fun d os => cell_regrown fb1' d os
                go_wp2_with fail
                refine wp_region_quiet_below (by kernel_rfl) (by kernel_rfl) ?_
                repeat (go_big_quiet_step ((go_at_call 48; exact Calls.regrown_of (C2.out _))))
                refine wpQuiet_nil ?_
                intro _ hw'
                obtain ⟨⟨dq, osq⟩, hw''⟩ := hw'
                subst hw''
                clear p0 p1 p2 p3
                have hbr := below_regrown w7 dq osq
                have fa0'' := cell_regrown fa0' dq osq
                have fa1'' := cell_regrown fa1' dq osq
                have fb0'' := cell_regrown fb0' dq osq
                have fb1'' := cell_regrown fb1' dq osq
                have HOWN3 := Lib.hid (ownsRow_below HOWN2.out hbr)
                have HBW3 := Lib.hid (HBW2.out.trans (hbr.mono HBW2.out.size))
                have l2' : w.heap.size ≤ (Go.Sort.grow (redrawn w7 dq) osq).heap.size := HBW3.out.size
                have l3' := hbr.size
                clear hbr fa0' fa1' fb0' fb1'
                generalize Go.Sort.grow (redrawn w7 dq) osq = w9 at *
                go_wp2_with fail
                clear fa0'' fa1''
                have an : ow.ownBlock ≠ some gb := fun h => by have := (HOWN3.out.lt _ h).1; omega
                have ll : gb < w9.heap.size := by omega
                have HG := Lib.hid (⟨fb0'', fb1''⟩ : w9.cell? ⟨gb, ob, none⟩ = some (.int .i64 y1) ∧ w9.cell? ⟨gb, ob + 1, none⟩ = some (.int .i64 y2))
                go_region_held3 (fun w' => w'.cell? ⟨gb, ob, none⟩ = some (.int .i64 y1) ∧ w'.cell? ⟨gb, ob + 1, none⟩ = some (.int .i64 y2))
                  (first
                    | go_keep
                    | (go_split_ands
                       refine ⟨?_, ?_⟩
                       · (rw [hgrow.cell_far _ (by simp; omega) (Ne.symm an)]; assumption)
                       · (rw [hgrow.cell_far _ (by simp; omega) (Ne.symm an)]; assumption)))
                  ((refine step_append_lies _ (by rfl) _ _ _ (by rfl) w.heap.size 38 i0 _ 2 16 Try.underlying34 hi hz0 hz1 hz2 rfl (by omega) ow o.length _ (by rfl) ((HOWN3.out.alloc _).drew)
                      ⟨w9.heap.size, 0, none⟩ 1 1 (hcell (y1, y2)) (by rfl) (by rfl) (World.news_of_block (cs := #[.int .i64 y1, .int .i64 y2]) (t := 38) (fr := (0, 0)) (heap_alloc_new w9 _)) (hcell_one _)
                      (by omega) (by unfold maxLen; omega) (by omega) (by simp; omega) (w9.heap.size + 1) (by simp) ?_; intro gg cap w8 hown1 hgrow hat hlt2))
                have bg : Below w.heap.size w9 w8 := (((Below.refl _ w9).alloc HBW3.out.size _).drew).grown hgrow (by simp; omega) fun q e => (HOWN3.out.lt q e).1
                have HB9 := Lib.hid (HBW3.out.trans bg)
                rw [← hcells_snoc] at hown1
                have HO9 := Lib.hid hown1
                have HM9 := Lib.hid (show (o ++ [(y1, y2)]) ++ mergeH ((x1, x2) :: a') b' = mergeH a b by rw [← HM.out, List.append_assoc, mergeH_y HYX.out]; rfl)
                clear hown1 hgrow hat bg an HG fb0'' fb1''
                go_wp2_with fail
                exact ⟨⟨some ⟨ga, oa, none⟩, ca, qb, db, a'.length + 1, b'.length, ((x1, x2) :: a'), b', o ++ [(y1, y2)], _, rfl, rfl, rfl, by simp, rfl, HHa.out, HTb.out, hca, HDb.out, HM9.out, by simp only [List.length_append, List.length_cons, List.length_nil] at *; omega, by rw [List.length_append]; exact HO9.out, HB9.out⟩, by simp only [slLen]; omega⟩
              · have C2' := Lib.hid (show ltOf cmpH (y1, y2) (x1, x2) = false from Bool.eq_false_iff.2 (fun h => hyx ((ltOf_iff _ _).1 h)))
                rw [C2'.out] at C2
                have HYX := Lib.hid hyx
                clear hyx C2'
                go_wp2_with fail
                refine wp_region_quiet_below (by kernel_rfl) (by kernel_rfl) ?_
                repeat (go_big_quiet_step ((go_at_call 48; exact Calls.regrown_of (C1.out _))))
                refine wpQuiet_nil ?_
                intro _ hw'
                obtain ⟨⟨dq, osq⟩, hw''⟩ := hw'
                subst hw''
                clear p0 p1 p2 p3
                have hbr := below_regrown wr dq osq
                have fa0' := cell_regrown fa0 dq osq
                have fa1' := cell_regrown fa1 dq osq
                have fb0' := cell_regrown fb0 dq osq
                have fb1' := cell_regrown fb1 dq osq
                have HOWN2 := Lib.hid (ownsRow_below HOWN.out hbr)
                have HBW2 := Lib.hid (HBW.out.trans (hbr.mono HBW.out.size))
                have l2 : w.heap.size ≤ (Go.Sort.grow (redrawn wr dq) osq).heap.size := HBW2.out.size
                have l3 := hbr.size
                clear hbr fa0 fa1 fb0 fb1
                generalize Go.Sort.grow (redrawn wr dq) osq = w7 at *
                have p0 := fun d os => cell_regrown fa0' d os
                have p1 := fun d os => cell_regrown fa1' d os
                have p2 := fun d os => cell_regrown fb0' d os
                have p3 := fun d os => cell_regrown fb1' d os
                go_wp2_with fail
                refine wp_region_quiet_below (by kernel_rfl) (by kernel_rfl) ?_
                repeat (go_big_quiet_step ((go_at_call 48; exact Calls.regrown_of (C2.out _))))
                refine wpQuiet_nil ?_
                intro _ hw'
                obtain ⟨⟨dq, osq⟩, hw''⟩ := hw'
                subst hw''
                clear p0 p1 p2 p3
                have hbr := below_regrown w7 dq osq
                have fa0'' := cell_regrown fa0' dq osq
                have fa1'' := cell_regrown fa1' dq osq
                have fb0'' := cell_regrown fb0' dq osq
                have fb1'' := cell_regrown fb1' dq osq
                have HOWN3 := Lib.hid (ownsRow_below HOWN2.out hbr)
                have HBW3 := Lib.hid (HBW2.out.trans (hbr.mono HBW2.out.size))
                have l2' : w.heap.size ≤ (Go.Sort.grow (redrawn w7 dq) osq).heap.size := HBW3.out.size
                have l3' := hbr.size
                clear hbr fa0' fa1' fb0' fb1'
                generalize Go.Sort.grow (redrawn w7 dq) osq = w9 at *
                go_wp2_with fail
                clear fb0'' fb1''
                have an : ow.ownBlock ≠ some ga := fun h => by have := (HOWN3.out.lt _ h).1; omega
                have ll : ga < w9.heap.size := by omega
                have HG := Lib.hid (⟨fa0'', fa1''⟩ : w9.cell? ⟨ga, oa, none⟩ = some (.int .i64 x1) ∧ w9.cell? ⟨ga, oa + 1, none⟩ = some (.int .i64 x2))
                go_region_held3 (fun w' => w'.cell? ⟨ga, oa, none⟩ = some (.int .i64 x1) ∧ w'.cell? ⟨ga, oa + 1, none⟩ = some (.int .i64 x2))
                  (first
                    | go_keep
                    | (go_split_ands
                       refine ⟨?_, ?_⟩
                       · (rw [hgrow.cell_far _ (by simp; omega) (Ne.symm an)]; assumption)
                       · (rw [hgrow.cell_far _ (by simp; omega) (Ne.symm an)]; assumption)))
                  ((refine step_append_lies _ (by rfl) _ _ _ (by rfl) w.heap.size 38 i0 _ 2 16 Try.underlying34 hi hz0 hz1 hz2 rfl (by omega) ow o.length _ (by rfl) ((HOWN3.out.alloc _).drew)
                      ⟨w9.heap.size, 0, none⟩ 1 1 (hcell (x1, x2)) (by rfl) (by rfl) (World.news_of_block (cs := #[.int .i64 x1, .int .i64 x2]) (t := 38) (fr := (0, 0)) (heap_alloc_new w9 _)) (hcell_one _)
                      (by omega) (by unfold maxLen; omega) (by omega) (by simp; omega) (w9.heap.size + 1) (by simp) ?_; intro gg cap w8 hown1 hgrow hat hlt2))
                have bg : Below w.heap.size w9 w8 := (((Below.refl _ w9).alloc HBW3.out.size _).drew).grown hgrow (by simp; omega) fun q e => (HOWN3.out.lt q e).1
                have HB9 := Lib.hid (HBW3.out.trans bg)
                rw [← hcells_snoc] at hown1
                have HO9 := Lib.hid hown1
                have HM9 := Lib.hid (show (o ++ [(x1, x2)]) ++ mergeH a' b' = mergeH a b by rw [← HM.out, List.append_assoc, mergeH_z HXY.out HYX.out]; rfl)
                clear hown1 hgrow hat bg an HG fa0'' fa1''
                go_wp2_with fail
                exact ⟨⟨qa, da, qb, db, a'.length, b'.length, a', b', o ++ [(x1, x2)], _, rfl, rfl, rfl, rfl, rfl, HTa.out, HTb.out, HDa.out, HDb.out, HM9.out, by simp only [List.length_append, List.length_cons, List.length_nil] at *; omega, by rw [List.length_append]; exact HO9.out, HB9.out⟩, by simp only [slLen]; omega⟩
    · have HE := Lib.hid (show mergeE a b = (sortedV b).2 by unfold mergeE; rw [if_neg (by rw [h0]; simp)])
      have HL := Lib.hid (show mergeL a b = [] by unfold mergeL; rw [if_neg (by rw [HE.out]; exact h1)])
      rw [sortedV_ok h0] at KA
      generalize (sortedV b).2 = x at *
      clear h0 ha hb
      go_enter Try.func24, Try.ntmps24
      go_wp2_with fail
      refine KA.out.mono ?_
      rintro e w1 ⟨rfl, hb1⟩
      have HB1 := Lib.hid hb1
      have K2 := Lib.hid (KB.out w1 hb1)
      clear hb1 KA KB
      go_wp2_with fail
      refine K2.out.mono ?_
      rintro e w2 ⟨rfl, hb2⟩
      have HB2 := Lib.hid (HB1.out.trans (hb2.mono HB1.out.size))
      clear hb2 K2 HB1
      go_wp2_with fail
      go_ret2
      exact show Hits2 _ _ _ _ _ from (by rw [HE.out, HL.out]; exact ⟨_, rfl, World.ownsRow_nil _ _ _ _, HB2.out⟩)
  · have HE := Lib.hid (show mergeE a b = (sortedV a).2 by unfold mergeE; rw [if_pos h0])
    have HL := Lib.hid (show mergeL a b = [] by unfold mergeL; rw [if_neg (by rw [HE.out]; exact h0)])
    have t1 : (sortedV a).2 ≠ 0 := h0
    generalize (sortedV a).2 = x at *
    clear ha hb
    go_enter Try.func24, Try.ntmps24
    go_wp2_with fail
    refine KA.out.mono ?_
    rintro e w1 ⟨rfl, hb1⟩
    have HB1 := Lib.hid hb1
    clear hb1 KA KB
    go_wp2_with fail
    go_ret2
    exact show Hits2 _ _ _ _ _ from (by rw [HE.out, HL.out]; exact ⟨_, rfl, World.ownsRow_nil _ _ _ _, HB1.out⟩)
end Go.Proofs.Ytafdaiidnphbaaa

/- Same and Ints of the reference. -/
namespace Go.Proofs.Ytafdaiidnphbaaa
open Go.RowKit Go.Sort Go.Lib

abbrev Nums (w : World) (v : Value) (l : List Int) : Prop := Row w 1 v l.length (l.map (Value.int .i64))
theorem Nums.at {w : World} {a : Option Addr} {n cap : Nat} {l : List Int} (h : Nums w (.slice a n cap) l) {i : Nat} (hi : i < l.length) : ∃ g o, a = some ⟨g, o, none⟩ ∧ g < w.heap.size ∧ w.cell? ⟨g, o + i, none⟩ = some (.int .i64 l[i]) := by
  obtain ⟨g, o, cp, e, hg, hc⟩ := Row.cellAt2 h hi (by omega)
  cases e
  have h0 := hc 0 (by omega)
  rw [Nat.mul_one, Nat.add_zero] at h0
  exact ⟨g, o, rfl, hg, h0.trans (by simp [List.getElem?_eq_getElem hi])⟩
theorem eq_of_at {α : Type} {l m : List α} (h : l.length = m.length) (hj : ∀ j (h1 : j < l.length) (h2 : j < m.length), l[j] = m[j]) : l = m := List.ext_getElem h hj
set_option maxRecDepth 100000 in
set_option maxHeartbeats 8000000 in
theorem same_r (v1 v2 : Value) (l m : List Hit) (w : World) (h1 : Hits w v1 l) (h2 : Hits w v2 m) :
    Calls Try.prog 22 #[v1, v2] w fun e w' => e = .returned (.bool (decide (l = m))) ∧ Below w.heap.size w w' := by
  have H1 := Lib.hid h1
  have H2 := Lib.hid h2
  have hm1 : l.length ≤ maxLen := h1.2.1
  unfold maxLen at hm1
  obtain ⟨p, c, rfl⟩ := Row.form2 h1
  obtain ⟨q, d, rfl⟩ := Row.form2 h2
  clear h1 h2
  by_cases hl : l.length = m.length
  · have t1 : ((l.length : Int) != (m.length : Int)) = false := by rw [hl]; simp
    have HLN := Lib.hid hl
    clear hl
    go_enter Try.func22, Try.ntmps22
    go_wp2_with fail
    go_loopw [5] (fun iv wr => ∃ i : Nat, i ≤ l.length ∧ iv = .int .i64 (i : Nat) ∧ (∀ j (h1 : j < l.length) (h2 : j < m.length), j < i → l[j] = m[j]) ∧ Below w.heap.size w wr) (fun iv _ => l.length - (intOf iv).toNat)
    case atStart => exact ⟨0, by omega, rfl, fun j _ _ h => absurd h (by omega), Below.refl _ _⟩
    case round =>
      obtain ⟨i, hi, rfl, hs, hB⟩ := hrel
      have HS := Lib.hid hs
      have HB := Lib.hid hB
      clear hs hB
      by_cases hlt : i < l.length
      · have hlt2 : i < m.length := by have := HLN.out; omega
        obtain ⟨g, o, ha, hg, _⟩ := Hits.at H1.out hlt
        subst ha
        obtain ⟨g2, o2, ha2, hg2, _⟩ := Hits.at H2.out hlt2
        subst ha2
        obtain ⟨d0, d1⟩ := Hits.ats (Row.below H1.out HB.out) hlt
        obtain ⟨e0, e1⟩ := Hits.ats (Row.below H2.out HB.out) hlt2
        have i1 : (0 : Int) ≤ (i : Int) := by omega
        have i2 : (i : Int) < (l.length : Int) := by omega
        have i3 : (i : Int) < (m.length : Int) := by have := HLN.out; omega
        have wi1 : IntKind.i64.wrap ((i : Int) + 1) = (i : Int) + 1 := IntWalk.i64_in _ (by omega)
        have HEQ := Lib.hid (fun (h : l[i] = m[i]) => (show ∀ j (h1 : j < l.length) (h2 : j < m.length), j < i + 1 → l[j] = m[j] from fun j h1 h2 hj => by
          by_cases e : j = i
          · subst e; exact h
          · exact HS.out j h1 h2 (by omega)))
        have HNE := Lib.hid (fun (h : l[i] ≠ m[i]) => (show decide (l = m) = false from decide_eq_false (fun e => h (by simp [e]))))
        generalize l[i] = x at *
        generalize m[i] = y at *
        obtain ⟨x1, x2⟩ := x
        obtain ⟨y1, y2⟩ := y
        dsimp only at d0 d1 e0 e1
        by_cases h1 : x1 = y1
        · subst h1
          by_cases h2 : x2 = y2
          · subst h2
            have HS2 := Lib.hid (HEQ.out rfl)
            clear HEQ HNE
            go_wp2_with fail
            go_region
            have HB2 := Lib.hid HB.out.drew
            clear d0 d1 e0 e1
            go_wp2_with fail
            exact ⟨⟨i + 1, by omega, by go_num, HS2.out, HB2.out⟩, by simp [intOf]; omega⟩
          · have HS2 := Lib.hid (HNE.out (fun e => h2 (by injection e)))
            clear HEQ HNE
            go_wp2_with fail
            go_region
            have HB2 := Lib.hid HB.out.drew
            clear d0 d1 e0 e1
            go_wp2_with fail
            go_ret
            exact ⟨by rw [HS2.out]; rfl, HB2.out⟩
        · have HS2 := Lib.hid (HNE.out (fun e => h1 (by injection e)))
          clear HEQ HNE
          go_wp2_with fail
          go_region
          have HB2 := Lib.hid HB.out.drew
          clear d0 d1 e0 e1
          go_wp2_with fail
          go_ret
          exact ⟨by rw [HS2.out]; rfl, HB2.out⟩
      · obtain rfl : i = l.length := by omega
        have i2 : ¬ ((l.length : Int) < (l.length : Int)) := by omega
        have HE := Lib.hid (show decide (l = m) = true from decide_eq_true (eq_of_at HLN.out fun j h1 h2 => HS.out j h1 h2 h1))
        go_wp2_with fail
        go_ret
        exact ⟨by rw [HE.out]; rfl, HB.out⟩
  · have t1 : ((l.length : Int) != (m.length : Int)) = true := bne_iff_ne.2 (by omega)
    have HE := Lib.hid (show decide (l = m) = false from decide_eq_false (fun e => hl (by rw [e])))
    go_enter Try.func22, Try.ntmps22
    go_wp2_with fail
    go_ret
    exact ⟨by rw [HE.out]; rfl, Below.refl _ _⟩
set_option maxRecDepth 100000 in
set_option maxHeartbeats 8000000 in
theorem ints_r (v1 v2 : Value) (l m : List Int) (w : World) (h1 : Nums w v1 l) (h2 : Nums w v2 m) :
    Calls Try.prog 17 #[v1, v2] w fun e w' => e = .returned (.bool (decide (l = m))) ∧ Below w.heap.size w w' := by
  have H1 := Lib.hid h1
  have H2 := Lib.hid h2
  have hm1 : l.length ≤ maxLen := h1.2.1
  unfold maxLen at hm1
  obtain ⟨p, c, rfl⟩ := Row.form2 h1
  obtain ⟨q, d, rfl⟩ := Row.form2 h2
  clear h1 h2
  by_cases hl : l.length = m.length
  · have t1 : ((l.length : Int) != (m.length : Int)) = false := by rw [hl]; simp
    have HLN := Lib.hid hl
    clear hl
    go_enter Try.func17, Try.ntmps17
    go_wp2_with fail
    go_loopw [5] (fun iv wr => ∃ i : Nat, i ≤ l.length ∧ iv = .int .i64 (i : Nat) ∧ (∀ j (h1 : j < l.length) (h2 : j < m.length), j < i → l[j] = m[j]) ∧ Below w.heap.size w wr) (fun iv _ => l.length - (intOf iv).toNat)
    case atStart => exact ⟨0, by omega, rfl, fun j _ _ h => absurd h (by omega), Below.refl _ _⟩
    case round =>
      obtain ⟨i, hi, rfl, hs, hB⟩ := hrel
      have HS := Lib.hid hs
      have HB := Lib.hid hB
      clear hs hB
      by_cases hlt : i < l.length
      · have hlt2 : i < m.length := by have := HLN.out; omega
        obtain ⟨g, o, ha, hg, d0⟩ := Nums.at (Row.below H1.out HB.out) hlt
        subst ha
        obtain ⟨g2, o2, ha2, hg2, e0⟩ := Nums.at (Row.below H2.out HB.out) hlt2
        subst ha2
        have i1 : (0 : Int) ≤ (i : Int) := by omega
        have i2 : (i : Int) < (l.length : Int) := by omega
        have i3 : (i : Int) < (m.length : Int) := by have := HLN.out; omega
        have wi1 : IntKind.i64.wrap ((i : Int) + 1) = (i : Int) + 1 := IntWalk.i64_in _ (by omega)
        have HEQ := Lib.hid (fun (h : l[i] = m[i]) => (show ∀ j (h1 : j < l.length) (h2 : j < m.length), j < i + 1 → l[j] = m[j] from fun j h1 h2 hj => by
          by_cases e : j = i
          · subst e; exact h
          · exact HS.out j h1 h2 (by omega)))
        have HNE := Lib.hid (fun (h : l[i] ≠ m[i]) => (show decide (l = m) = false from decide_eq_false (fun e => h (by simp [e]))))
        generalize l[i] = x at *
        generalize m[i] = y at *
        by_cases h1 : x = y
        · subst h1
          have HS2 := Lib.hid (HEQ.out rfl)
          clear HEQ HNE
          go_wp2_with fail
          go_region
          have HB2 := Lib.hid HB.out.drew
          clear d0 e0
          go_wp2_with fail
          exact ⟨⟨i + 1, by omega, by go_num, HS2.out, HB2.out⟩, by simp [intOf]; omega⟩
        · have HS2 := Lib.hid (HNE.out h1)
          have t2 : (x != y) = true := bne_iff_ne.2 h1
          clear HEQ HNE
          go_wp2_with fail
          go_region
          have HB2 := Lib.hid HB.out.drew
          clear d0 e0
          go_wp2_with fail
          go_ret
          exact ⟨by rw [HS2.out]; rfl, HB2.out⟩
      · obtain rfl : i = l.length := by omega
        have i2 : ¬ ((l.length : Int) < (l.length : Int)) := by omega
        have HE := Lib.hid (show decide (l = m) = true from decide_eq_true (eq_of_at HLN.out fun j h1 h2 => HS.out j h1 h2 h1))
        go_wp2_with fail
        go_ret
        exact ⟨by rw [HE.out]; rfl, HB.out⟩
  · have t1 : ((l.length : Int) != (m.length : Int)) = true := bne_iff_ne.2 (by omega)
    have HE := Lib.hid (show decide (l = m) = false from decide_eq_false (fun e => hl (by rw [e])))
    go_enter Try.func17, Try.ntmps17
    go_wp2_with fail
    go_ret
    exact ⟨by rw [HE.out]; rfl, Below.refl _ _⟩
end Go.Proofs.Ytafdaiidnphbaaa

/- asked and ends of the reference. -/
namespace Go.Proofs.Ytafdaiidnphbaaa
open Go.RowKit Go.Sort

set_option maxRecDepth 100000 in
set_option maxHeartbeats 8000000 in
theorem asked_r (v u : Value) (L : List (List El)) (b : List UInt8) (w : World) (h : Sets w v L) (hb : Bytes w u b) :
    Calls Try.prog 55 #[v, u] w fun e w' => e = .returned (.int .i64 (allE L b)) ∧ Below w.heap.size w w' := by
  have KS := Lib.hid (checks_r v L w h)
  obtain ⟨ua, ucap, rfl⟩ := Row.form2 hb
  clear h hb
  by_cases h0 : (checkS L).2 = 0
  · rw [checkS_ok h0] at KS
    by_cases h1 : 4096 < b.length
    · have HE := Lib.hid (show allE L b = 3 by unfold allE; rw [if_neg (by rw [h0]; simp), if_pos h1])
      clear h0
      go_enter Try.func55, Try.ntmps55
      go_wp2_with fail
      refine KS.out.mono ?_
      rintro e w1 ⟨rfl, hb1⟩
      have HB1 := Lib.hid hb1
      clear hb1 KS
      go_wp2_with fail
      go_ret
      exact ⟨by rw [HE.out]; rfl, HB1.out⟩
    · have HE := Lib.hid (show allE L b = 0 by unfold allE; rw [if_neg (by rw [h0]; simp), if_neg h1])
      clear h0
      go_enter Try.func55, Try.ntmps55
      go_wp2_with fail
      refine KS.out.mono ?_
      rintro e w1 ⟨rfl, hb1⟩
      have HB1 := Lib.hid hb1
      clear hb1 KS
      go_wp2_with fail
      go_ret
      exact ⟨by rw [HE.out]; rfl, HB1.out⟩
  · have HE := Lib.hid (show allE L b = (checkS L).2 by unfold allE; rw [if_pos h0])
    have t1 : ((checkS L).2 == 0) = false := beq_eq_false_iff_ne.2 h0
    generalize (checkS L).2 = E at *
    generalize (checkS L).1 = E' at *
    clear h0
    go_enter Try.func55, Try.ntmps55
    go_wp2_with fail
    refine KS.out.mono ?_
    rintro e w1 ⟨rfl, hb1⟩
    have HB1 := Lib.hid hb1
    clear hb1 KS
    go_wp2_with fail
    go_ret
    exact ⟨by rw [HE.out]; rfl, HB1.out⟩
set_option maxRecDepth 100000 in
set_option maxHeartbeats 8000000 in
theorem ends_r (v u : Value) (p : List El) (b : List UInt8) (w : World) (h : Pats w v p) (hb : Bytes w u b) (hok : OkP p) (hl : b.length ≤ 4096) :
    Calls Try.prog 56 #[v, u] w (RunP w (b.length + 1) (reachP b p (fun _ => true))) := by
  have HP := Lib.hid h
  have HBy := Lib.hid hb
  have HK := Lib.hid hok
  obtain ⟨a, cap, rfl⟩ := Row.form2 h
  obtain ⟨ua, ucap, rfl⟩ := Row.form2 hb
  obtain ⟨i0, hi, hz0, hz1, hz2⟩ := info_parts infoB
  have wl : IntKind.i64.wrap ((b.length : Int) + 1) = (b.length : Int) + 1 := IntWalk.i64_in _ (by omega)
  clear h hb hok
  go_enter Try.func56, Try.ntmps56
  go_wp2_with (at_make; refine wpList_make_full _ rfl _ _ 62 rfl w.heap.size 4 i0 _ 1 Try.underlying62 hi hz0 hz1 _ _ _ _ (b.length + 1) rfl rfl (by omega) (by omega) (by rw [hz2]; omega) (by unfold maxLen; omega) (Nat.le_refl _) ?_; intro w3 hown hgrow)
  have hr3 := bools_made (by omega) hown
  have hb3 : Below w.heap.size w w3 := (Below.refl _ _).grown hgrow (Nat.le_refl _) (fun q e => by cases e)
  have HR3 := Lib.hid hr3
  have HB3 := Lib.hid hb3
  clear hown hgrow hr3 hb3
  go_wp2_with fail
  go_loopw [6] (fun nv wr => ∃ n : Nat, n ≤ b.length + 1 ∧ nv = .int .i64 (n : Nat) ∧ (∃ f, BRow wr w.heap.size (b.length + 1) f ∧ ∀ j, j < n → f j = true) ∧ Below w.heap.size w wr) (fun nv _ => b.length + 1 - (intOf nv).toNat)
  case atStart => exact ⟨0, by omega, rfl, ⟨_, HR3.out, fun j h => absurd h (by omega)⟩, HB3.out⟩
  case round =>
    obtain ⟨n, hnl, rfl, ⟨f, hR, hf⟩, hB⟩ := hrel
    have HB := Lib.hid hB
    have HR := Lib.hid hR
    have HF := Lib.hid hf
    by_cases hnt : n ≤ b.length
    · have n0 : (0 : Int) ≤ (n : Int) := by omega
      have n1 : (n : Int) ≤ (b.length : Int) := by omega
      have n2 : (n : Int) < (b.length : Int) + 1 := by omega
      have wn1 : IntKind.i64.wrap ((n : Int) + 1) = (n : Int) + 1 := IntWalk.i64_in _ (by omega)
      have fr := hR.free n
      have ce := hR.cell (m := n) (by omega)
      have HR2 := Lib.hid (hR.set n)
      have HB2 := Lib.hid (hB.setCell (p := ⟨w.heap.size, n, none⟩) (Nat.le_refl _) (.bool true))
      have HF2 := Lib.hid (show ∀ j, j < n + 1 → (decide (j = n) || f j) = true from fun j hj => by
        by_cases e : j = n
        · simp [e]
        · rw [HF.out j (by omega)]; simp)
      clear hR hB hf
      go_wp2_with fail
      exact ⟨⟨n + 1, by omega, by go_num, ⟨_, HR2.out, HF2.out⟩, HB2.out⟩, by simp [intOf]; omega⟩
    · obtain rfl : n = b.length + 1 := by omega
      have n1 : ¬ ((b.length : Int) + 1 < (b.length : Int) + 1) := by omega
      have HT := Lib.hid (hR.congr (f' := fun _ => true) fun m hm => hf m hm)
      have K := Lib.hid (reach_r _ _ p b w.heap.size (b.length + 1) (fun _ => true) wr (HP.out.below HB.out) (Row.below HBy.out HB.out) HK.out hl HT.out)
      clear hR hB hf HR HF
      go_wp2_with fail
      refine K.out.mono ?_
      rintro e w4 ⟨g, cp, rfl, hr, hb⟩
      have HR4 := Lib.hid hr
      have HB4 := Lib.hid (HB.out.trans (hb.mono HB.out.size))
      clear hr hb
      go_wp2_with fail
      go_ret
      exact show RunP _ _ _ _ _ from ⟨g, cp, rfl, HR4.out, HB4.out⟩
end Go.Proofs.Ytafdaiidnphbaaa

/- All of the reference. -/
namespace Go.Proofs.Ytafdaiidnphbaaa
open Go.RowKit Go.Sort

def hitAt (L : List (List El)) (b : List UInt8) (i m : Nat) : Bool := match L[i]? with | some p => reachP b p (fun _ => true) m | none => false
theorem hitAt_at {L : List (List El)} {b : List UInt8} {i : Nat} (h : i < L.length) (m : Nat) : hitAt L b i m = reachP b L[i] (fun _ => true) m := by unfold hitAt; rw [List.getElem?_eq_getElem h]
def rowHits (L : List (List El)) (b : List UInt8) (m k : Nat) : List Hit := ((List.range k).filter (fun i => hitAt L b i m)).map fun (i : Nat) => ((m : Int), (i : Int))
def refTo (L : List (List El)) (b : List UInt8) (n : Nat) : List Hit := (List.range n).flatMap fun j => rowHits L b (j + 1) L.length
theorem rowHits_yes {L : List (List El)} {b : List UInt8} {m k : Nat} (h : hitAt L b k m = true) : rowHits L b m (k + 1) = rowHits L b m k ++ [((m : Int), (k : Int))] := by simp [rowHits, List.range_succ, h]
theorem rowHits_no {L : List (List El)} {b : List UInt8} {m k : Nat} (h : hitAt L b k m = false) : rowHits L b m (k + 1) = rowHits L b m k := by simp [rowHits, List.range_succ, h]
theorem refTo_succ (L : List (List El)) (b : List UInt8) (n : Nat) : refTo L b (n + 1) = refTo L b n ++ rowHits L b (n + 1) L.length := by simp [refTo, List.range_succ]
theorem rowHits_len (L : List (List El)) (b : List UInt8) (m k : Nat) : (rowHits L b m k).length ≤ k := by
  unfold rowHits
  rw [List.length_map]
  exact Nat.le_trans (List.length_filter_le _ _) (by simp)
theorem refTo_len (L : List (List El)) (b : List UInt8) : ∀ n, (refTo L b n).length ≤ n * L.length
  | 0 => by simp [refTo]
  | n + 1 => by
    rw [refTo_succ, List.length_append, Nat.add_mul, Nat.one_mul]
    have := refTo_len L b n
    have := rowHits_len L b (n + 1) L.length
    omega
def allR (L : List (List El)) (b : List UInt8) : List Hit := if allE L b = 0 then refTo L b b.length else []
theorem infoBs : (Try.prog.info? 62).map (fun i => (i.zero, i.size, i.bytes)) = some (some (.slice none 0 0), 1, 24) := by kernel_rfl
theorem app_at {w : World} {base : Nat} {v u : Value} {n : Nat} {vals : List Value} (hown : w.ownsRow base 62 1 v n vals) (hu : u.oneCell' = true) (hn : n ≤ 16) (hbase : base ≤ w.heap.size) :
    ∃ v' w', (Builtin.append_ #[87, 87] 87 #[v, .slice (some ⟨w.heap.size, 0, none⟩) 1 1]).run Try.prog (w.alloc (.cells #[u] 62)) = .ok v' w' ∧ w'.ownsRow base 62 1 v' (n + 1) (vals ++ [u]) ∧ (w.alloc (.cells #[u] 62)).grownBy w' v.ownBlock := by
  obtain ⟨j0, hj, hy0, hy1, hy2⟩ := info_parts infoBs
  have hr : Row (w.alloc (.cells #[u] 62)) 1 (.slice (some ⟨w.heap.size, 0, none⟩) 1 1) 1 [u] := Row.of_owns (base := w.heap.size) (e := 62) (World.ownsRow_lit w #[u] 1 (Nat.le_refl _) (by decide) rfl)
  exact append_row (P := Try.prog) base 87 87 62 Try.underlying87 hj hy0 hy1 hy2 rfl (by decide) (hown.alloc _) hr (fun x hx => by rw [List.mem_singleton.1 hx]; exact hu) (by unfold maxLen; omega) (by omega) (by simp; omega)
/-- a block of another type stays where an own row grows -/
theorem grown_keep {w w' : World} {base n s : Nat} {e t : TypeId} {v : Value} {xs : List Value} (hown : w.ownsRow base e s v n xs) (hg : w.grownBy w' v.ownBlock) {g : Nat} {cs : Array Value} {fr : Nat × Nat} (h : w.heap[g]? = some (.cells cs t fr)) (hne : t ≠ e) : w'.heap[g]? = some (.cells cs t fr) := by
  have hlt := (Array.getElem?_eq_some_iff.1 h).1
  rw [hg.block g hlt ?_]
  · exact h
  · intro e1
    rcases hown.2 with ⟨rfl, _⟩ | ⟨g', cap, cur, rfl, _, hg', _⟩
    · cases e1
    · cases e1
      rw [h] at hg'
      injection hg' with hg'
      injection hg' with _ h2
      exact hne h2
/-- rows of truth values, listed -/
def RowsAt (w : World) (N : Nat) (F : Nat → Nat → Bool) (n : Nat) (vals : List Value) : Prop := ∀ j, j < n → ∃ g cp, vals[j]? = some (.slice (some ⟨g, 0, none⟩) N cp) ∧ BRow w g N (F j)
theorem RowsAt.below {w w' : World} {N n : Nat} {F : Nat → Nat → Bool} {vals : List Value} (h : RowsAt w N F n vals) (hb : Below w.heap.size w w') : RowsAt w' N F n vals := fun j hj => by
  obtain ⟨g, cp, h1, h2⟩ := h j hj
  exact ⟨g, cp, h1, h2.below hb⟩
theorem RowsAt.keep {w w' : World} {N n : Nat} {F : Nat → Nat → Bool} {vals : List Value} (h : RowsAt w N F n vals) (hk : ∀ (g : Nat) (cs : Array Value), w.heap[g]? = some (Obj.cells cs 4) → w'.heap[g]? = some (Obj.cells cs 4)) : RowsAt w' N F n vals := fun j hj => by
  obtain ⟨g, cp, h1, h2⟩ := h j hj
  exact ⟨g, cp, h1, hk _ _ h2⟩
theorem RowsAt.snoc {w : World} {N n : Nat} {F : Nat → Nat → Bool} {vals : List Value} (h : RowsAt w N F n vals) (hl : vals.length = n) {g cp : Nat} (hr : BRow w g N (F n)) : RowsAt w N F (n + 1) (vals ++ [.slice (some ⟨g, 0, none⟩) N cp]) := fun j hj => by
  by_cases e : j = n
  · subst e
    exact ⟨g, cp, by rw [List.getElem?_append_right (by omega), hl]; simp, hr⟩
  · obtain ⟨g', cp', h1, h2⟩ := h j (by omega)
    exact ⟨g', cp', by rw [List.getElem?_append_left (by omega)]; exact h1, h2⟩
set_option maxRecDepth 100000 in
set_option maxHeartbeats 8000000 in
theorem all_r (v u : Value) (L : List (List El)) (b : List UInt8) (w : World) (h : Sets w v L) (hb : Bytes w u b) :
    Calls Try.prog 30 #[v, u] w (HitsP w (allR L b) (allE L b)) := by
  have KS := Lib.hid (asked_r v u L b w h hb)
  have HS := Lib.hid h
  have HBy := Lib.hid hb
  obtain ⟨a, cap, rfl⟩ := h.form
  obtain ⟨ua, ucap, rfl⟩ := Row.form2 hb
  clear h hb
  by_cases h0 : allE L b = 0
  · have HV := Lib.hid (show allR L b = refTo L b b.length by unfold allR; rw [if_pos h0])
    have HE := Lib.hid h0
    have hok : OkS L := okS_of (by
      unfold allE at h0
      by_cases h1 : (checkS L).2 = 0
      · exact h1
      · rw [if_pos h1] at h0; exact absurd h0 h1)
    have hlb : b.length ≤ 4096 := by
      unfold allE at h0
      by_cases h1 : (checkS L).2 = 0
      · rw [if_neg (by rw [h1]; simp)] at h0
        by_cases h2 : 4096 < b.length
        · rw [if_pos h2] at h0; exact absurd h0 (by decide)
        · omega
      · rw [if_pos h1] at h0; exact absurd h0 h1
    have HOK := Lib.hid hok
    have hle := hok.le
    have hpos := hok.pos
    rw [h0] at KS
    clear h0 hok
    go_enter Try.func30, Try.ntmps30
    go_wp2_with fail
    refine KS.out.mono ?_
    rintro e w1 ⟨rfl, hb1⟩
    have HB1 := Lib.hid hb1
    clear hb1 KS
    go_wp2_with fail
    go_loopw [7, 8] (fun av iv wr => ∃ (i : Nat) (aw : Value) (vals : List Value), aw = av ∧ i ≤ L.length ∧ iv = .int .i64 (i : Nat) ∧ wr.ownsRow w.heap.size 62 1 aw i vals ∧ RowsAt wr (b.length + 1) (hitAt L b) i vals ∧ Below w.heap.size w wr) (fun _ iv _ => L.length - (intOf iv).toNat)
    case atStart => exact ⟨0, _, [], rfl, by omega, rfl, World.ownsRow_nil _ _ _ _, fun j hj => absurd hj (by omega), HB1.out⟩
    case round =>
      obtain ⟨i, aw, vals, rfl, hi, rfl, hown, hrows, hB⟩ := hrel
      have HO := Lib.hid hown
      have HR := Lib.hid hrows
      have HB := Lib.hid hB
      clear hown hrows hB
      by_cases hlt : i < L.length
      · obtain ⟨g, o, pa, pc, hga, hg, d0, hp⟩ := (HS.out.below HB.out).at hlt
        subst hga
        have i1 : (0 : Int) ≤ (i : Int) := by omega
        have i2 : (i : Int) < (L.length : Int) := by omega
        have wi1 : IntKind.i64.wrap ((i : Int) + 1) = (i : Int) + 1 := IntWalk.i64_in _ (by omega)
        have K := Lib.hid (ends_r (.slice pa L[i].length pc) _ L[i] b wr hp (Row.below HBy.out HB.out) (HOK.out.pat i hlt) hlb)
        have HF := Lib.hid (show reachP b L[i] (fun _ => true) = hitAt L b i from funext fun m => (hitAt_at hlt m).symm)
        rw [HF.out] at K
        clear hp
        generalize L[i].length = pn at *
        go_wp2_with fail
        refine K.out.mono ?_
        rintro e w3 ⟨g3, cp, rfl, hr3, hb3⟩
        have hown3 := ownsRow_below HO.out hb3
        obtain ⟨v', w4, hra, hoa, hga⟩ := app_at (u := .slice (some ⟨g3, 0, none⟩) (b.length + 1) cp) hown3 rfl (by omega) (Nat.le_trans HB.out.size hb3.size)
        have hbb : Below w.heap.size w w4 := ((HB.out.trans (hb3.mono HB.out.size)).alloc (Nat.le_trans HB.out.size hb3.size) _).grown hga (by simp; have := HB.out.size; have := hb3.size; omega) (fun q e => (hown3.lt q e).1)
        have hrw3 := (HR.out.below hb3).snoc (cp := cp) (by have := hown3.1; omega) hr3
        have hrw := hrw3.keep (w' := w4) (fun g cs h => grown_keep (hown3.alloc _) hga (by rw [heap_alloc_old _ _ (Array.getElem?_eq_some_iff.1 h).1]; exact h) (by decide))
        have HRA := Lib.hid hra
        have HO4 := Lib.hid hoa
        have HR4 := Lib.hid hrw
        have HB4 := Lib.hid hbb
        clear hra hoa hga hbb hrw hrw3 hr3 hown3 hb3 HO HR d0
        go_wp2_with (at_builtin; refine wpList_append_run rfl rfl rfl rfl HRA.out ?_)
        exact ⟨⟨i + 1, _, _, rfl, by omega, by go_num, HO4.out, HR4.out, HB4.out⟩, by simp [intOf]; omega⟩
      · obtain rfl : i = L.length := by omega
        have i2 : ¬ ((L.length : Int) < (L.length : Int)) := by omega
        have hA := HO.out.2
        rcases hA with ⟨_, e0⟩ | ⟨A, acap, acur, rfl, hAb, hA, hAc, _, _, htk⟩
        · omega
        have HA := Lib.hid hA
        have HTK := Lib.hid htk
        clear hA htk
        go_wp2_with fail
        go_loopw [9, 10] (fun ov mv wx => ∃ (m : Nat) (ow : Value), ow = ov ∧ m ≤ b.length ∧ mv = .int .i64 ((m + 1 : Nat) : Int) ∧ wx.ownsRow w.heap.size 38 2 ow (refTo L b m).length (hcells (refTo L b m)) ∧ wx.heap[A]? = some (Obj.cells acur 62) ∧ RowsAt wx (b.length + 1) (hitAt L b) L.length vals ∧ Below w.heap.size w wx) (fun _ mv _ => b.length + 1 - (intOf mv).toNat)
        case atStart => exact ⟨0, _, rfl, by omega, rfl, World.ownsRow_nil _ _ _ _, HA.out, HR.out, HB.out⟩
        case round =>
          obtain ⟨m, ow, rfl, hm, rfl, hown, hA, hrows, hB⟩ := hrel
          have HO2 := Lib.hid hown
          have HA2 := Lib.hid hA
          have HR2 := Lib.hid hrows
          have HB2 := Lib.hid hB
          clear hown hA hrows hB
          have m0 : (0 : Int) ≤ ((m + 1 : Nat) : Int) := by omega
          by_cases hlt : m < b.length
          · have m1 : ((m + 1 : Nat) : Int) ≤ (b.length : Int) := by omega
            have wm : IntKind.i64.wrap (((m + 1 : Nat) : Int) + 1) = ((m + 1 : Nat) : Int) + 1 := IntWalk.i64_in _ (by omega)
            have hm1 : m + 1 < b.length + 1 := by omega
            have j0 : ((m + 1 : Nat) : Int) < (b.length : Int) + 1 := by omega
            have HBW := Lib.hid (show ((b.length + 1 : Nat) : Int) = (b.length : Int) + 1 by omega)
            have HEND := Lib.hid (refTo_succ L b m)
            have hrl := refTo_len L b m
            have hrl2 : m * L.length ≤ 4096 * 16 := Nat.mul_le_mul (by omega) hle
            have hrm : (refTo L b m).length ≤ 70000 := by omega
            clear hrl hrl2
            generalize hM : m + 1 = M at *
            have HM := Lib.hid hM
            clear hM
            go_wp2_with fail
            go_loopw [9, 11] (fun ov kv wx => ∃ (k : Nat) (ow : Value), ow = ov ∧ k ≤ L.length ∧ kv = .int .i64 (k : Nat) ∧ wx.ownsRow w.heap.size 38 2 ow (refTo L b m ++ rowHits L b M k).length (hcells (refTo L b m ++ rowHits L b M k)) ∧ wx.heap[A]? = some (Obj.cells acur 62) ∧ RowsAt wx (b.length + 1) (hitAt L b) L.length vals ∧ Below w.heap.size w wx) (fun _ kv _ => L.length - (intOf kv).toNat)
            case atStart => exact ⟨0, _, rfl, by omega, rfl, by simpa [rowHits] using HO2.out, HA2.out, HR2.out, HB2.out⟩
            case round =>
              obtain ⟨k, ow, rfl, hk, rfl, hown, hA, hrows, hB⟩ := hrel
              have HO3 := Lib.hid hown
              have HA3 := Lib.hid hA
              have HR3 := Lib.hid hrows
              have HB3 := Lib.hid hB
              by_cases hlk : k < L.length
              · obtain ⟨g, cp, hv, hr⟩ := hrows k hlk
                have d0 : wr.cell? ⟨A, k, none⟩ = some (.slice (some ⟨g, 0, none⟩) (b.length + 1) cp) := cell_in hA (by
                  rw [← HTK.out, List.getElem?_take, if_pos (by omega), Array.getElem?_toList] at hv
                  exact hv)
                have d1 := hr.cell hm1
                have k0 : (0 : Int) ≤ (k : Int) := by omega
                have k1 : (k : Int) < (L.length : Int) := by omega
                have wk : IntKind.i64.wrap ((k : Int) + 1) = (k : Int) + 1 := IntWalk.i64_in _ (by omega)
                have HYES := Lib.hid (@rowHits_yes L b M k)
                have HNO := Lib.hid (@rowHits_no L b M k)
                clear hown hA hrows hB hv hr
                cases hh : hitAt L b k M
                · rw [hh] at d1
                  have HN := Lib.hid (HNO.out hh)
                  clear hh HYES HNO
                  go_wp2_with fail
                  exact ⟨⟨k + 1, _, rfl, by omega, by go_num, by rw [HN.out]; exact HO3.out, HA3.out, HR3.out, HB3.out⟩, by simp [intOf]; omega⟩
                · rw [hh] at d1
                  have HN := Lib.hid (HYES.out hh)
                  clear hh HYES HNO
                  have hown1 := HO3.out.alloc (.cells #[.int .i64 (M : Int), .int .i64 (k : Int)] 38)
                  have hal : Below w.heap.size wr (wr.alloc (.cells #[.int .i64 (M : Int), .int .i64 (k : Int)] 38)) := (Below.refl _ wr).alloc HB3.out.size _
                  have hrl := rowHits_len L b M k
                  have hlen : (refTo L b m ++ rowHits L b M k).length + [((M : Int), (k : Int))].length ≤ 1000000 := by rw [List.length_append]; simp only [List.length_cons, List.length_nil]; omega
                  have hr1 : Hits (wr.alloc (.cells #[.int .i64 (M : Int), .int .i64 (k : Int)] 38)) (.slice (some ⟨wr.heap.size, 0, none⟩) 1 1) [((M : Int), (k : Int))] := Row.of_owns (base := wr.heap.size) (e := 38) (World.ownsRow_lit wr #[.int .i64 (M : Int), .int .i64 (k : Int)] 1 (Nat.le_refl _) (by decide) rfl)
                  obtain ⟨aa, cc, wa, hra, hoa, hga, hba⟩ := app_h hown1 hr1 hlen (Nat.le_trans HB3.out.size (by simp))
                  rw [List.append_assoc, ← HN.out] at hra hoa
                  have hka : wa.heap[A]? = some (Obj.cells acur 62) := grown_keep hown1 hga (by rw [heap_alloc_old _ _ (Array.getElem?_eq_some_iff.1 HA3.out).1]; exact HA3.out) (by decide)
                  have hrw := HR3.out.keep (w' := wa) (fun g cs h => grown_keep hown1 hga (by rw [heap_alloc_old _ _ (Array.getElem?_eq_some_iff.1 h).1]; exact h) (by decide))
                  generalize Value.slice aa _ cc = va at hra hoa
                  have HRA := Lib.hid hra
                  have HO4 := Lib.hid hoa
                  have HA4 := Lib.hid hka
                  have HR4 := Lib.hid hrw
                  have HB4 := Lib.hid (HB3.out.trans (hal.trans hba))
                  clear hra hoa hga hka hrw hba hal hown1 hr1 hlen hrl
                  go_wp2_with (at_builtin; refine wpList_append_run rfl rfl rfl rfl HRA.out ?_)
                  exact ⟨⟨k + 1, _, rfl, by omega, by go_num, HO4.out, HA4.out, HR4.out, HB4.out⟩, by simp [intOf]; omega⟩
              · obtain rfl : k = L.length := by omega
                have k1 : ¬ ((L.length : Int) < (L.length : Int)) := by omega
                rw [← HEND.out] at HO3
                have wm2 : IntKind.i64.wrap ((M : Int) + 1) = ((M + 1 : Nat) : Int) := by rw [wm]; omega
                clear wm hown hA hrows hB
                go_wp2_with fail
                exact ⟨⟨M, _, rfl, by omega, by go_num, HO3.out, HA3.out, HR3.out, HB3.out⟩, by simp [intOf]; omega⟩
          · obtain rfl : m = b.length := by omega
            have m1 : ¬ (((b.length + 1 : Nat) : Int) ≤ (b.length : Int)) := by omega
            go_wp2_with fail
            go_ret2
            exact show HitsP _ _ _ _ _ from (by rw [HE.out, HV.out]; exact ⟨_, rfl, HO2.out, HB2.out⟩)
  · have HV := Lib.hid (show allR L b = [] by unfold allR; rw [if_neg h0])
    have t1 : (allE L b != 0) = true := bne_iff_ne.2 h0
    generalize allE L b = E at *
    clear h0
    go_enter Try.func30, Try.ntmps30
    go_wp2_with fail
    refine KS.out.mono ?_
    rintro e w1 ⟨rfl, hb1⟩
    have HB1 := Lib.hid hb1
    clear hb1 KS
    go_wp2_with fail
    go_ret2
    exact show HitsP _ _ _ _ _ from (by rw [HV.out]; exact ⟨_, rfl, World.ownsRow_nil _ _ _ _, HB1.out⟩)
end Go.Proofs.Ytafdaiidnphbaaa

/- All hits: by rule and sorted is by end and rule. -/
namespace Go.Proofs.Ytafdaiidnphbaaa
open Go.RowKit Go.Sort Go.Lib

theorem mem_rawTo (L : List (List El)) (b : List UInt8) (n : Nat) (x : Hit) : x ∈ rawTo L b n ↔ ∃ (i e : Nat), i < n ∧ e ≤ b.length ∧ hitAt L b i e = true ∧ x = ((e : Int), (i : Int)) := by
  unfold rawTo
  rw [List.mem_flatMap]
  constructor
  · rintro ⟨i, hi, hx⟩
    unfold endsH at hx
    cases hl : L[i]? with
    | none => rw [hl] at hx; cases hx
    | some p =>
      rw [hl] at hx
      obtain ⟨e, he, rfl⟩ := List.mem_map.1 hx
      unfold endsV at he
      rw [List.mem_filter, List.mem_range] at he
      exact ⟨i, e, List.mem_range.1 hi, by omega, by unfold hitAt; rw [hl]; exact he.2, rfl⟩
  · rintro ⟨i, e, hi, he, hh, rfl⟩
    refine ⟨i, List.mem_range.2 hi, ?_⟩
    unfold endsH
    unfold hitAt at hh
    cases hl : L[i]? with
    | none => rw [hl] at hh; cases hh
    | some p =>
      rw [hl] at hh
      refine List.mem_map.2 ⟨e, ?_, rfl⟩
      unfold endsV
      rw [List.mem_filter, List.mem_range]
      exact ⟨by omega, hh⟩
theorem mem_refTo (L : List (List El)) (b : List UInt8) (n : Nat) (x : Hit) : x ∈ refTo L b n ↔ ∃ (i e : Nat), i < L.length ∧ 1 ≤ e ∧ e ≤ n ∧ hitAt L b i e = true ∧ x = ((e : Int), (i : Int)) := by
  unfold refTo rowHits
  simp only [List.mem_flatMap, List.mem_range, List.mem_map, List.mem_filter]
  constructor
  · rintro ⟨j, hj, i, ⟨hi, hh⟩, rfl⟩
    exact ⟨i, j + 1, hi, by omega, by omega, hh, rfl⟩
  · rintro ⟨i, e, hi, h1, h2, hh, rfl⟩
    obtain ⟨j, rfl⟩ : ∃ j, e = j + 1 := ⟨e - 1, by omega⟩
    exact ⟨j, by omega, i, ⟨hi, hh⟩, rfl⟩
theorem rowHits_strict (L : List (List El)) (b : List UInt8) (m k : Nat) : Strict (rowHits L b m k) := by
  unfold rowHits Strict
  rw [List.pairwise_map]
  have hr : (List.range k).Pairwise (· < ·) := List.pairwise_lt_range
  exact (hr.filter _).imp fun {x y} h => .inr ⟨rfl, show (x : Int) < (y : Int) by omega⟩
theorem refTo_strict (L : List (List El)) (b : List UInt8) (n : Nat) : Strict (refTo L b n) := by
  induction n with
  | zero => exact List.Pairwise.nil
  | succ n ih =>
    rw [refTo_succ, Strict, List.pairwise_append]
    refine ⟨ih, rowHits_strict L b _ _, fun x hx y hy => ?_⟩
    obtain ⟨i, e, _, _, h2, _, rfl⟩ := (mem_refTo L b n x).1 hx
    unfold rowHits at hy
    obtain ⟨k, _, rfl⟩ := List.mem_map.1 hy
    left
    show (e : Int) < ((n + 1 : Nat) : Int)
    omega
theorem rawTo_nodup (L : List (List El)) (b : List UInt8) (n : Nat) : (rawTo L b n).Nodup := by
  induction n with
  | zero => exact List.Pairwise.nil
  | succ n ih =>
    rw [rawTo_succ, List.nodup_append]
    refine ⟨ih, ?_, fun x hx y hy e => ?_⟩
    · unfold endsH
      cases L[n]? with
      | none => exact List.Pairwise.nil
      | some p =>
        show ((endsV p b).map _).Pairwise _
        rw [List.pairwise_map]
        have hr : (List.range (b.length + 1)).Pairwise (· < ·) := List.pairwise_lt_range
        refine (hr.filter _).imp fun {x y} h e => ?_
        injection e with e1 _
        omega
    · subst e
      obtain ⟨i, e, hi, _, _, rfl⟩ := (mem_rawTo L b n x).1 hx
      unfold endsH at hy
      cases hl : L[n]? with
      | none => rw [hl] at hy; cases hy
      | some p =>
        rw [hl] at hy
        obtain ⟨e', _, h2⟩ := List.mem_map.1 hy
        injection h2 with _ h3
        omega
theorem sort_all {L : List (List El)} (b : List UInt8) (h : ∀ i (hi : i < L.length), OkP L[i]) : sortH (rawTo L b L.length) = refTo L b b.length := by
  refine strict_ext (sortH_strict (rawTo_nodup L b _)) (refTo_strict L b _) fun x => ?_
  rw [sortH_mem, mem_rawTo, mem_refTo]
  constructor
  · rintro ⟨i, e, hi, he, hh, rfl⟩
    refine ⟨i, e, hi, ?_, he, hh, rfl⟩
    by_cases h0 : e = 0
    · subst h0
      rw [hitAt_at hi, reach_zero (h i hi)] at hh
      cases hh
    · omega
  · rintro ⟨i, e, hi, _, he, hh, rfl⟩
    exact ⟨i, e, hi, he, hh, rfl⟩
theorem okS_of_all {L : List (List El)} {b : List UInt8} (h0 : allE L b = 0) : OkS L ∧ b.length ≤ 4096 := by
  unfold allE at h0
  by_cases h1 : (checkS L).2 = 0
  · rw [if_neg (by rw [h1]; simp)] at h0
    by_cases h2 : 4096 < b.length
    · rw [if_pos h2] at h0; exact absurd h0 (by decide)
    · exact ⟨okS_of h1, by omega⟩
  · rw [if_pos h1] at h0; exact absurd h0 h1
theorem allV_eq (L : List (List El)) (b : List UInt8) : allV L b = allR L b := by
  unfold allV allR
  by_cases h0 : allE L b = 0
  · rw [if_pos h0, if_pos h0, sort_all b fun i hi => (okS_of_all h0).1.pat i hi]
  · rw [if_neg h0, if_neg h0]
end Go.Proofs.Ytafdaiidnphbaaa

/- Counts of both. -/
namespace Go.Proofs.Ytafdaiidnphbaaa
open Go.RowKit Go.Sort Go.Lib

def cntH (l : List Hit) (i : Nat) : Int := ((l.filter fun h => decide (h.2 = (i : Int))).length : Int)
def cntL (l : List Hit) (n : Nat) : List Int := (List.range n).map (cntH l)
theorem cntL_len (l : List Hit) (n : Nat) : (cntL l n).length = n := by simp [cntL]
theorem cntL_at (l : List Hit) {n i : Nat} (h : i < n) : (cntL l n)[i]'(by rw [cntL_len]; exact h) = cntH l i := by simp [cntL]
theorem cntH_bound (l : List Hit) (i : Nat) : 0 ≤ cntH l i ∧ cntH l i ≤ l.length := by
  unfold cntH
  have := List.length_filter_le (fun h : Hit => decide (h.2 = (i : Int))) l
  omega
theorem cntL_snoc (l : List Hit) (e : Int) {n r : Nat} (_ : r < n) : cntL (l ++ [(e, (r : Int))]) n = (cntL l n).set r (cntH l r + 1) := by
  apply List.ext_getElem
  · simp [cntL]
  · intro j h1 h2
    have hj : j < n := by rw [cntL_len] at h1; exact h1
    rw [cntL_at _ hj, List.getElem_set]
    by_cases e1 : r = j
    · subst e1
      rw [if_pos rfl]
      simp [cntH]
    · rw [if_neg e1, cntL_at _ hj]
      simp [cntH, List.filter_cons]
      rw [if_neg (by omega)]
      simp
theorem cntL_nil (n : Nat) : cntL [] n = List.replicate n 0 := by
  apply List.ext_getElem
  · simp [cntL]
  · intro j h1 h2
    simp [cntL, cntH]
def countsV (L : List (List El)) (b : List UInt8) : List Int := if allE L b = 0 then cntL (allV L b) L.length else []
theorem infoI : (Try.prog.info? 3).map (fun i => (i.zero, i.size, i.bytes)) = some (some (.int .i64 0), 1, 8) := by kernel_rfl
/-- numbers freshly made, and an error's number -/
def NumsP (w : World) (l : List Int) (x : Int) (e : Ending) (w' : World) : Prop := ∃ v, e = .returned (.tuple #[v, .int .i64 x]) ∧ w'.ownsRow w.heap.size 3 1 v l.length (l.map (Value.int .i64)) ∧ Below w.heap.size w w'
theorem rule_in {L : List (List El)} {b : List UInt8} (h0 : allE L b = 0) {k : Nat} (hk : k < (allV L b).length) : ∃ r : Nat, r < L.length ∧ (allV L b)[k].2 = (r : Int) := by
  have hm : (allV L b)[k] ∈ allV L b := List.getElem_mem hk
  have h2 : (allV L b)[k] ∈ refTo L b b.length := by
    have e : allV L b = refTo L b b.length := by rw [allV_eq]; unfold allR; rw [if_pos h0]
    exact (congrArg (fun z => (allV L b)[k] ∈ z) e).mp hm
  obtain ⟨i, e, hi, _, _, _, he⟩ := (mem_refTo _ _ _ _).1 h2
  exact ⟨i, hi, by rw [he]⟩
theorem all_len {L : List (List El)} {b : List UInt8} (h0 : allE L b = 0) : (allV L b).length ≤ 70000 := by
  rw [allV_eq]
  unfold allR
  rw [if_pos h0]
  have h1 := refTo_len L b b.length
  obtain ⟨hok, hb⟩ := okS_of_all h0
  have := hok.le
  have h2 : b.length * L.length ≤ 4096 * 16 := Nat.mul_le_mul hb hok.le
  omega
theorem ints_set {w : World} {base g n cap : Nat} {l : List Int} (h : w.ownsRow base 3 1 (.slice (some ⟨g, 0, none⟩) n cap) n (l.map (Value.int .i64))) {i : Nat} (hi : i < n) (x : Int) :
    (w.setCell ⟨g, i, none⟩ (.int .i64 x)).ownsRow base 3 1 (.slice (some ⟨g, 0, none⟩) n cap) n ((l.set i x).map (Value.int .i64)) := by
  have := owns_set h i (.int .i64 x) (by omega)
  rwa [← List.map_set] at this
theorem ints_cell {w : World} {base g n cap : Nat} {l : List Int} (h : w.ownsRow base 3 1 (.slice (some ⟨g, 0, none⟩) n cap) n (l.map (Value.int .i64))) {i : Nat} (hi : i < l.length) : w.cell? ⟨g, i, none⟩ = some (.int .i64 l[i]) := by
  have hl : l.length = n := by have := h.1; simpa using this
  have hr : Nums w (.slice (some ⟨g, 0, none⟩) n cap) l := by
    have := Row.of_owns h
    unfold Nums
    rw [hl]
    exact this
  obtain ⟨g', o', e, _, hc⟩ := Nums.at hr hi
  cases e
  rwa [Nat.zero_add] at hc
set_option maxRecDepth 100000 in
set_option maxHeartbeats 8000000 in
theorem counts_p (v u : Value) (L : List (List El)) (b : List UInt8) (w : World) (h : Sets w v L) (hb : Bytes w u b) :
    Calls Try.prog 32 #[v, u] w (NumsP w (countsV L b) (allE L b)) := by
  have KS := Lib.hid (all_p v u L b w h hb)
  obtain ⟨a, cap, rfl⟩ := h.form
  obtain ⟨ua, ucap, rfl⟩ := Row.form2 hb
  clear h hb
  by_cases h0 : allE L b = 0
  · have HV := Lib.hid (show countsV L b = cntL (allV L b) L.length by unfold countsV; rw [if_pos h0])
    have HE := Lib.hid h0
    have hok := (okS_of_all h0).1
    have hpos := hok.pos
    have hle := hok.le
    have hal := all_len h0
    have HRU := Lib.hid (fun k hk => @rule_in L b h0 k hk)
    obtain ⟨i0, hi, hz0, hz1, hz2⟩ := info_parts infoI
    rw [h0] at KS
    clear h0 hok
    generalize allV L b = l at *
    go_enter Try.func32, Try.ntmps32
    go_wp2_with fail
    refine KS.out.mono ?_
    rintro e w1 ⟨lv, rfl, ho, hb1⟩
    have HL := Lib.hid ho
    have HB1 := Lib.hid hb1
    clear ho hb1 KS
    obtain ⟨la, lcap, rfl⟩ := Row.form2 (Row.of_owns HL.out)
    go_wp2_with (at_make; refine wpList_make_full _ rfl _ _ 28 rfl w1.heap.size 3 i0 _ 1 Try.underlying28 hi hz0 hz1 _ _ _ _ L.length rfl rfl (by omega) (by omega) (by rw [hz2]; omega) (by unfold maxLen; omega) (Nat.le_refl _) ?_; intro w3 hown hgrow)
    replace hown : w3.ownsRow w1.heap.size 3 1 (.slice (some ⟨w1.heap.size, 0, none⟩) L.length L.length) L.length (madeCells #[Value.int .i64 0] (L.length * 1)).toList := hown
    rw [Nat.mul_one, toList_madeCells_one] at hown
    have hgr : Below w1.heap.size w1 w3 := (Below.refl _ _).grown hgrow (Nat.le_refl _) (fun q e => by cases e)
    have HO := Lib.hid (show w3.ownsRow w.heap.size 3 1 (.slice (some ⟨w1.heap.size, 0, none⟩) L.length L.length) L.length ((cntL (l.take 0) L.length).map (Value.int .i64)) by rw [List.take_zero, cntL_nil, List.map_replicate]; exact hown.mono HB1.out.size)
    have HB3 := Lib.hid (HB1.out.trans (hgr.mono HB1.out.size))
    have HL3 := Lib.hid (Row.below (Row.of_owns HL.out) hgr)
    have hbg : w.heap.size ≤ w1.heap.size := HB1.out.size
    have HGW := Lib.hid (show ∀ wr, Below w1.heap.size w3 wr → Hits wr (.slice la l.length lcap) l from fun wr h => Row.below (Row.of_owns HL.out) (hgr.trans h))
    clear hown hgrow hgr HL
    generalize w1.heap.size = G at *
    go_loopw [25] (fun kv wr => ∃ k : Nat, k ≤ l.length ∧ kv = .int .i64 (k : Nat) ∧ wr.ownsRow w.heap.size 3 1 (.slice (some ⟨G, 0, none⟩) L.length L.length) L.length ((cntL (l.take k) L.length).map (Value.int .i64)) ∧ Below w.heap.size w wr ∧ Below G w3 wr) (fun kv _ => l.length - (intOf kv).toNat)
    case atStart => exact ⟨0, by omega, rfl, HO.out, HB3.out, Below.refl _ _⟩
    case round =>
      obtain ⟨k, hk, rfl, hown, hB, hB2⟩ := hrel
      have HO2 := Lib.hid hown
      have HB4 := Lib.hid hB
      have HB5 := Lib.hid hB2
      have hhits := HGW.out wr hB2
      clear hB hB2
      by_cases hlt : k < l.length
      · obtain ⟨r, hr, hre⟩ := HRU.out k hlt
        obtain ⟨g, o, ha, hg, d0, d1⟩ := Hits.at hhits hlt
        subst ha
        rw [hre] at d1
        have hc := ints_cell hown (i := r) (by rw [cntL_len]; exact hr)
        rw [cntL_at _ hr] at hc
        have hfr := owns_free hown r
        have hset := ints_set hown hr (cntH (l.take k) r + 1)
        have HS := Lib.hid (show cntL (l.take (k + 1)) L.length = (cntL (l.take k) L.length).set r (cntH (l.take k) r + 1) by
          rw [List.take_succ_eq_append_getElem hlt, show l[k] = (l[k].1, (r : Int)) from Prod.ext rfl hre]
          exact cntL_snoc _ _ hr)
        have hbd := cntH_bound (l.take k) r
        have hbd2 : ((l.take k).length : Int) ≤ 70000 := by have := List.length_take_le k l; omega
        have wc : IntKind.i64.wrap (cntH (l.take k) r + 1) = cntH (l.take k) r + 1 := IntWalk.i64_in _ (by omega)
        have i1 : (0 : Int) ≤ (k : Int) := by omega
        have i2 : (k : Int) < (l.length : Int) := by omega
        have r1 : (0 : Int) ≤ (r : Int) := by omega
        have r2 : (r : Int) < (L.length : Int) := by omega
        have wi1 : IntKind.i64.wrap ((k : Int) + 1) = (k : Int) + 1 := IntWalk.i64_in _ (by omega)
        have hGl : G < wr.heap.size := (HO2.out.lt _ rfl).2
        have hne : G ≠ wr.heap.size := by omega
        have HSET := Lib.hid (hset.alloc (.cells #[.int .i64 l[k].1, .int .i64 (r : Int)] 38))
        have HB6 := Lib.hid ((HB4.out.setCell (p := ⟨G, r, none⟩) hbg (.int .i64 (cntH (l.take k) r + 1))).alloc (HB4.out.setCell (p := ⟨G, r, none⟩) hbg (.int .i64 (cntH (l.take k) r + 1))).size (.cells #[.int .i64 l[k].1, .int .i64 (r : Int)] 38))
        have HB7 := Lib.hid ((HB5.out.setCell (p := ⟨G, r, none⟩) (Nat.le_refl _) (.int .i64 (cntH (l.take k) r + 1))).alloc (by simp; omega) (.cells #[.int .i64 l[k].1, .int .i64 (r : Int)] 38))
        clear hown hhits hbd hbd2 hset hre
        generalize cntH (l.take k) r = c at *
        generalize l[k].1 = x1 at *
        go_wp2_with fail
        exact ⟨⟨k + 1, by omega, by go_num, by rw [HS.out]; exact HSET.out, HB6.out, HB7.out⟩, by simp [intOf]; omega⟩
      · obtain rfl : k = l.length := by omega
        have i2 : ¬ ((l.length : Int) < (l.length : Int)) := by omega
        clear hown hhits
        go_wp2_with fail
        go_ret2
        exact show NumsP _ _ _ _ _ from (by rw [HE.out, HV.out]; refine ⟨_, rfl, ?_, HB4.out⟩; have := HO2.out; rw [List.take_length] at this; rw [cntL_len]; exact this)
  · have HV := Lib.hid (show countsV L b = [] by unfold countsV; rw [if_neg h0])
    have t1 : (allE L b != 0) = true := bne_iff_ne.2 h0
    generalize allE L b = E at *
    clear h0
    go_enter Try.func32, Try.ntmps32
    go_wp2_with fail
    refine KS.out.mono ?_
    rintro e w1 ⟨lv, rfl, ho, hb1⟩
    have HB1 := Lib.hid hb1
    clear ho hb1 KS
    go_wp2_with fail
    go_ret2
    exact show NumsP _ _ _ _ _ from (by rw [HV.out]; exact ⟨_, rfl, World.ownsRow_nil _ _ _ _, HB1.out⟩)
set_option maxRecDepth 100000 in
set_option maxHeartbeats 8000000 in
theorem counts_r (v u : Value) (L : List (List El)) (b : List UInt8) (w : World) (h : Sets w v L) (hb : Bytes w u b) :
    Calls Try.prog 33 #[v, u] w (NumsP w (countsV L b) (allE L b)) := by
  have KS := Lib.hid (all_r v u L b w h hb)
  rw [← allV_eq] at KS
  obtain ⟨a, cap, rfl⟩ := h.form
  obtain ⟨ua, ucap, rfl⟩ := Row.form2 hb
  clear h hb
  by_cases h0 : allE L b = 0
  · have HV := Lib.hid (show countsV L b = cntL (allV L b) L.length by unfold countsV; rw [if_pos h0])
    have HE := Lib.hid h0
    have hok := (okS_of_all h0).1
    have hpos := hok.pos
    have hle := hok.le
    have hal := all_len h0
    have HRU := Lib.hid (fun k hk => @rule_in L b h0 k hk)
    obtain ⟨i0, hi, hz0, hz1, hz2⟩ := info_parts infoI
    rw [h0] at KS
    clear h0 hok
    generalize allV L b = l at *
    go_enter Try.func33, Try.ntmps33
    go_wp2_with fail
    refine KS.out.mono ?_
    rintro e w1 ⟨lv, rfl, ho, hb1⟩
    have HL := Lib.hid ho
    have HB1 := Lib.hid hb1
    clear ho hb1 KS
    obtain ⟨la, lcap, rfl⟩ := Row.form2 (Row.of_owns HL.out)
    go_wp2_with (at_make; refine wpList_make_full _ rfl _ _ 28 rfl w1.heap.size 3 i0 _ 1 Try.underlying28 hi hz0 hz1 _ _ _ _ L.length rfl rfl (by omega) (by omega) (by rw [hz2]; omega) (by unfold maxLen; omega) (Nat.le_refl _) ?_; intro w3 hown hgrow)
    replace hown : w3.ownsRow w1.heap.size 3 1 (.slice (some ⟨w1.heap.size, 0, none⟩) L.length L.length) L.length (madeCells #[Value.int .i64 0] (L.length * 1)).toList := hown
    rw [Nat.mul_one, toList_madeCells_one] at hown
    have hgr : Below w1.heap.size w1 w3 := (Below.refl _ _).grown hgrow (Nat.le_refl _) (fun q e => by cases e)
    have HO := Lib.hid (show w3.ownsRow w.heap.size 3 1 (.slice (some ⟨w1.heap.size, 0, none⟩) L.length L.length) L.length ((cntL (l.take 0) L.length).map (Value.int .i64)) by rw [List.take_zero, cntL_nil, List.map_replicate]; exact hown.mono HB1.out.size)
    have HB3 := Lib.hid (HB1.out.trans (hgr.mono HB1.out.size))
    have HL3 := Lib.hid (Row.below (Row.of_owns HL.out) hgr)
    have hbg : w.heap.size ≤ w1.heap.size := HB1.out.size
    have HGW := Lib.hid (show ∀ wr, Below w1.heap.size w3 wr → Hits wr (.slice la l.length lcap) l from fun wr h => Row.below (Row.of_owns HL.out) (hgr.trans h))
    clear hown hgrow hgr HL
    generalize w1.heap.size = G at *
    go_wp2_with fail
    go_loopw [9] (fun kv wr => ∃ k : Nat, k ≤ l.length ∧ kv = .int .i64 (k : Nat) ∧ wr.ownsRow w.heap.size 3 1 (.slice (some ⟨G, 0, none⟩) L.length L.length) L.length ((cntL (l.take k) L.length).map (Value.int .i64)) ∧ Below w.heap.size w wr ∧ Below G w3 wr) (fun kv _ => l.length - (intOf kv).toNat)
    case atStart => exact ⟨0, by omega, rfl, HO.out, HB3.out, Below.refl _ _⟩
    case round =>
      obtain ⟨k, hk, rfl, hown, hB, hB2⟩ := hrel
      have HO2 := Lib.hid hown
      have HB4 := Lib.hid hB
      have HB5 := Lib.hid hB2
      have hhits := HGW.out wr hB2
      clear hB hB2
      by_cases hlt : k < l.length
      · obtain ⟨r, hr, hre⟩ := HRU.out k hlt
        obtain ⟨g, o, ha, hg, d0, d1⟩ := Hits.at hhits hlt
        subst ha
        rw [hre] at d1
        have hc := ints_cell hown (i := r) (by rw [cntL_len]; exact hr)
        rw [cntL_at _ hr] at hc
        have hfr := owns_free hown r
        have hset := ints_set hown hr (cntH (l.take k) r + 1)
        have HS := Lib.hid (show cntL (l.take (k + 1)) L.length = (cntL (l.take k) L.length).set r (cntH (l.take k) r + 1) by
          rw [List.take_succ_eq_append_getElem hlt, show l[k] = (l[k].1, (r : Int)) from Prod.ext rfl hre]
          exact cntL_snoc _ _ hr)
        have hbd := cntH_bound (l.take k) r
        have hbd2 : ((l.take k).length : Int) ≤ 70000 := by have := List.length_take_le k l; omega
        have wc : IntKind.i64.wrap (cntH (l.take k) r + 1) = cntH (l.take k) r + 1 := IntWalk.i64_in _ (by omega)
        have i1 : (0 : Int) ≤ (k : Int) := by omega
        have i2 : (k : Int) < (l.length : Int) := by omega
        have r1 : (0 : Int) ≤ (r : Int) := by omega
        have r2 : (r : Int) < (L.length : Int) := by omega
        have wi1 : IntKind.i64.wrap ((k : Int) + 1) = (k : Int) + 1 := IntWalk.i64_in _ (by omega)
        have HSET := Lib.hid hset
        have HB6 := Lib.hid (HB4.out.setCell (p := ⟨G, r, none⟩) hbg (.int .i64 (cntH (l.take k) r + 1)))
        have HB7 := Lib.hid (HB5.out.setCell (p := ⟨G, r, none⟩) (Nat.le_refl _) (.int .i64 (cntH (l.take k) r + 1)))
        clear hown hhits hbd hbd2 hset hre
        generalize cntH (l.take k) r = c at *
        generalize l[k].1 = x1 at *
        go_wp2_with fail
        exact ⟨⟨k + 1, by omega, by go_num, by rw [HS.out]; exact HSET.out, HB6.out, HB7.out⟩, by simp [intOf]; omega⟩
      · obtain rfl : k = l.length := by omega
        have i2 : ¬ ((l.length : Int) < (l.length : Int)) := by omega
        clear hown hhits
        go_wp2_with fail
        go_ret2
        exact show NumsP _ _ _ _ _ from (by rw [HE.out, HV.out]; refine ⟨_, rfl, ?_, HB4.out⟩; have := HO2.out; rw [List.take_length] at this; rw [cntL_len]; exact this)
  · have HV := Lib.hid (show countsV L b = [] by unfold countsV; rw [if_neg h0])
    have t1 : (allE L b != 0) = true := bne_iff_ne.2 h0
    generalize allE L b = E at *
    clear h0
    go_enter Try.func33, Try.ntmps33
    go_wp2_with fail
    refine KS.out.mono ?_
    rintro e w1 ⟨lv, rfl, ho, hb1⟩
    have HB1 := Lib.hid hb1
    clear ho hb1 KS
    go_wp2_with fail
    go_ret2
    exact show NumsP _ _ _ _ _ from (by rw [HV.out]; exact ⟨_, rfl, World.ownsRow_nil _ _ _ _, HB1.out⟩)
end Go.Proofs.Ytafdaiidnphbaaa
