/- BlocksPublic: for every two strings and four numbers the law returns true and its arguments read as they did. No conditions. -/
import Derived.Test.YtfmngphmmhjicaaArgs
import Derived.Test.YtfmngphmmhjicaaBlkAwake
import Derived.Test.YtfmngphmmhjicaaBlkSplitR
import Derived.Test.YtfmngphmmhjicaaBlkEnd
import Derived.BigQuiet
namespace Go.Proofs.Ytfmngphmmhjicaa.blocksPublic
open Go.ChangeShapes Go.WideShapes Go.ChangeAt Go.RowKit

theorem ends_many {cs : List UInt8} {b : Nat} (h1 : lenE cs.length b = 0) : manyV cs.length b = (((cs.length + b - 1) / b : Nat) : Int) := by
  obtain ⟨hok, _, _⟩ := lenE_zero h1
  have hb : 1 ≤ b := by rcases okB_cases hok with h | h | h | h | h <;> omega
  rw [manyV_ok h1, Int.natCast_ediv]
  congr 1
  omega
theorem item_len (cs : List UInt8) (b k : Nat) : (item cs b k).1.length = b := by simp [item, length_padTo]
theorem infoByte : (Try.prog.info? 5).map (fun i => (i.zero, i.size, i.bytes)) = some (some (.int .u8 0), 1, 1) := by kernel_rfl
theorem bcells_snoc (l : List UInt8) (b : UInt8) : bcells (l ++ [b]) = bcells l ++ [.int .u8 (b.toNat : Int)] := by simp [bcells]

theorem below_drewN {B : Nat} {a w : World} (h : Below B a w) (n : Nat) : Below B a (w.drewN n) := h.trans ⟨rfl, rfl, rfl, Nat.le_refl _, fun _ _ => rfl⟩

theorem run_row_str {w : World} {base n : Nat} {v : Value} {ds : List UInt8} (h : w.ownsRow base 5 1 v n (bcells ds)) :
    (convert 43 9 v).run Try.prog w = .ok (.string (str ds)) w := by
  obtain ⟨hl, h2⟩ := h
  rw [length_bcells] at hl
  rcases h2 with ⟨rfl, rfl⟩ | ⟨g, cap, cur, rfl, _, hg, hn, hc, hs, hx⟩
  · obtain rfl : ds = [] := List.eq_nil_of_length_eq_zero (by omega)
    rfl
  · exact run_bytes_str w _ _ 5 Try.underlying43 Try.underlying5 Try.underlying9 g cap ds cur _ _ hg (by rw [hl]; exact hx) n (by omega)

theorem item_tail (cs : List UInt8) (b k : Nat) : (item cs b k).1.drop (item cs b k).2 = List.replicate (b - (item cs b k).2) 0 := by
  simp only [item, padTo]
  rw [List.drop_append_of_le_length (by simp), List.drop_of_length_le (by simp), List.nil_append]
  simp
  omega
theorem item_zero {cs : List UInt8} {b k i : Nat} (h : (item cs b k).2 ≤ i) (hi : i < b) {g : i < (str (item cs b k).1).size} : (str (item cs b k).1)[i] = 0 := by
  rw [getD_str (by rw [item_len]; exact hi), List.getD_eq_getElem?_getD]
  have e : (item cs b k).1[i]? = ((item cs b k).1.drop (item cs b k).2)[i - (item cs b k).2]? := by
    rw [List.getElem?_drop]; congr 1; omega
  rw [e, item_tail, List.getElem?_replicate, if_pos (by omega)]
  rfl
theorem parts_at {cs : List UInt8} {b k : Nat} {before : Int} (hs : splitE cs.length b before = 0) (hb : 1 ≤ b) (hk : k < (parts cs b before).length) :
    (parts cs b before)[k] = ((item cs b k).1, ((item cs b k).2 : Int), before + (k * b : Nat)) := by
  have e : parts cs b before = upTo cs b before ((cs.length + b - 1) / b) := by simp only [parts, hs, if_true, Int.toNat_natCast]; exact parts_upTo hb
  simp only [e, upTo, List.getElem_map, List.getElem_range]
theorem parts_len {cs : List UInt8} {b : Nat} {before : Int} (hs : splitE cs.length b before = 0) (hb : 1 ≤ b) : (parts cs b before).length = (cs.length + b - 1) / b := by
  have e : parts cs b before = upTo cs b before ((cs.length + b - 1) / b) := by simp only [parts, hs, if_true, Int.toNat_natCast]; exact parts_upTo hb
  simp [e, upTo]
/-- what the law asks of two chunks of one length -/
theorem parts_two {cs ds : List UInt8} {b n : Int} (hd : ds.length = cs.length) :
    (parts ds b n).length = (parts cs b n).length ∧ (parts cs b n).length ≤ 1000 ∧
    ∀ k (hk : k < (parts cs b n).length) (hk' : k < (parts ds b n).length), ∃ b' real : Nat, ∃ x y : List UInt8, b = b' ∧ 1 ≤ b' ∧ b' ≤ 16 ∧ real ≤ b' ∧ x.length = b' ∧ y.length = b' ∧
      (parts cs b n)[k] = (x, (real : Int), n + (k * b' : Nat)) ∧ (parts ds b n)[k] = (y, (real : Int), n + (k * b' : Nat)) ∧ x.drop real = y.drop real ∧
      lenE cs.length b = 0 ∧ (k : Int) < manyV cs.length b ∧
      (∀ i, real ≤ i → i < b' → ∀ g : i < (str x).size, (str x)[i] = 0) ∧ (∀ i : Nat, i < b' → (decide ((k : Int) * b' + i < cs.length) = decide (i < real))) ∧ n + (k * b' : Nat) ≤ 2000000 := by
  by_cases hs : splitE cs.length b n = 0
  · obtain ⟨h1, h2, h3⟩ := splitE_zero hs
    obtain ⟨hok, h5, h6⟩ := lenE_zero h1
    obtain ⟨b', rfl, hb1, hb2⟩ : ∃ b' : Nat, b = b' ∧ 1 ≤ b' ∧ b' ≤ 16 := by rcases okB_cases hok with h | h | h | h | h <;> exact ⟨b.toNat, by omega, by omega, by omega⟩
    have hs' : splitE ds.length b' n = 0 := by rw [hd]; exact hs
    have l1 := parts_len hs hb1
    have l2 := parts_len hs' hb1
    have hle : (cs.length + b' - 1) / b' ≤ cs.length := by
      rw [Nat.div_le_iff_le_mul (by omega)]
      have := Nat.mul_le_mul_left cs.length hb1
      omega
    refine ⟨by rw [l1, l2, hd], by omega, fun k hk hk' => ?_⟩
    rw [l1] at hk
    have hkb : k * b' < cs.length := by
      have := (Nat.le_div_iff_mul_le (show 0 < b' by omega)).1 (show k + 1 ≤ _ from hk)
      rw [Nat.succ_mul] at this
      omega
    have hr : (item ds b' k).2 = (item cs b' k).2 := by simp [item, hd]
    have hr2 : (item cs b' k).2 = min b' (cs.length - k * b') := rfl
    refine ⟨b', (item cs b' k).2, (item cs b' k).1, (item ds b' k).1, rfl, hb1, hb2, by rw [hr2]; omega, item_len _ _ _, item_len _ _ _, parts_at hs hb1 _, ?_, ?_, h1, ?_, fun i hi hib g => item_zero hi hib, fun i hi => ?_, by omega⟩
    · rw [← hr]; exact parts_at hs' hb1 _
    · have := item_tail ds b' k
      rw [hr] at this
      rw [item_tail, this]
    · rw [ends_many h1]; omega
    · rw [hr2, Bool.eq_iff_iff]; simp; norm_cast; omega
  · have e1 : parts cs b n = [] := by simp [parts, hs]
    have e2 : parts ds b n = [] := by simp [parts, hd, hs]
    rw [e1, e2]
    exact ⟨rfl, by simp, fun k hk => by simp at hk⟩

set_option maxRecDepth 100000 in
set_option maxHeartbeats 2000000 in
theorem pub_ok (cs bs : List UInt8) (n b p i : Int) (w : World) (hl : ¬ 1100 < cs.length) (hl2 : ¬ 1100 < bs.length) :
    Calls Try.prog 7 #[.string (str cs), .string (str bs), .agg #[.int .i64 n, .int .i64 b, .int .i64 p, .int .i64 i]] w fun e w' => e = .returned (.bool true) ∧ Below w.heap.size w w' := by
  have hss := size_str cs
  have hss2 := size_str bs
  have t1 : ¬ (1100 : Int) < (cs.length : Int) := by omega
  have t2 : ¬ (1100 : Int) < (bs.length : Int) := by omega
  obtain ⟨i0, hi0, hz0, hz1, hz2⟩ := info_parts infoByte
  go_enter Try.func7, Try.ntmps7
  go_wp2_with fail
  go_quiet (fail)
  go_wp2_with fail
  go_loopw [9, 10] (fun ov iv wr => ∃ j : Nat, ∃ ds : List UInt8, j ≤ cs.length ∧ ds.length = j ∧ iv = .int .i64 (j : Nat) ∧ wr.ownsRow w.heap.size 5 1 ov j (bcells ds) ∧ Below w.heap.size w wr) (fun _ iv _ => cs.length - (intOf iv).toNat)
  case atStart => exact ⟨0, [], by omega, rfl, rfl, World.ownsRow_nil _ _ _ _, (below_drewN ((Below.refl _ _).alloc (Nat.le_refl _) _) _)⟩
  case round =>
    obtain ⟨j, ds, hj, hd, rfl, hown, hB⟩ := hrel
    have hbz := hB.size
    by_cases hlt : j < cs.length
    · by_cases h0 : 0 < bs.length
      · have hmod : (j : Int).tmod (bs.length : Int) = ((j % bs.length : Nat) : Int) := by
          rw [Int.tmod_eq_emod_of_nonneg (by omega)]; norm_cast
        have hm1 : j % bs.length < bs.length := Nat.mod_lt _ h0
        generalize j % bs.length = q at *
        have hwr : IntKind.i64.wrap (q : Int) = (q : Int) := IntWalk.i64_in _ (by omega)
        go_wp2_with (at_builtin; refine wpList_append_own _ rfl _ _ 43 rfl w.heap.size 5 i0 _ 1 1 Try.underlying43 hi0 hz0 hz1 hz2 rfl (by decide) _ _ _ rfl (hown.alloc _) ⟨wr.heap.size, 0, none⟩ 1 1 [.int .u8 (((str bs)[q]'(by omega)).toNat)] rfl rfl (cells_new _ _ _) (by simp [Value.oneCell']) (by unfold maxLen; omega) (by omega) (by simp; omega) ?_; intro v' w1 hown' hgrow _)
        refine ⟨⟨j + 1, ds ++ [(str bs)[q]'(by omega)], by omega, by simp [hd], by go_num, by rw [bcells_snoc]; exact hown', ?_⟩, by simp [intOf]; omega⟩
        exact hB.trans (((Below.refl _ wr).alloc (by omega) _).grown hgrow (by simp; omega) fun q e => (hown.lt q e).1)
      · have h0' : ¬ (0 : Int) < (bs.length : Int) := by omega
        clear h0
        go_wp2_with (at_builtin; refine wpList_append_own _ rfl _ _ 43 rfl w.heap.size 5 i0 _ 1 1 Try.underlying43 hi0 hz0 hz1 hz2 rfl (by decide) _ _ _ rfl (hown.alloc _) ⟨wr.heap.size, 0, none⟩ 1 1 [.int .u8 (255)] rfl rfl (cells_new _ _ _) (by simp [Value.oneCell']) (by unfold maxLen; omega) (by omega) (by simp; omega) ?_; intro v' w1 hown' hgrow _)
        refine ⟨⟨j + 1, ds ++ [255], by omega, by simp [hd], by go_num, by rw [bcells_snoc]; exact hown', ?_⟩, by simp [intOf]; omega⟩
        exact hB.trans (((Below.refl _ wr).alloc (by omega) _).grown hgrow (by simp; omega) fun q e => (hown.lt q e).1)
    · obtain rfl : cs.length = j := by omega
      obtain ⟨hM', hM1, hMk⟩ := parts_two (b := b) (n := n) hd
      have HMK := Lib.hid hMk
      have HOW := Lib.hid hown
      have HWB := Lib.hid hB
      have HD := Lib.hid hd
      have m1 : cs.length ≤ maxLen := by unfold maxLen; omega
      have m2 : ds.length ≤ maxLen := by unfold maxLen; omega
      have HM1 := Lib.hid m1
      have HM2 := Lib.hid m2
      clear hMk hown m1 m2 hd hB hi0 hz0 hz1 hz2 hj hlt
      go_wp2_with fail
      refine (split_p cs b n _ HM1.out).mono ?_
      rintro e w1 ⟨v1, rfl, hown1, hb1⟩
      have hcv := run_row_str (ownsRow_below HOW.out hb1)
      have R1 : Parts w1 v1 (parts cs b n) := Row.of_owns hown1
      have HR1 := Lib.hid R1
      have HB1 := Lib.hid hb1
      clear R1 hown1 hb1
      go_wp2_with fail
      refine (split_p ds b n _ HM2.out).mono ?_
      rintro e w2 ⟨v2, rfl, hown2, hb2⟩
      rw [HD.out]
      have HR2 := Lib.hid (show Parts w2 v2 (parts ds b n) from Row.of_owns hown2)
      have HR1' := Lib.hid (HR1.out.below hb2)
      have HB2 := Lib.hid (next HWB.out (next HB1.out hb2))
      clear hown2 hb2 HB1 HR1 HOW HWB hcv
      obtain ⟨_, _, a1, c1, rfl, _, hc1⟩ := HR1'.out
      obtain ⟨_, _, a2, c2, rfl, _, hc2⟩ := HR2.out
      rw [hM'] at hc2 ⊢
      generalize splitE cs.length b n = er
      have HC1 := Lib.hid hc1
      have HC2 := Lib.hid hc2
      obtain ⟨M, hM⟩ : ∃ M, M = (parts cs b n).length := ⟨_, rfl⟩
      rw [← hM] at hM1 ⊢
      have HM := Lib.hid hM
      clear hM hc1 hc2 hM' HR1' HR2
      go_wp2_with fail
      go_loopw [16] (fun kv wr => ∃ k : Nat, k ≤ M ∧ kv = .int .i64 (k : Nat) ∧ Below w2.heap.size w2 wr) (fun kv _ => M - (intOf kv).toNat)
      case atStart => exact ⟨0, by omega, rfl, Below.refl _ _⟩
      case round =>
        obtain ⟨k, hk, rfl, hB⟩ := hrel
        by_cases hlt : k < M
        · have hk1 : k < (parts cs b n).length := by have := HM.out; omega
          obtain ⟨b', real, x, y, rfl, q1, q2, q3, q4, q5, q6, q7, q8, q9, q10, q11, q12, q13⟩ := HMK.out k hk1 (by have := (parts_two (b := b) (n := n) HD.out).1; omega)
          obtain ⟨g1, o1, rfl, hc1⟩ := HC1.out.resolve_left (by have := HM.out; omega)
          obtain ⟨g2, o2, rfl, hc2⟩ := HC2.out.resolve_left (by have := HM.out; omega)
          obtain ⟨p1, p2, p3⟩ := pcells_at (parts cs b' n) k hk1
          obtain ⟨p4, p5, p6⟩ := pcells_at (parts ds b' n) k (by have := (parts_two (b := b') (n := n) HD.out).1; omega)
          rw [q6] at p1 p2 p3
          rw [q7] at p4 p5 p6
          have rd : ∀ {g o j : Nat} {v : Value}, w2.cell? ⟨g, o + j, none⟩ = some v → wr.cell? ⟨g, o + j, none⟩ = some v := fun h => (hB.cell (World.block_lt_of_cell? w2 _ h)).trans h
          have d1 := rd ((hc1 (k * 3) (by have := HM.out; omega)).trans p1)
          have d2 := rd ((hc1 (k * 3 + 1) (by have := HM.out; omega)).trans p2)
          have d3 := rd ((hc1 (k * 3 + 2) (by have := HM.out; omega)).trans p3)
          have d4 := rd ((hc2 (k * 3) (by have := HM.out; omega)).trans p4)
          have d5 := rd ((hc2 (k * 3 + 1) (by have := HM.out; omega)).trans p5)
          have d6 := rd ((hc2 (k * 3 + 2) (by have := HM.out; omega)).trans p6)
          simp only [← Nat.add_assoc] at d2 d3 d5 d6
          have lg1 := World.block_lt_of_cell? wr _ d1
          have lg2 := World.block_lt_of_cell? wr _ d4
          have i0 : (0 : Int) ≤ (k : Int) := by omega
          have i1 : (k : Int) < (M : Int) := by omega
          obtain ⟨bef, hbef⟩ : ∃ z, z = n + ((k * b' : Nat) : Int) := ⟨_, rfl⟩
          rw [← hbef] at d3 d6
          clear p1 p2 p3 p4 p5 p6 rd q6 q7 hc1 hc2 hbef
          go_wp2_with fail
          have hsx : (str x).size = b' := by rw [size_str, q4]
          have hsy : (str y).size = b' := by rw [size_str, q5]
          have hx1 : (str x).extract real b' = str (x.drop real) := str_drop _ _ _ (by omega)
          have hx2 : (str y).extract real b' = str (x.drop real) := by rw [q8]; exact str_drop _ _ _ (by omega)
          obtain ⟨Z, hZ⟩ : ∃ Z, Z = str (x.drop real) := ⟨_, rfl⟩
          rw [← hZ] at hx1 hx2
          have r0 : (0 : Int) ≤ (real : Int) := by omega
          have r1 : (real : Int) ≤ (b' : Int) := by omega
          have r2 : decide ((b' : Int) < (real : Int)) = false := by simp; omega
          have r3 : decide (b' < real) = false := by simp; omega
          have Q11 := Lib.hid q11
          have Q12 := Lib.hid q12
          have cR := fun (i : Nat) (hi : i < b') w => by
            have h := real_p cs.length b' k i w
            obtain ⟨e1, e2⟩ := (real_zero (n := cs.length) (b := b') (p := k) (i := i) q9).2 (by omega) (by omega) (by omega) (by omega)
            rw [e1, e2, q12 i hi] at h
            exact h
          have CR := Lib.hid cR
          clear q8 q9 q10 q11 q12 q13 q4 q5 hZ cR
          obtain ⟨wv, rfl⟩ : ∃ wv : World, wv = wr := ⟨_, rfl⟩
          go_region
          · go_wp2_with fail
            go_quiet (fail)
            go_wp2_with fail
            go_loopw [19] (fun iv wi => ∃ i : Nat, i ≤ b' ∧ iv = .int .i64 (i : Nat) ∧ wi.cell? ⟨wv.heap.size, 0, none⟩ = some (.string (str x)) ∧ wi.cell? ⟨wv.heap.size, 1, none⟩ = some (.int .i64 (real : Nat)) ∧ Below wv.heap.size wv wi) (fun iv _ => b' - (intOf iv).toNat)
            case atStart => exact ⟨0, by omega, rfl, by simp, by simp, below_drewN ((((Below.refl _ _).alloc (Nat.le_refl _) _).alloc (by simp) _).drew) _⟩
            case round =>
              obtain ⟨i, hi, rfl, e1, e2, hB2⟩ := hrel
              obtain ⟨wi, rfl⟩ : ∃ wi : World, wi = wr := ⟨_, rfl⟩
              by_cases hib : i < b'
              · have cr := CR.out i hib
                by_cases hr : i < real
                · rw [decide_eq_true hr] at cr
                  go_wp2_with fail
                  refine (cr _).mono ?_
                  rintro e w3 ⟨rfl, rfl⟩
                  go_wp2_with fail
                  refine ⟨⟨i + 1, by omega, by go_num, e1, e2, hB2⟩, by simp [intOf]; omega⟩
                · rw [decide_eq_false hr] at cr
                  have z0 := Q11.out i (by omega) hib (by omega)
                  go_wp2_with fail
                  refine (cr _).mono ?_
                  rintro e w3 ⟨rfl, rfl⟩
                  go_wp2_with fail
                  refine ⟨⟨i + 1, by omega, by go_num, e1, e2, hB2⟩, by simp [intOf]; omega⟩
              · obtain rfl : b' = i := by omega
                go_wp2_with fail
                refine ⟨⟨k + 1, by omega, by go_num, next hB hB2⟩, by simp [intOf]; omega⟩
          · go_wp2_with fail
            go_quiet (fail)
            go_wp2_with fail
            go_loopw [19] (fun iv wi => ∃ i : Nat, i ≤ b' ∧ iv = .int .i64 (i : Nat) ∧ wi.cell? ⟨wv.heap.size + 1, 0, none⟩ = some (.string (str x)) ∧ wi.cell? ⟨wv.heap.size + 1, 1, none⟩ = some (.int .i64 (real : Nat)) ∧ Below wv.heap.size wv wi) (fun iv _ => b' - (intOf iv).toNat)
            case atStart => exact ⟨0, by omega, rfl, by simp, by simp, below_drewN ((((Below.refl _ _).alloc (Nat.le_refl _) _).alloc (by simp) _).drew) _⟩
            case round =>
              obtain ⟨i, hi, rfl, e1, e2, hB2⟩ := hrel
              obtain ⟨wi, rfl⟩ : ∃ wi : World, wi = wr := ⟨_, rfl⟩
              by_cases hib : i < b'
              · have cr := CR.out i hib
                by_cases hr : i < real
                · rw [decide_eq_true hr] at cr
                  go_wp2_with fail
                  refine (cr _).mono ?_
                  rintro e w3 ⟨rfl, rfl⟩
                  go_wp2_with fail
                  refine ⟨⟨i + 1, by omega, by go_num, e1, e2, hB2⟩, by simp [intOf]; omega⟩
                · rw [decide_eq_false hr] at cr
                  have z0 := Q11.out i (by omega) hib (by omega)
                  go_wp2_with fail
                  refine (cr _).mono ?_
                  rintro e w3 ⟨rfl, rfl⟩
                  go_wp2_with fail
                  refine ⟨⟨i + 1, by omega, by go_num, e1, e2, hB2⟩, by simp [intOf]; omega⟩
              · obtain rfl : b' = i := by omega
                go_wp2_with fail
                refine ⟨⟨k + 1, by omega, by go_num, next hB hB2⟩, by simp [intOf]; omega⟩
        · obtain rfl : M = k := by omega
          go_wp2_with fail
          refine (awake_p _).mono ?_
          rintro e w3 ⟨rfl, hb3⟩
          have HB3 := Lib.hid hb3
          clear hb3
          go_wp2_with fail
          go_ret
          exact ⟨rfl, next (next HB2.out hB) HB3.out⟩

set_option maxRecDepth 100000 in
set_option maxHeartbeats 2000000 in
theorem walk4 (cs bs : List UInt8) (n b p i : Int) (w : World) (hm : cs.length ≤ maxLen) (hm2 : bs.length ≤ maxLen) :
    Calls Try.prog 7 #[.string (str cs), .string (str bs), .agg #[.int .i64 n, .int .i64 b, .int .i64 p, .int .i64 i]] w fun e w' => e = .returned (.bool true) ∧ Below w.heap.size w w' := by
  unfold maxLen at hm hm2
  have hss := size_str cs
  have hss2 := size_str bs
  by_cases h1 : 1100 < cs.length
  · have t1 : (1100 : Int) < (cs.length : Int) := by omega
    go_enter Try.func7, Try.ntmps7
    go_wp2_with fail
    go_quiet (fail)
    go_wp2_with fail
    refine (awake_p _).mono ?_
    rintro e w1 ⟨rfl, hb⟩
    have HB := Lib.hid hb
    clear hb
    go_wp2_with fail
    go_ret
    exact ⟨rfl, next (below_drewN ((Below.refl _ _).alloc (Nat.le_refl _) _) _) HB.out⟩
  · by_cases h2 : 1100 < bs.length
    · have t1 : ¬ (1100 : Int) < (cs.length : Int) := by omega
      have t2 : (1100 : Int) < (bs.length : Int) := by omega
      go_enter Try.func7, Try.ntmps7
      go_wp2_with fail
      go_quiet (fail)
      go_wp2_with fail
      refine (awake_p _).mono ?_
      rintro e w1 ⟨rfl, hb⟩
      have HB := Lib.hid hb
      clear hb
      go_wp2_with fail
      go_ret
      exact ⟨rfl, next (below_drewN ((Below.refl _ _).alloc (Nat.le_refl _) _) _) HB.out⟩
    · exact pub_ok cs bs n b p i w h1 h2

theorem walk (s s2 : ByteArray) (cs : Array Value) (w : World) (hm : s.size ≤ maxLen) (hm2 : s2.size ≤ maxLen) (hz : cs.size = [3, 3, 3, 3].length)
    (hc : ∀ (i : Nat) (u : TypeId) (x : Value), [3, 3, 3, 3][i]? = some u → cs[i]? = some x → Cell.okWide Try.prog w .any w.heap.size u x) :
    Calls Try.prog 7 #[.string s, .string s2, .agg cs] w fun e w' => e = .returned (.bool true) ∧ Below w.heap.size w w' := by
  obtain ⟨l, rfl⟩ : ∃ l, s = str l := ⟨s.data.toList, (str_data s).symm⟩
  obtain ⟨l2, rfl⟩ : ∃ l, s2 = str l := ⟨s2.data.toList, (str_data s2).symm⟩
  rw [size_str] at hm hm2
  obtain ⟨x0, x1, x2, x3, rfl⟩ := cells4 hz
  obtain ⟨n, rfl, _⟩ := cell_int Try.underlying3 (hc 0 _ _ rfl rfl)
  obtain ⟨b, rfl, _⟩ := cell_int Try.underlying3 (hc 1 _ _ rfl rfl)
  obtain ⟨p, rfl, hp⟩ := cell_int Try.underlying3 (hc 2 _ _ rfl rfl)
  obtain ⟨i, rfl, _⟩ := cell_int Try.underlying3 (hc 3 _ _ rfl rfl)
  exact walk4 l l2 n b p i w hm hm2

theorem own : ownKnob Try.prog.godebug = none := by kernel_rfl
theorem laidOut : laidOutB Try.prog = true := by kernel_rfl

set_option maxRecDepth 100000 in
theorem lifted (os : Os) (started : os.Started) (H : Type) (enc : TypeId × Value → H) :
    ReturnsInHanded {} Try.checked os 7 .any (Rows.blocksPublicSpec.pre6 enc Try.prog Try.f7 Rows.blocksPublicRow.domain false) (Rows.blocksPublicSpec.post enc Try.prog Try.f7 false true false false) := by
  refine returnsInHanded_of_change (C := Try.checked) own started (by kernel_rfl) Try.func7
    (ChangeSpec.witness6 (enc := enc) (C := Try.checked) false ⟨#[], #[.string .empty, .string .empty, .agg #[.int .i64 0, .int .i64 0, .int .i64 0, .int .i64 0]], []⟩ 8 (by kernel_rfl) (by kernel_rfl) (by kernel_rfl) (by kernel_rfl)) ?_
  intro W base args ds gs before hval0 hW hcnd _
  have hval : ∀ (j : Nat) t v, Try.f7.params[j]? = some t → args[j]? = some v → Value.okWide Try.prog W .any base t v := hval0
  have hW' := hW
  obtain ⟨p, q, hA0, hV, rfl, hfz, hnd⟩ := hW
  have hA : DataW.TrodAll enc Try.prog W 0 (fun _ => true) true Try.f7.params.toList args.toList ds p := hA0
  rw [Try.params7] at hA hval
  obtain ⟨v0, vs0, d0, ds0, p0, q0, hargs, rfl, rfl, k0, r0⟩ := trodAll_cons hA
  obtain ⟨v1, vs1, d1, ds1, p1, q1, rfl, rfl, rfl, k1, r1⟩ := trodAll_cons r0
  obtain ⟨v2, vs2, d2, ds2, p2, q2, rfl, rfl, rfl, k2, r2⟩ := trodAll_cons r1
  obtain ⟨rfl, rfl, rfl⟩ := trodAll_nil r2
  obtain rfl : args = #[v0, v1, v2] := by cases args; simp_all
  obtain ⟨rfl, rfl⟩ := trodVars_none hV
  have lt0 : ∀ x ∈ p0, x.block < W.heap.size := by obtain ⟨m, hm⟩ := k0; exact DataW.trod_lt m _ _ _ hm
  have lt1 : ∀ x ∈ p1, x.block < W.heap.size := by obtain ⟨m, hm⟩ := k1; exact DataW.trod_lt m _ _ _ hm
  have lt2 : ∀ x ∈ p2, x.block < W.heap.size := by obtain ⟨m, hm⟩ := k2; exact DataW.trod_lt m _ _ _ hm
  obtain ⟨s0, rfl, m0⟩ := arg_string Try.underlying9 (hval 0 9 v0 rfl rfl)
  obtain ⟨s1, rfl, m1⟩ := arg_string Try.underlying9 (hval 1 9 v1 rfl rfl)
  obtain ⟨c2, rfl, z2, g2⟩ := arg_agg (ts := [3, 3, 3, 3]) (by kernel_rfl) (by kernel_rfl) (by kernel_rfl) (hval 2 30 v2 rfl rfl)
  clear hA0 hval0
  refine (walk s0 s1 c2 W m0 m1 z2 g2).mono fun e W' ⟨he, bel⟩ => ?_
  subst he
  exact ⟨_, rfl, _, _, _, [], _, [], hW', trodAll_mk1 (shut_bool Try.underlying4 _), (trodAll_cons_mk (Below.trod laidOut (by kernel_rfl) (of_decide_eq_true (by kernel_rfl)) k0 bel lt0) (trodAll_cons_mk (Below.trod laidOut (by kernel_rfl) (of_decide_eq_true (by kernel_rfl)) k1 bel lt1) (trodAll_cons_mk (Below.trod laidOut (by kernel_rfl) (of_decide_eq_true (by kernel_rfl)) k2 bel lt2) trodAll_mk0))), rfl, bel.frame _, fun h => by cases h⟩

theorem over : Rows.blocksPublicRow.holds Try.pinned (OpenSpec.ofChange Rows.blocksPublicSpec) :=
  OpenClaim.holds_of_wide 7 Try.f7 rfl rfl rfl rfl rfl rfl rfl ⟨rfl, rfl, rfl, rfl, rfl⟩ rfl rfl rfl rfl rfl (by kernel_rfl) Try.func7 (by kernel_rfl)
    (of_decide_eq_true (by kernel_rfl)) (by unfold Func.isWrapper; first | (rw [if_pos (by decide +kernel)]; kernel_rfl) | (rw [if_neg (by decide +kernel)]; exact ⟨rfl, rfl⟩))
    (fun os started H enc _ => lifted os started H enc)

theorem proved : Rows.BlocksPublicSaid := over
#print axioms proved

end Go.Proofs.Ytfmngphmmhjicaa.blocksPublic
