/- Texts that the claims share, part 8. -/
import Derived.Test.YtpjllppbpnkemaaMg7

/- The reference's order of choices, plainly. -/
namespace Go.Proofs.Ytpjllppbpnkemaa
open Go.RowKit Go.Sort

/-- before, as the reference says it -/
def befV (a b : List Int) : Bool := decide (a.sum < b.sum) || (decide (a.sum = b.sum) && lexLt a b)
theorem lexLt_asymm : ∀ {a b : List Int}, lexLt a b = true → lexLt b a = false
  | [], _, h => by simp [lexLt] at h
  | _ :: _, [], h => by simp [lexLt] at h
  | x :: a, y :: b, h => by
    simp only [lexLt, Bool.or_eq_true, Bool.and_eq_true, decide_eq_true_eq] at h
    simp only [lexLt, Bool.or_eq_false_iff, Bool.and_eq_false_iff, decide_eq_false_iff_not]
    rcases h with h | ⟨h1, h2⟩
    · exact ⟨by omega, .inl (by omega)⟩
    · exact ⟨by omega, .inr (lexLt_asymm h2)⟩
theorem lexLt_trans : ∀ {a b c : List Int}, lexLt a b = true → lexLt b c = true → lexLt a c = true
  | [], _, _, h, _ => by simp [lexLt] at h
  | _ :: _, [], _, h, _ => by simp [lexLt] at h
  | _ :: _, _ :: _, [], _, h => by simp [lexLt] at h
  | x :: a, y :: b, z :: c, h, h' => by
    simp only [lexLt, Bool.or_eq_true, Bool.and_eq_true, decide_eq_true_eq] at h h' ⊢
    rcases h with h | ⟨h1, h2⟩
    · rcases h' with h' | ⟨h3, h4⟩
      · exact .inl (by omega)
      · exact .inl (by omega)
    · rcases h' with h' | ⟨h3, h4⟩
      · exact .inl (by omega)
      · exact .inr ⟨by omega, lexLt_trans h2 h4⟩
theorem befV_trans {a b c : List Int} (h : befV a b = true) (h' : befV b c = true) : befV a c = true := by
  unfold befV at *
  simp only [Bool.or_eq_true, Bool.and_eq_true, decide_eq_true_eq] at *
  rcases h with h | ⟨h1, h2⟩
  · rcases h' with h' | ⟨h3, h4⟩
    · exact .inl (by omega)
    · exact .inl (by omega)
  · rcases h' with h' | ⟨h3, h4⟩
    · exact .inl (by omega)
    · exact .inr ⟨by omega, lexLt_trans h2 h4⟩
theorem lexLt_at : ∀ {a b : List Int} {k : Nat} (ha : k < a.length) (hb : k < b.length), a.take k = b.take k → a[k] ≠ b[k] → lexLt a b = decide (a[k] < b[k])
  | x :: a, y :: b, 0, _, _, _, hne => by
    have : x ≠ y := hne
    simp [lexLt, this]
  | x :: a, y :: b, k + 1, ha, hb, ht, hne => by
    simp only [List.take_succ_cons, List.cons.injEq] at ht
    obtain ⟨rfl, ht⟩ := ht
    have ih := lexLt_at (a := a) (b := b) (k := k) (by simpa using ha) (by simpa using hb) ht (by simpa using hne)
    simp [lexLt, ih]
theorem befV_ne {a b : List Int} (h : a.sum ≠ b.sum) : befV a b = decide (a.sum < b.sum) := by simp [befV, h]
theorem befV_eq {a b : List Int} (h : a.sum = b.sum) : befV a b = lexLt a b := by simp [befV, h]
theorem befV_irrefl (a : List Int) : befV a a = false := by simp [befV, lexLt_irrefl]
theorem befV_asymm {a b : List Int} (h : befV a b = true) : befV b a = false := by
  unfold befV at *
  simp only [Bool.or_eq_true, Bool.and_eq_true, decide_eq_true_eq] at h
  simp only [Bool.or_eq_false_iff, Bool.and_eq_false_iff, decide_eq_false_iff_not]
  rcases h with h | ⟨h1, h2⟩
  · exact ⟨by omega, .inl (by omega)⟩
  · exact ⟨by omega, .inr (lexLt_asymm h2)⟩
theorem getD_at {l : List (List Int)} {i : Nat} (h : i < l.length) : l.getD i [] = l[i] := by rw [List.getD_eq_getElem?_getD, List.getElem?_eq_getElem h]; rfl
theorem sortL_bef {l : List (List Int)} (hl : l.Pairwise fun a b => lexLt a b = true) : (sortL l).Pairwise fun a b => befV a b = true := by
  have h : (ordN l).Pairwise fun x y => (!ltR l y x) = true := by
    refine List.pairwise_mergeSort (fun a b c h1 h2 => ?_) (fun a b => ?_) _
    · simp only [Bool.not_eq_true'] at *
      exact (ltR_swo l).ntrans _ _ _ h2 h1
    · cases h : ltR l b a
      · simp
      · have : ltR l a b = false := by
          unfold ltR at *
          rw [decide_eq_true_eq] at h
          rw [decide_eq_false_iff_not]; omega
        simp [this]
  have hn : (ordN l).Nodup := (ordN_perm l).nodup_iff.2 List.nodup_range
  have hm : (ordN l).Pairwise fun x y => x < l.length ∧ y < l.length := by
    refine List.pairwise_iff_getElem.2 fun i j hi hj _ => ⟨ordN_lt (List.getElem_mem hi), ordN_lt (List.getElem_mem hj)⟩
  unfold sortL
  rw [List.pairwise_map]
  refine ((h.and hn).and hm).imp fun {x y} hxy => ?_
  obtain ⟨⟨h1, h2⟩, h3, h4⟩ := hxy
  simp only [Bool.not_eq_true'] at h1
  unfold ltR at h1
  rw [decide_eq_false_iff_not] at h1
  unfold keyN at h1
  rw [getD_at h3, getD_at h4] at *
  unfold befV
  simp only [Bool.or_eq_true, Bool.and_eq_true, decide_eq_true_eq]
  by_cases e : l[x].sum < l[y].sum
  · exact .inl e
  · refine .inr ⟨by omega, List.pairwise_iff_getElem.1 hl x y h3 h4 ?_⟩
    have : x ≠ y := h2
    omega
/-- the choices that come after the first m -/
def afterP (S : List (List Int)) (m : Nat) (c : List Int) : Prop := ∀ (h : m - 1 < S.length), 0 < m → befV S[m - 1] c = true
theorem pick_law {l S : List (List Int)} (hp : S.Perm l) (hs : S.Pairwise fun a b => befV a b = true) {m b : Nat} (hm : m < S.length) (hb : b < l.length) (h1 : afterP S m l[b])
    (h2 : ∀ j (hj : j < l.length), afterP S m l[j] → befV l[j] l[b] = false) : l[b] = S[m] := by
  have hs' := List.pairwise_iff_getElem.1 hs
  obtain ⟨q, hq, e⟩ := List.mem_iff_getElem.1 (hp.mem_iff.2 (List.getElem_mem hb))
  obtain ⟨j, hj, e2⟩ := List.mem_iff_getElem.1 (hp.mem_iff.1 (List.getElem_mem hm))
  have h3 : afterP S m l[j] := fun hx h0 => by rw [e2]; exact hs' (m - 1) m hx hm (by omega)
  have h4 := h2 j hj h3
  rw [e2, ← e] at h4
  have h5 : ¬ q < m := fun hlt => by
    have := h1 (by omega) (by omega)
    rw [← e] at this
    by_cases he : q = m - 1
    · subst he; rw [befV_irrefl] at this; cases this
    · have h6 := hs' q (m - 1) hq (by omega) (by omega)
      rw [befV_asymm h6] at this; cases this
  have h6 : ¬ m < q := fun hlt => by rw [hs' m q hm hq hlt] at h4; cases h4
  have : q = m := by omega
  subst this
  exact e.symm
theorem pick_some {l S : List (List Int)} (hp : S.Perm l) (hs : S.Pairwise fun a b => befV a b = true) {m : Nat} (hm : m < S.length) : ∃ j, ∃ hj : j < l.length, afterP S m l[j] := by
  obtain ⟨j, hj, e2⟩ := List.mem_iff_getElem.1 (hp.mem_iff.1 (List.getElem_mem hm))
  exact ⟨j, hj, fun hx h0 => by rw [e2]; exact List.pairwise_iff_getElem.1 hs (m - 1) m hx hm (by omega)⟩
theorem lexN_snoc : ∀ (g : List El) (x : El) (c : List Int), lexN (g ++ [x]) c = (lexN g c).flatMap fun d => (rangeI x (widthN x)).map fun n => d ++ [n]
  | [], x, c => by
    show (rangeI x (widthN x)).flatMap (fun n => [c ++ [n]]) = [c].flatMap _
    rw [List.flatMap_cons, List.flatMap_nil, List.append_nil]
    induction rangeI x (widthN x) with
    | nil => rfl
    | cons a t ih => rw [List.flatMap_cons, ih]; rfl
  | y :: g, x, c => by
    show (rangeI y (widthN y)).flatMap (fun n => lexN (g ++ [x]) (c ++ [n])) = ((rangeI y (widthN y)).flatMap fun n => lexN g (c ++ [n])).flatMap _
    rw [List.flatMap_assoc]
    congr 1
    funext n
    exact lexN_snoc g x (c ++ [n])
/-- the first k lists of L, each with the numbers of x behind it, and the next one with n of them -/
def nextTo (L : List (List Int)) (x : El) (k : Nat) : List (List Int) := (L.take k).flatMap fun d => (rangeI x (widthN x)).map fun n => d ++ [n]
theorem nextTo_zero (L : List (List Int)) (x : El) : nextTo L x 0 = [] := rfl
theorem nextTo_succ {L : List (List Int)} {x : El} {k : Nat} (h : k < L.length) : nextTo L x (k + 1) = nextTo L x k ++ (rangeI x (widthN x)).map fun n => L[k] ++ [n] := by
  unfold nextTo
  rw [List.take_succ_eq_append_getElem h, List.flatMap_append]
  simp
def moreTo (L : List (List Int)) (x : El) (k n : Nat) (d : List Int) : List (List Int) := nextTo L x k ++ (rangeI x n).map fun m => d ++ [m]
theorem moreTo_step (L : List (List Int)) (x : El) (k n : Nat) (d : List Int) : moreTo L x k n d ++ [d ++ [x.low + (n : Int)]] = moreTo L x k (n + 1) d := by
  unfold moreTo rangeI
  rw [List.range_succ, List.map_append, List.map_append, List.append_assoc]
  rfl
theorem lexN_take {g : List El} {i : Nat} (h : i < g.length) : lexN (g.take (i + 1)) [] = nextTo (lexN (g.take i) []) g[i] (lexN (g.take i) []).length := by
  rw [List.take_succ_eq_append_getElem h, lexN_snoc]
  unfold nextTo
  rw [List.take_length]
theorem gaps_take_ok {g : List El} (h : OkG g) (i : Nat) : OkG (g.take i) := ⟨by have := h.1; rw [List.length_take]; omega, fun x hx => h.2 x (List.mem_of_mem_take hx)⟩
theorem lexN_take_le {g : List El} (h : OkG g) (hc : prodTo g g.length ≤ 64) (i : Nat) (hi : i ≤ g.length) : (lexN (g.take i) []).length ≤ 64 := by
  have h1 := lexN_count (gaps_take_ok h i)
  have h2 : prodTo (g.take i) (g.take i).length = prodTo g i := by
    unfold prodTo
    rw [List.take_length]
  have h3 := (prodTo_mono h hi (Nat.le_refl _)).2
  rw [h2] at h1
  omega
end Go.Proofs.Ytpjllppbpnkemaa

/- The reference's choices. -/
namespace Go.Proofs.Ytpjllppbpnkemaa
open Go.RowKit Go.Sort Go.Shelf

set_option maxRecDepth 100000 in
set_option maxHeartbeats 4000000 in
theorem before_r (va vb : Value) (a b : List Int) (w : World) (ha : Nums w va a) (hb : Nums w vb b) (hl : a.length = b.length) (sa : Small a) (sb : Small b) :
    Calls Try.prog 70 #[va, vb] w fun e w' => e = .returned (.bool (befV a b)) ∧ Below w.heap.size w w' := by
  have K1 := Lib.hid (sum_r va a w ha sa)
  have K2 := Lib.hid (sum_r vb b w hb sb)
  have hm1 : a.length ≤ 9223372036854775807 := by have := sa.1; omega
  have HA := Lib.hid ha
  have HB := Lib.hid hb
  have HLN := Lib.hid hl
  obtain ⟨pa, ca, rfl⟩ := Row.form2 ha
  obtain ⟨pb, cb, rfl⟩ := Row.form2 hb
  clear ha hb hl sa sb
  by_cases hs : a.sum = b.sum
  · have t1 : (a.sum != b.sum) = false := by rw [hs]; exact bne_self_eq_false _
    have HE := Lib.hid (befV_eq hs)
    clear hs
    go_enter Try.func70, Try.ntmps70
    go_wp2_with fail
    with_reducible refine K1.out.mono ?_
    rintro e w1 ⟨rfl, rfl⟩
    go_wp2_with fail
    with_reducible refine K2.out.mono ?_
    rintro e w1 ⟨rfl, rfl⟩
    go_wp2_with fail
    go_loopw [5] (fun iv wr => ∃ k : Nat, k ≤ a.length ∧ iv = .int .i64 (k : Nat) ∧ a.take k = b.take k ∧ Below w1.heap.size w1 wr) (fun iv _ => a.length - (intOf iv).toNat)
    case atStart => exact ⟨0, by omega, rfl, rfl, Below.refl _ _⟩
    case round =>
      obtain ⟨k, hk, rfl, heq, hBl⟩ := hrel
      have HT := Lib.hid heq
      have HW := Lib.hid hBl
      clear heq hBl
      by_cases hlt : k < a.length
      · have hlt' : k < b.length := by have := HLN.out; omega
        have i1 : (0 : Int) ≤ (k : Int) := by omega
        have i2 : (k : Int) < (a.length : Int) := by omega
        have i3 : (k : Int) < (b.length : Int) := by omega
        have wi1 : IntKind.i64.wrap ((k : Int) + 1) = (k : Int) + 1 := IntWalk.i64_in _ (by omega)
        obtain ⟨g, o, hga, hg, hc⟩ := Nums.at' (Row.below HA.out HW.out) hlt hlt
        obtain ⟨g2, o2, hgb, hg2, hd⟩ := Nums.at' (Row.below HB.out HW.out) hlt' hlt'
        subst hga
        subst hgb
        have q0 := fun d os => cell_regrown hc d os
        have q1 := fun d os => cell_regrown hd d os
        by_cases hpq : a[k] = b[k]
        · have hdec : (a[k] != b[k]) = false := by rw [hpq]; exact bne_self_eq_false _
          have HT2 := Lib.hid (take_eqS hlt hlt' HT.out hpq)
          clear hpq hc hd
          go_wp2_with fail
          refine wp_region_quiet_below (by kernel_rfl) (by kernel_rfl) ?_
          repeat (go_big_quiet_step (fail))
          refine wpQuiet_nil ?_
          intro _ hw'
          obtain ⟨⟨dq, osq⟩, hw''⟩ := hw'
          subst hw''
          have HB2 := Lib.hid (next HW.out (below_regrown _ dq osq))
          clear q0 q1
          go_wp2_with fail
          exact ⟨⟨k + 1, by omega, by go_num, HT2.out, HB2.out⟩, by simp [intOf]; omega⟩
        · have hdec : (a[k] != b[k]) = true := bne_iff_ne.2 hpq
          have HNO := Lib.hid (show befV a b = decide (a[k] < b[k]) by rw [HE.out, lexLt_at hlt hlt' HT.out hpq])
          clear hpq
          go_wp2_with fail
          refine wp_region_quiet_below (by kernel_rfl) (by kernel_rfl) ?_
          repeat (go_big_quiet_step (fail))
          refine wpQuiet_nil ?_
          intro _ hw'
          obtain ⟨⟨dq, osq⟩, hw''⟩ := hw'
          subst hw''
          have HB2 := Lib.hid (next HW.out (below_regrown wr dq osq))
          have hc2 := cell_regrown hc dq osq
          have hd2 := cell_regrown hd dq osq
          clear q0 q1 hc hd
          generalize Sort.grow (Go.redrawn wr dq) osq = w3 at *
          have q0 := fun d os => cell_regrown hc2 d os
          have q1 := fun d os => cell_regrown hd2 d os
          go_wp2_with fail
          refine wp_region_quiet_below (by kernel_rfl) (by kernel_rfl) ?_
          repeat (go_big_quiet_step (fail))
          refine wpQuiet_nil ?_
          intro _ hw'
          obtain ⟨⟨dq, osq⟩, hw''⟩ := hw'
          subst hw''
          have HB3 := Lib.hid (next HB2.out (below_regrown _ dq osq))
          clear q0 q1 hc2 hd2
          go_wp2_with fail
          go_ret
          exact ⟨by rw [HNO.out]; rfl, HB3.out⟩
      · obtain rfl : a.length = k := by omega
        have i1 : ¬ ((a.length : Int) < (a.length : Int)) := by omega
        have HNO := Lib.hid (show befV a b = false by
          have h1 := HT.out
          rw [List.take_length, List.take_of_length_le (by rw [HLN.out]; exact Nat.le_refl _)] at h1
          rw [h1]; exact befV_irrefl _)
        go_wp2_with fail
        go_ret
        exact ⟨by rw [HNO.out]; rfl, HW.out⟩
  · have t1 : (a.sum != b.sum) = true := bne_iff_ne.2 hs
    have HE := Lib.hid (befV_ne hs)
    clear hs
    go_enter Try.func70, Try.ntmps70
    go_wp2_with fail
    with_reducible refine K1.out.mono ?_
    rintro e w1 ⟨rfl, rfl⟩
    go_wp2_with fail
    with_reducible refine K2.out.mono ?_
    rintro e w1 ⟨rfl, rfl⟩
    go_wp2_with fail
    with_reducible refine K1.out.mono ?_
    rintro e w1 ⟨rfl, rfl⟩
    go_wp2_with fail
    with_reducible refine K2.out.mono ?_
    rintro e w1 ⟨rfl, rfl⟩
    go_wp2_with fail
    go_ret
    exact ⟨by rw [HE.out]; rfl, Below.refl _ _⟩
theorem infoInt : (Try.prog.info? 3).map (fun i => (i.zero, i.size, i.bytes)) = some (some (.int .i64 0), 1, 8) := by kernel_rfl
theorem app_int {w : World} {base : Nat} {v v2 : Value} {l m : List Int} (hown : w.ownsRow base 3 1 v l.length (icell l)) (hr : Nums w v2 m) (hl : l.length + m.length ≤ 20000) (hbase : base ≤ w.heap.size) :
    ∃ a cap w', (Builtin.append_ #[34, 34] 34 #[v, v2]).run Try.prog w = .ok (.slice a (l ++ m).length cap) w' ∧ w'.ownsRow base 3 1 (.slice a (l ++ m).length cap) (l ++ m).length (icell (l ++ m)) ∧ Below base w w' := by
  obtain ⟨j0, hj, hy0, hy1, hy2⟩ := info_parts infoInt
  obtain ⟨v', w', h1, h2, h3⟩ := append_row (P := Try.prog) base 34 34 3 Try.underlying34 hj hy0 hy1 hy2 rfl (by decide) hown hr (fun u hu => by obtain ⟨x, _, rfl⟩ := List.mem_map.1 hu; rfl) (by unfold maxLen; omega) (by omega) hbase
  rw [← List.length_append, show icell l ++ icell m = icell (l ++ m) by simp [icell]] at h2
  obtain ⟨a, cap, rfl⟩ := Row.form2 (Row.of_owns h2)
  exact ⟨a, cap, w', h1, h2, (Below.refl base w).grown h3 hbase (fun q e => (hown.lt q e).1)⟩
theorem app_ch {w : World} {base B : Nat} {ow : Value} {L : List (List Int)} {c : List Int} {la : Option Addr} {lc : Nat} (h : Lists w base B ow L) (hl : w.ownsRow B 3 1 (.slice la c.length lc) c.length (icell c)) (hn : L.length ≤ 100000) (hbase : base ≤ w.heap.size) :
    ∃ a cap w', (Builtin.append_ #[42, 42] 42 #[ow, .slice (some ⟨w.heap.size, 0, none⟩) 1 1]).run Try.prog (w.alloc (.cells #[.slice la c.length lc] 34)) = .ok (.slice a (L ++ [c]).length cap) w' ∧ Lists w' base B (.slice a (L ++ [c]).length cap) (L ++ [c]) ∧ Below base w w' := by
  obtain ⟨vs, hown, hel⟩ := h
  obtain ⟨j0, hj, hy0, hy1, hy2⟩ := info_parts infoL
  have hr := Row.lit w 34 1 1 [.slice la c.length lc] (by simp) (by unfold maxLen; omega)
  have ho := hown.alloc (.cells #[.slice la c.length lc] 34)
  obtain ⟨v', w', h1, h2, h3⟩ := append_row (P := Try.prog) base 42 42 34 Try.underlying42 hj hy0 hy1 hy2 rfl (by decide) ho hr (by simp [Value.oneCell']) (by unfold maxLen; omega) (by omega) (by simp; omega)
  rw [show L.length + 1 = (L ++ [c]).length by simp] at h2
  obtain ⟨a, cap, rfl⟩ := Row.form2 (Row.of_owns h2)
  refine ⟨a, cap, w', h1, ⟨_, h2, ?_⟩, ((Below.refl base w).alloc hbase _).grown h3 (by simp; omega) (fun q e => (ho.lt q e).1)⟩
  have hk : ∀ (g : Nat) (cs : Array Value), w.heap[g]? = some (.cells cs 3) → w'.heap[g]? = some (.cells cs 3) := fun g _ hg =>
    grown_keep ho h3 ((heap_alloc_old _ _ (Array.getElem?_eq_some_iff.1 hg).1).trans hg) (by decide)
  exact (hel.snoc hl).keep hk
theorem Lists.base {w : World} {base B base' B' : Nat} {v : Value} {l : List (List Int)} (h : Lists w base B v l) (h1 : base' ≤ base) (h2 : B' ≤ B) : Lists w base' B' v l := by
  obtain ⟨vs, q1, q2, q3⟩ := h
  exact ⟨vs, ownsRow_base q1 h1, q2, fun i x y => ownsRow_base (q3 i x y) h2⟩
theorem lit_int (W : World) (n : Int) : Nums (W.alloc (.cells #[.int .i64 n] 3)) (.slice (some ⟨W.heap.size, 0, none⟩) 1 1) [n] := by
  have := Row.lit W 3 1 1 [.int .i64 n] (by simp) (by unfold maxLen; omega)
  exact this
theorem lit_none (W : World) : (W.alloc (.cells #[] 3)).ownsRow W.heap.size 3 1 (.slice (some ⟨W.heap.size, 0, none⟩) 0 0) ([] : List Int).length (icell []) := World.ownsRow_lit W #[] 0 (Nat.le_refl _) (by decide) rfl
end Go.Proofs.Ytpjllppbpnkemaa

/- The reference's choices: all of them, in order. -/
namespace Go.Proofs.Ytpjllppbpnkemaa
open Go.RowKit Go.Sort Go.Shelf

theorem one_list (w : World) : Lists ((w.alloc (.cells #[] 3)).alloc (.cells #[.slice (some ⟨w.heap.size, 0, none⟩) 0 0] 34)) w.heap.size w.heap.size (.slice (some ⟨w.heap.size + 1, 0, none⟩) 1 1) [[]] := by
  refine ⟨[.slice (some ⟨w.heap.size, 0, none⟩) 0 0], ?_, rfl, fun i hi hi' => ?_⟩
  · have : ((w.alloc (.cells #[] 3)).alloc (.cells #[.slice (some ⟨w.heap.size, 0, none⟩) 0 0] 34)).ownsRow (w.alloc (.cells #[] 3)).heap.size 34 1 (.slice (some ⟨(w.alloc (.cells #[] 3)).heap.size, 0, none⟩) 1 1) 1 [.slice (some ⟨w.heap.size, 0, none⟩) 0 0] := World.ownsRow_lit _ #[.slice (some ⟨w.heap.size, 0, none⟩) 0 0] 1 (Nat.le_refl _) (by decide) rfl
    rw [World.size_alloc] at this
    exact ownsRow_base this (by omega)
  · match i, hi with
    | 0, _ => exact (lit_none w).alloc _
theorem moreTo_full (L : List (List Int)) (x : El) {k : Nat} (h : k < L.length) : moreTo L x k (widthN x) L[k] = nextTo L x (k + 1) := (nextTo_succ h).symm
theorem moreTo_zero (L : List (List Int)) (x : El) (k : Nat) (d : List Int) : moreTo L x k 0 d = nextTo L x k := by simp [moreTo, rangeI]
theorem nextTo_len (L : List (List Int)) (x : El) (k : Nat) : (nextTo L x k).length ≤ (nextTo L x L.length).length := by
  unfold nextTo
  rw [List.take_length]
  have h : (L.flatMap fun d => (rangeI x (widthN x)).map fun n => d ++ [n]).length = ((L.take k).flatMap fun d => (rangeI x (widthN x)).map fun n => d ++ [n]).length + ((L.drop k).flatMap fun d => (rangeI x (widthN x)).map fun n => d ++ [n]).length := by
    rw [← List.length_append, ← List.flatMap_append, List.take_append_drop]
  omega
theorem moreTo_len {L : List (List Int)} {x : El} {k n : Nat} (h : k < L.length) (hn : n ≤ widthN x) : (moreTo L x k n L[k]).length ≤ (nextTo L x L.length).length := by
  have h1 := nextTo_len L x (k + 1)
  rw [nextTo_succ h, List.length_append, List.length_map] at h1
  unfold moreTo
  rw [List.length_append, List.length_map]
  have h2 : (rangeI x n).length ≤ (rangeI x (widthN x)).length := by simp [rangeI, hn]
  omega
/-- the length of a slice -/
def sliceLen : Value → Nat
  | .slice _ n _ => n
  | _ => 0
def ChsP (p : List El) (w : World) (e : Ending) (w' : World) : Prop := ∃ v, e = .returned v ∧ NLists w' v (sortL (lexN (gapsV p) [])) ∧ Below w.heap.size w w'
set_option maxRecDepth 100000 in
set_option maxHeartbeats 20000000 in
theorem choices_r (v : Value) (p : List El) (w : World) (h : Pats w v p) (h0 : cntE p = 0) :
    Calls Try.prog 52 #[v] w (ChsP p w) := by
  obtain ⟨hok, hcnt⟩ := cntE_ok h0
  have hG := hok.gaps
  have hle := hok.le
  have HP := Lib.hid h
  have HOG := Lib.hid hG
  have HCN := Lib.hid hcnt
  have KG := Lib.hid (fun (w1 : World) (hb : Below w.heap.size w w1) => gaps_r _ p w1 (Row.below HP.out hb) (by omega))
  obtain ⟨a, cap, rfl⟩ := Row.form2 h
  unfold ChsP
  clear h h0 hok hG hcnt
  have HB1 := Lib.hid (show Below w.heap.size w ((w.alloc (.cells #[] 3)).alloc (.cells #[.slice (some ⟨w.heap.size, 0, none⟩) 0 0] 34)) from ((Below.refl _ _).alloc (Nat.le_refl _) _).alloc (by simp) _)
  have H1 := Lib.hid (one_list w)
  have K1 := Lib.hid (KG.out _ HB1.out)
  clear KG
  go_enter Try.func52, Try.ntmps52
  go_wp2_with fail
  with_reducible refine K1.out.mono ?_
  rintro e w3 ⟨gv, rfl, ho, hb3⟩
  have HB3 := Lib.hid (next HB1.out hb3)
  have HA := Lib.hid (H1.out.below hb3)
  have HGR := Lib.hid (Row.of_owns ho)
  obtain ⟨ga, gc, rfl⟩ := Row.form2 (Row.of_owns ho)
  have hgl : (gapsV p).length ≤ 512 := HOG.out.1
  clear hb3 ho K1 H1 HB1
  generalize hgg : gapsV p = g at *
  have HGG := Lib.hid hgg
  clear hgg
  go_wp2_with fail
  go_loopw [3, 5] (fun av iv wr => ∃ (i : Nat), i ≤ g.length ∧ iv = .int .i64 (i : Nat) ∧ Lists wr w.heap.size w.heap.size av (lexN (g.take i) []) ∧ Below w3.heap.size w3 wr) (fun _ iv _ => g.length - (intOf iv).toNat)
  case atStart => exact ⟨0, by omega, rfl, HA.out, Below.refl _ _⟩
  case round =>
    obtain ⟨i, hi, rfl, hall, hB⟩ := hrel
    have HB := Lib.hid hB
    have HALL := Lib.hid hall
    have HBW := Lib.hid (next HB3.out hB)
    obtain ⟨aa, ac, rfl⟩ := hall.form
    clear hall hB
    obtain ⟨W4, rfl⟩ : ∃ W4, W4 = wr := ⟨_, rfl⟩
    by_cases hlt : i < g.length
    · have i1 : (0 : Int) ≤ (i : Int) := by omega
      have i2 : (i : Int) < (g.length : Int) := by omega
      have wi1 : IntKind.i64.wrap ((i : Int) + 1) = (i : Int) + 1 := IntWalk.i64_in _ (by omega)
      have hx := HOG.out.2 g[i] (List.getElem_mem _)
      have HTK := Lib.hid (lexN_take hlt)
      have hl1 := lexN_take_le HOG.out HCN.out i (by omega)
      have hl2 := lexN_take_le HOG.out HCN.out (i + 1) (by omega)
      rw [HTK.out] at hl2
      have HSM := Lib.hid (fun c (hc : c ∈ lexN (g.take i) []) => (lexN_small (gaps_take_ok HOG.out i) hc).1)
      obtain ⟨gg, og, hga, hgs, d0, d1, d2, d3, d4, d5, d6⟩ := Pats.at (Row.below HGR.out HB.out) hlt
      subst hga
      generalize g[i] = x at *
      generalize lexN (g.take i) [] = L at *
      have hwn : (widthN x : Int) = x.high - x.low + 1 := by unfold widthN; omega
      have HX := Lib.hid hx
      go_wp2_with fail
      go_loopw [6, 7] (fun ov kv w5 => ∃ (k : Nat), k ≤ L.length ∧ kv = .int .i64 (k : Nat) ∧ Lists w5 W4.heap.size W4.heap.size ov (nextTo L x k) ∧ Below W4.heap.size W4 w5) (fun _ kv _ => L.length - (intOf kv).toNat)
      case atStart => exact ⟨0, by omega, rfl, lists_nil _ _ _, Below.refl _ _⟩
      case round =>
        obtain ⟨k, hk, rfl, hnx, hB5⟩ := hrel
        have HB5 := Lib.hid hB5
        have HNX := Lib.hid hnx
        clear hnx hB5
        obtain ⟨W5, rfl⟩ : ∃ W5, W5 = wr := ⟨_, rfl⟩
        by_cases hkl : k < L.length
        · have k1 : (0 : Int) ≤ (k : Int) := by omega
          have k2 : (k : Int) < (L.length : Int) := by omega
          have wk1 : IntKind.i64.wrap ((k : Int) + 1) = (k : Int) + 1 := IntWalk.i64_in _ (by omega)
          have c5 : W5.cell? ⟨gg, og + i * 7 + 5, none⟩ = some (.int .i64 x.low) := (HB5.out.cell (p := ⟨gg, og + i * 7 + 5, none⟩) hgs).trans d5
          have HD6 := Lib.hid d6
          have hml := moreTo_len (x := x) hkl (Nat.le_refl _)
          clear d0 d1 d2 d3 d4 d6
          go_wp2_with fail
          go_loopw [6, 8] (fun ov nv w6 => ∃ (n : Nat), n ≤ widthN x ∧ nv = .int .i64 (x.low + (n : Int)) ∧ Lists w6 W4.heap.size W4.heap.size ov (moreTo L x k n L[k]) ∧ Below W4.heap.size W4 w6) (fun _ nv _ => (x.high + 1 - intOf nv).toNat)
          case atStart => exact ⟨0, by omega, by simp, by rw [moreTo_zero]; exact HNX.out, HB5.out⟩
          case round =>
            obtain ⟨n, hn, rfl, hmr, hB6⟩ := hrel
            have HB6 := Lib.hid hB6
            have HMR := Lib.hid hmr
            have e6 : wr.cell? ⟨gg, og + i * 7 + 6, none⟩ = some (.int .i64 x.high) := (hB6.cell (p := ⟨gg, og + i * 7 + 6, none⟩) hgs).trans HD6.out
            have hgs5 : gg < wr.heap.size := Nat.lt_of_lt_of_le hgs hB6.size
            clear hmr hB6
            by_cases hnw : n < widthN x
            · have n2 : x.low + (n : Int) ≤ x.high := by omega
              have wn1 : IntKind.i64.wrap (x.low + (n : Int) + 1) = x.low + (n : Int) + 1 := IntWalk.i64_in _ (by omega)
              obtain ⟨gl, ol, ua, uc, hal, _, f0, _, _, hdo⟩ := (HALL.out.below HB6.out).atL hkl rfl
              cases hal
              have hdn : L[k].length ≤ 512 := (HSM.out L[k] (List.getElem_mem _)).1
              have hlen6 : (moreTo L x k n L[k]).length ≤ 100000 := by
                have := moreTo_len (x := x) (n := n) hkl (by omega)
                omega
              obtain ⟨a1, cp1, w7, hr1, ho1, hb1⟩ := app_int (lit_none wr) (Row.below (Row.of_owns hdo) ((Below.refl wr.heap.size wr).alloc (Nat.le_refl _) _)) (by simp only [List.length_nil]; omega) (by simp)
              rw [List.nil_append] at hr1 ho1
              have hB7 : Below wr.heap.size wr w7 := ((Below.refl wr.heap.size wr).alloc (Nat.le_refl _) (.cells #[] 3)).trans hb1
              obtain ⟨a2, cp2, w8, hr2, ho2, hb2⟩ := app_int (ho1.alloc (.cells #[.int .i64 (x.low + (n : Int))] 3)) (lit_int w7 (x.low + (n : Int))) (by simp only [List.length_cons, List.length_nil]; omega) (Nat.le_trans hB7.size (by simp))
              have hB8 : Below wr.heap.size wr w8 := (hB7.alloc hB7.size (.cells #[.int .i64 (x.low + (n : Int))] 3)).trans hb2
              have hs6 := HB6.out.size
              obtain ⟨a3, cp3, w9, hr3, ho3, hb3⟩ := app_ch (HMR.out.below hB8) (ownsRow_base ho2 hs6) hlen6 (Nat.le_trans hs6 hB8.size)
              rw [moreTo_step] at hr3 ho3
              have HR1 := Lib.hid hr1
              have HR2 := Lib.hid hr2
              have HB9 := Lib.hid ((HB6.out.trans (hB8.mono hs6)).trans hb3)
              have HO9 := Lib.hid ho3
              obtain ⟨va3, hva3⟩ : ∃ va, va = Value.slice a3 (moreTo L x k (n + 1) L[k]).length cp3 := ⟨_, rfl⟩
              rw [← hva3] at hr3 HO9
              have HR3 := Lib.hid hr3
              clear hr1 hr2 hr3 ho1 ho2 ho3 hb1 hb2 hb3 hB7 hB8 hva3 hdo
              rw [show (L[k] ++ [x.low + (n : Int)]).length = L[k].length + 1 by simp] at HR2 HR3
              go_wp2_with (first
                | (at_builtin; refine wpList_append_run rfl rfl rfl rfl HR1.out ?_)
                | (at_builtin; refine wpList_append_run rfl rfl rfl rfl HR2.out ?_)
                | (at_builtin; refine wpList_append_run rfl rfl rfl rfl HR3.out ?_))
              exact ⟨⟨n + 1, by omega, by go_num, HO9.out, HB9.out⟩, by simp [intOf]; omega⟩
            · obtain rfl : n = widthN x := by omega
              have n2 : ¬ x.low + (widthN x : Int) ≤ x.high := by omega
              rw [moreTo_full L x hkl] at HMR
              go_wp2_with fail
              exact ⟨⟨k + 1, by omega, by go_num, HMR.out, HB6.out⟩, by simp [intOf]; omega⟩
        · obtain rfl : k = L.length := by omega
          have k2 : ¬ (L.length : Int) < (L.length : Int) := by omega
          rw [← HTK.out] at HNX
          have hs4 := HBW.out.size
          have HB6 := Lib.hid (HB.out.trans (HB5.out.mono HB.out.size))
          clear d0 d1 d2 d3 d4 d5 d6
          go_wp2_with fail
          exact ⟨⟨i + 1, by omega, by go_num, HNX.out.base hs4 hs4, HB6.out⟩, by simp [intOf]; omega⟩
    · obtain rfl : i = g.length := by omega
      have i2 : ¬ (g.length : Int) < (g.length : Int) := by omega
      rw [List.take_length] at HALL
      have hl1 := lexN_take_le HOG.out HCN.out g.length (by omega)
      rw [List.take_length] at hl1
      have HSM := Lib.hid (fun c (hc : c ∈ lexN g []) => lexN_small HOG.out hc)
      have HPM := Lib.hid (sortL_perm (lexN g []))
      have HSB := Lib.hid (sortL_bef (lexN_asc g []))
      have HSL := Lib.hid (sortL_len (lexN g []))
      rw [List.take_length]
      generalize hLL : lexN g [] = L at *
      generalize hSS : sortL L = S at *
      have HSS2 := Lib.hid (show sortL (lexN (gapsV p) []) = S by rw [HGG.out, hLL, hSS])
      clear hLL hSS
      go_wp2_with fail
      have hSLe := HSL.out
      have HSS := Lib.hid (show ∀ j (hj : j < S.length), Small S[j] ∧ S[j].length = g.length from fun j hj => HSM.out S[j] (HPM.out.mem_iff.1 (List.getElem_mem hj)))
      go_loopw [9] (fun ov w7 => ∃ (m : Nat), m ≤ S.length ∧ Lists w7 W4.heap.size w.heap.size ov (S.take m) ∧ Below W4.heap.size W4 w7) (fun ov _ => S.length - sliceLen ov)
      case atStart => exact ⟨0, by omega, lists_nil _ _ _, Below.refl _ _⟩
      case round =>
        obtain ⟨m, hm, hout, hB7⟩ := hrel
        have HB7 := Lib.hid hB7
        have HOUT := Lib.hid hout
        obtain ⟨oa, oc, rfl⟩ : ∃ a c, u9 = .slice a m c := by
          obtain ⟨a, c, e⟩ := hout.form
          exact ⟨a, c, by rw [e, List.length_take, Nat.min_eq_left hm]⟩
        clear hout hB7
        obtain ⟨W7, rfl⟩ : ∃ W7, W7 = wr := ⟨_, rfl⟩
        by_cases hlt : m < S.length
        · have n1 : (m : Int) < (L.length : Int) := by omega
          by_cases hm0 : 0 < m
          · obtain ⟨q, hq⟩ : ∃ q, q + 1 = m := ⟨m - 1, by omega⟩
            have HQ := Lib.hid hq
            have q0 : (0 : Int) ≤ (q : Int) := by omega
            have q3 : (q : Int) < (m : Int) := by omega
            have wq : IntKind.i64.wrap ((m : Int) - 1) = (q : Int) := by rw [show (m : Int) - 1 = (q : Int) by omega]; exact IntWalk.i64_in _ (by omega)
            have g1 : decide (0 < m) = true := decide_eq_true hm0
            go_wp2_with fail
            go_loopw [10, 11] (fun bv kv w8 => ∃ (k : Nat) (B : Int), k ≤ L.length ∧ kv = .int .i64 (k : Nat) ∧ bv = .int .i64 B ∧ ((B = -1 ∧ ∀ j (hj : j < L.length), j < k → ¬ afterP S m L[j]) ∨ (∃ b : Nat, B = (b : Int) ∧ b < k ∧ ∃ hb : b < L.length, afterP S m L[b] ∧ ∀ j (hj : j < L.length), j < k → afterP S m L[j] → befV L[j] L[b] = false)) ∧ Below W7.heap.size W7 w8) (fun _ kv _ => L.length - (intOf kv).toNat)
            case atStart => exact ⟨0, -1, by omega, rfl, rfl, .inl ⟨rfl, fun j _ hj => absurd hj (by omega)⟩, Below.refl _ _⟩
            case round =>
              obtain ⟨k, B, hk, rfl, rfl, hcs, hB8⟩ := hrel
              have HB8 := Lib.hid hB8
              have HB48 := Lib.hid (HB7.out.trans (hB8.mono HB7.out.size))
              clear hB8
              by_cases hkl : k < L.length
              · have k1 : (0 : Int) ≤ (k : Int) := by omega
                have k2 : (k : Int) < (L.length : Int) := by omega
                have wk1 : IntKind.i64.wrap ((k : Int) + 1) = (k : Int) + 1 := IntWalk.i64_in _ (by omega)
                obtain ⟨gl, ol, ua, uc, hal, hgl, f0, _, hnk, _⟩ := (HALL.out.below HB48.out).atL hkl rfl
                subst hal
                have q1 := fun d os => cell_regrown f0 d os
                have sk := HSM.out L[k] (List.getElem_mem _)
                obtain ⟨gout, oout, sa, sc, hao, _, fo, _, hno, _⟩ := (HOUT.out.below HB8.out).atL (i := q) (by rw [List.length_take]; omega) (by rw [List.length_take]; omega)
                subst hao
                simp only [List.getElem_take] at fo hno
                have q2 := fun d os => cell_regrown fo d os
                have sq := HSS.out q (by omega)
                have M0 := Lib.hid (fun d os => before_r _ _ S[q] L[k] (Sort.grow (Go.redrawn wr d) os) (Row.below hno (below_regrown wr d os)) (Row.below hnk (below_regrown wr d os)) (by rw [sq.2, sk.2]) sq.1 sk.1)
                have HAF := Lib.hid (show afterP S m L[k] ↔ befV S[q] L[k] = true from ⟨fun h => by
                  have h1 := h (by omega) (by omega)
                  have e : m - 1 = q := by omega
                  simp only [e] at h1
                  exact h1, fun h hx h1 => by
                  have e : m - 1 = q := by omega
                  simp only [e]
                  exact h⟩)
                have HNK := Lib.hid hnk
                have HSK := Lib.hid sk
                clear hnk hno sk sq
                by_cases hP : afterP S m L[k]
                · have hbt : befV S[q] L[k] = true := HAF.out.1 hP
                  have HPK := Lib.hid hP
                  have HCS := Lib.hid hcs
                  clear hP hcs
                  rw [hbt] at M0
                  clear hbt
                  go_wp2_with fail
                  refine wp_region_quiet_below (by kernel_rfl) (by kernel_rfl) ?_
                  repeat (go_big_quiet_step ((go_at_call 70; exact Calls.regrown_of (M0.out _ _))))
                  refine wpQuiet_nil ?_
                  intro _ hw'
                  obtain ⟨⟨dq, osq⟩, hw''⟩ := hw'
                  subst hw''
                  have HB9 := Lib.hid (HB8.out.trans ((below_regrown wr dq osq).mono HB8.out.size))
                  have b9 := below_regrown wr dq osq
                  generalize Sort.grow (Go.redrawn wr dq) osq = w9 at *
                  have f9 := (b9.cell (block_lt_of_cell f0)).trans f0
                  have hn9 := Row.below HNK.out b9
                  clear q1 q2 M0
                  rcases HCS.out with ⟨rfl, hno9⟩ | ⟨b, rfl, hbk, hbl, hPb, hmin⟩
                  · have HNO := Lib.hid hno9
                    clear hno9 HCS
                    have r1 := fun d os => cell_regrown f9 d os
                    go_wp2_with fail
                    refine wp_region_quiet_below (by kernel_rfl) (by kernel_rfl) ?_
                    repeat (go_big_quiet_step (fail))
                    refine wpQuiet_nil ?_
                    intro _ hw'
                    obtain ⟨⟨dq, osq⟩, hw''⟩ := hw'
                    subst hw''
                    have HB10 := Lib.hid (HB9.out.trans ((below_regrown w9 dq osq).mono HB9.out.size))
                    clear r1 f9 f0
                    go_wp2_with fail
                    exact ⟨⟨k + 1, (k : Int), by omega, by go_num, rfl, .inr ⟨k, rfl, by omega, hkl, HPK.out, fun j hj hjk hPj => by
                      by_cases e : j = k
                      · subst e; exact befV_irrefl _
                      · exact absurd hPj (HNO.out j hj (by omega))⟩, HB10.out⟩, by simp [intOf]; omega⟩
                  · have HPB := Lib.hid hPb
                    have HMIN := Lib.hid hmin
                    obtain ⟨gl', ol', va, vc, hal, _, fb, _, hnb, _⟩ := ((HALL.out.below HB48.out).below b9).atL hbl rfl
                    cases hal
                    have sb := HSM.out L[b] (List.getElem_mem _)
                    have M2 := Lib.hid (fun d os => before_r _ _ L[k] L[b] (Sort.grow (Go.redrawn w9 d) os) (Row.below hn9 (below_regrown w9 d os)) (Row.below hnb (below_regrown w9 d os)) (by rw [HSK.out.2, sb.2]) HSK.out.1 sb.1)
                    have r1 := fun d os => cell_regrown f9 d os
                    have r2 := fun d os => cell_regrown fb d os
                    have b1 : (0 : Int) ≤ (b : Int) := by omega
                    have b2 : (b : Int) < (L.length : Int) := by omega
                    have b3 : ¬ (b : Int) < 0 := by omega
                    have b4 : decide ((b : Int) < 0) = false := decide_eq_false b3
                    clear hPb hmin HCS hn9 hnb sb
                    by_cases hbf : befV L[k] L[b] = true
                    · rw [hbf] at M2
                      have HBF := Lib.hid hbf
                      clear hbf
                      go_wp2_with fail
                      refine wp_region_quiet_below (by kernel_rfl) (by kernel_rfl) ?_
                      repeat (go_big_quiet_step ((go_at_call 70; exact Calls.regrown_of (M2.out _ _))))
                      refine wpQuiet_nil ?_
                      intro _ hw'
                      obtain ⟨⟨dq, osq⟩, hw''⟩ := hw'
                      subst hw''
                      have HB10 := Lib.hid (HB9.out.trans ((below_regrown w9 dq osq).mono HB9.out.size))
                      clear r1 r2 f9 f0 fb M2
                      go_wp2_with fail
                      exact ⟨⟨k + 1, (k : Int), by omega, by go_num, rfl, .inr ⟨k, rfl, by omega, hkl, HPK.out, fun j hj hjk hPj => by
                        by_cases e : j = k
                        · subst e; exact befV_irrefl _
                        · cases hx : befV L[j] L[k] with
                          | false => rfl
                          | true =>
                            have h1 := HMIN.out j hj (by omega) hPj
                            rw [befV_trans hx HBF.out] at h1
                            cases h1⟩, HB10.out⟩, by simp [intOf]; omega⟩
                    · have hbf : befV L[k] L[b] = false := by simpa using hbf
                      rw [hbf] at M2
                      have HBF := Lib.hid hbf
                      clear hbf
                      go_wp2_with fail
                      refine wp_region_quiet_below (by kernel_rfl) (by kernel_rfl) ?_
                      repeat (go_big_quiet_step ((go_at_call 70; exact Calls.regrown_of (M2.out _ _))))
                      refine wpQuiet_nil ?_
                      intro _ hw'
                      obtain ⟨⟨dq, osq⟩, hw''⟩ := hw'
                      subst hw''
                      have HB10 := Lib.hid (HB9.out.trans ((below_regrown w9 dq osq).mono HB9.out.size))
                      clear r1 r2 f9 f0 fb M2
                      go_wp2_with fail
                      exact ⟨⟨k + 1, (b : Int), by omega, by go_num, rfl, .inr ⟨b, rfl, by omega, hbl, HPB.out, fun j hj hjk hPj => by
                        by_cases e : j = k
                        · subst e; exact HBF.out
                        · exact HMIN.out j hj (by omega) hPj⟩, HB10.out⟩, by simp [intOf]; omega⟩
                · have hbt : befV S[q] L[k] = false := by
                    cases hx : befV S[q] L[k] with
                    | false => rfl
                    | true => exact absurd (HAF.out.2 hx) hP
                  have HPK := Lib.hid hP
                  have HCS := Lib.hid hcs
                  clear hP hcs
                  rw [hbt] at M0
                  clear hbt
                  go_wp2_with fail
                  refine wp_region_quiet_below (by kernel_rfl) (by kernel_rfl) ?_
                  repeat (go_big_quiet_step ((go_at_call 70; exact Calls.regrown_of (M0.out _ _))))
                  refine wpQuiet_nil ?_
                  intro _ hw'
                  obtain ⟨⟨dq, osq⟩, hw''⟩ := hw'
                  subst hw''
                  have HB9 := Lib.hid (HB8.out.trans ((below_regrown wr dq osq).mono HB8.out.size))
                  have b9 := below_regrown wr dq osq
                  generalize Sort.grow (Go.redrawn wr dq) osq = w9 at *
                  clear q1 q2 M0 f0 fo
                  go_wp2_with fail
                  refine ⟨⟨k + 1, B, by omega, by go_num, rfl, ?_, HB9.out⟩, by simp [intOf]; omega⟩
                  rcases HCS.out with ⟨e, hno9⟩ | ⟨b, e, hbk, hbl, hPb, hmin⟩
                  · exact .inl ⟨e, fun j hj hjk => by
                      by_cases e : j = k
                      · subst e; exact HPK.out
                      · exact hno9 j hj (by omega)⟩
                  · exact .inr ⟨b, e, by omega, hbl, hPb, fun j hj hjk hPj => by
                      by_cases e : j = k
                      · subst e; exact absurd hPj HPK.out
                      · exact hmin j hj (by omega) hPj⟩
              · obtain rfl : k = L.length := by omega
                have k2 : ¬ (L.length : Int) < (L.length : Int) := by omega
                rcases hcs with ⟨_, hno9⟩ | ⟨b, rfl, hbk, hbl, hPb, hmin⟩
                · exfalso
                  obtain ⟨j, hj, hP⟩ := pick_some HPM.out HSB.out hlt
                  exact hno9 j hj hj hP
                · have HPK := Lib.hid (pick_law HPM.out HSB.out hlt hbl hPb fun j hj => hmin j hj hj)
                  obtain ⟨gl, ol, va, vc, hal, _, fb, _, _, hdo⟩ := (HALL.out.below HB48.out).atL hbl rfl
                  subst hal
                  obtain ⟨a3, cp3, w9, hr3, ho3, hb3⟩ := app_ch (HOUT.out.below HB8.out) hdo (by rw [List.length_take]; omega) HB48.out.size
                  rw [HPK.out, ← List.take_succ_eq_append_getElem hlt] at hr3 ho3
                  rw [HPK.out] at fb
                  rw [show (S.take (m + 1)).length = m + 1 by rw [List.length_take]; omega] at hr3 ho3
                  have HR3 := Lib.hid hr3
                  have HO9 := Lib.hid ho3
                  have HB9 := Lib.hid (HB48.out.trans hb3)
                  have b1 : (0 : Int) ≤ (b : Int) := by omega
                  have b2 : (b : Int) < (L.length : Int) := by omega
                  clear hr3 ho3 hb3 hdo hPb hmin
                  go_wp2_with (at_builtin; refine wpList_append_run rfl rfl rfl rfl HR3.out ?_)
                  exact ⟨⟨m + 1, by omega, HO9.out, HB9.out⟩, by simp [sliceLen]; omega⟩
          · have g1 : decide (0 < m) = false := decide_eq_false hm0
            go_wp2_with fail
            go_loopw [10, 11] (fun bv kv w8 => ∃ (k : Nat) (B : Int), k ≤ L.length ∧ kv = .int .i64 (k : Nat) ∧ bv = .int .i64 B ∧ ((B = -1 ∧ ∀ j (hj : j < L.length), j < k → ¬ afterP S m L[j]) ∨ (∃ b : Nat, B = (b : Int) ∧ b < k ∧ ∃ hb : b < L.length, afterP S m L[b] ∧ ∀ j (hj : j < L.length), j < k → afterP S m L[j] → befV L[j] L[b] = false)) ∧ Below W7.heap.size W7 w8) (fun _ kv _ => L.length - (intOf kv).toNat)
            case atStart => exact ⟨0, -1, by omega, rfl, rfl, .inl ⟨rfl, fun j _ hj => absurd hj (by omega)⟩, Below.refl _ _⟩
            case round =>
              obtain ⟨k, B, hk, rfl, rfl, hcs, hB8⟩ := hrel
              have HB8 := Lib.hid hB8
              have HB48 := Lib.hid (HB7.out.trans (hB8.mono HB7.out.size))
              clear hB8
              by_cases hkl : k < L.length
              · have k1 : (0 : Int) ≤ (k : Int) := by omega
                have k2 : (k : Int) < (L.length : Int) := by omega
                have wk1 : IntKind.i64.wrap ((k : Int) + 1) = (k : Int) + 1 := IntWalk.i64_in _ (by omega)
                obtain ⟨gl, ol, ua, uc, hal, hgl, f0, _, hnk, _⟩ := (HALL.out.below HB48.out).atL hkl rfl
                subst hal
                have q1 := fun d os => cell_regrown f0 d os
                have sk := HSM.out L[k] (List.getElem_mem _)
                have HNK := Lib.hid hnk
                have HSK := Lib.hid sk
                clear hnk sk
                by_cases hP : afterP S m L[k]
                · have HPK := Lib.hid hP
                  have HCS := Lib.hid hcs
                  clear hP hcs
                  go_wp2_with fail
                  refine wp_region_quiet_below (by kernel_rfl) (by kernel_rfl) ?_
                  repeat (go_big_quiet_step (fail))
                  refine wpQuiet_nil ?_
                  intro _ hw'
                  obtain ⟨⟨dq, osq⟩, hw''⟩ := hw'
                  subst hw''
                  have HB9 := Lib.hid (HB8.out.trans ((below_regrown wr dq osq).mono HB8.out.size))
                  have b9 := below_regrown wr dq osq
                  generalize Sort.grow (Go.redrawn wr dq) osq = w9 at *
                  have f9 := (b9.cell (block_lt_of_cell f0)).trans f0
                  have hn9 := Row.below HNK.out b9
                  clear q1
                  rcases HCS.out with ⟨rfl, hno9⟩ | ⟨b, rfl, hbk, hbl, hPb, hmin⟩
                  · have HNO := Lib.hid hno9
                    clear hno9 HCS
                    have r1 := fun d os => cell_regrown f9 d os
                    go_wp2_with fail
                    refine wp_region_quiet_below (by kernel_rfl) (by kernel_rfl) ?_
                    repeat (go_big_quiet_step (fail))
                    refine wpQuiet_nil ?_
                    intro _ hw'
                    obtain ⟨⟨dq, osq⟩, hw''⟩ := hw'
                    subst hw''
                    have HB10 := Lib.hid (HB9.out.trans ((below_regrown w9 dq osq).mono HB9.out.size))
                    clear r1 f9 f0
                    go_wp2_with fail
                    exact ⟨⟨k + 1, (k : Int), by omega, by go_num, rfl, .inr ⟨k, rfl, by omega, hkl, HPK.out, fun j hj hjk hPj => by
                      by_cases e : j = k
                      · subst e; exact befV_irrefl _
                      · exact absurd hPj (HNO.out j hj (by omega))⟩, HB10.out⟩, by simp [intOf]; omega⟩
                  · have HPB := Lib.hid hPb
                    have HMIN := Lib.hid hmin
                    obtain ⟨gl', ol', va, vc, hal, _, fb, _, hnb, _⟩ := ((HALL.out.below HB48.out).below b9).atL hbl rfl
                    cases hal
                    have sb := HSM.out L[b] (List.getElem_mem _)
                    have M2 := Lib.hid (fun d os => before_r _ _ L[k] L[b] (Sort.grow (Go.redrawn w9 d) os) (Row.below hn9 (below_regrown w9 d os)) (Row.below hnb (below_regrown w9 d os)) (by rw [HSK.out.2, sb.2]) HSK.out.1 sb.1)
                    have r1 := fun d os => cell_regrown f9 d os
                    have r2 := fun d os => cell_regrown fb d os
                    have b1 : (0 : Int) ≤ (b : Int) := by omega
                    have b2 : (b : Int) < (L.length : Int) := by omega
                    have b3 : ¬ (b : Int) < 0 := by omega
                    have b4 : decide ((b : Int) < 0) = false := decide_eq_false b3
                    clear hPb hmin HCS hn9 hnb sb
                    by_cases hbf : befV L[k] L[b] = true
                    · rw [hbf] at M2
                      have HBF := Lib.hid hbf
                      clear hbf
                      go_wp2_with fail
                      refine wp_region_quiet_below (by kernel_rfl) (by kernel_rfl) ?_
                      repeat (go_big_quiet_step ((go_at_call 70; exact Calls.regrown_of (M2.out _ _))))
                      refine wpQuiet_nil ?_
                      intro _ hw'
                      obtain ⟨⟨dq, osq⟩, hw''⟩ := hw'
                      subst hw''
                      have HB10 := Lib.hid (HB9.out.trans ((below_regrown w9 dq osq).mono HB9.out.size))
                      clear r1 r2 f9 f0 fb M2
                      go_wp2_with fail
                      exact ⟨⟨k + 1, (k : Int), by omega, by go_num, rfl, .inr ⟨k, rfl, by omega, hkl, HPK.out, fun j hj hjk hPj => by
                        by_cases e : j = k
                        · subst e; exact befV_irrefl _
                        · cases hx : befV L[j] L[k] with
                          | false => rfl
                          | true =>
                            have h1 := HMIN.out j hj (by omega) hPj
                            rw [befV_trans hx HBF.out] at h1
                            cases h1⟩, HB10.out⟩, by simp [intOf]; omega⟩
                    · have hbf : befV L[k] L[b] = false := by simpa using hbf
                      rw [hbf] at M2
                      have HBF := Lib.hid hbf
                      clear hbf
                      go_wp2_with fail
                      refine wp_region_quiet_below (by kernel_rfl) (by kernel_rfl) ?_
                      repeat (go_big_quiet_step ((go_at_call 70; exact Calls.regrown_of (M2.out _ _))))
                      refine wpQuiet_nil ?_
                      intro _ hw'
                      obtain ⟨⟨dq, osq⟩, hw''⟩ := hw'
                      subst hw''
                      have HB10 := Lib.hid (HB9.out.trans ((below_regrown w9 dq osq).mono HB9.out.size))
                      clear r1 r2 f9 f0 fb M2
                      go_wp2_with fail
                      exact ⟨⟨k + 1, (b : Int), by omega, by go_num, rfl, .inr ⟨b, rfl, by omega, hbl, HPB.out, fun j hj hjk hPj => by
                        by_cases e : j = k
                        · subst e; exact HBF.out
                        · exact HMIN.out j hj (by omega) hPj⟩, HB10.out⟩, by simp [intOf]; omega⟩
                · exact absurd (fun _ h => absurd h hm0) hP
              · obtain rfl : k = L.length := by omega
                have k2 : ¬ (L.length : Int) < (L.length : Int) := by omega
                rcases hcs with ⟨_, hno9⟩ | ⟨b, rfl, hbk, hbl, hPb, hmin⟩
                · exfalso
                  obtain ⟨j, hj, hP⟩ := pick_some HPM.out HSB.out hlt
                  exact hno9 j hj hj hP
                · have HPK := Lib.hid (pick_law HPM.out HSB.out hlt hbl hPb fun j hj => hmin j hj hj)
                  obtain ⟨gl, ol, va, vc, hal, _, fb, _, _, hdo⟩ := (HALL.out.below HB48.out).atL hbl rfl
                  subst hal
                  obtain ⟨a3, cp3, w9, hr3, ho3, hb3⟩ := app_ch (HOUT.out.below HB8.out) hdo (by rw [List.length_take]; omega) HB48.out.size
                  rw [HPK.out, ← List.take_succ_eq_append_getElem hlt] at hr3 ho3
                  rw [HPK.out] at fb
                  rw [show (S.take (m + 1)).length = m + 1 by rw [List.length_take]; omega] at hr3 ho3
                  have HR3 := Lib.hid hr3
                  have HO9 := Lib.hid ho3
                  have HB9 := Lib.hid (HB48.out.trans hb3)
                  have b1 : (0 : Int) ≤ (b : Int) := by omega
                  have b2 : (b : Int) < (L.length : Int) := by omega
                  clear hr3 ho3 hb3 hdo hPb hmin
                  go_wp2_with (at_builtin; refine wpList_append_run rfl rfl rfl rfl HR3.out ?_)
                  exact ⟨⟨m + 1, by omega, HO9.out, HB9.out⟩, by simp [sliceLen]; omega⟩
        · obtain rfl : m = S.length := by omega
          have n1 : ¬ (S.length : Int) < (L.length : Int) := by omega
          rw [List.take_length] at HOUT
          have HBF := Lib.hid (next HBW.out HB7.out)
          go_wp2_with fail
          go_ret
          exact ⟨.slice oa L.length oc, rfl, by rw [HSS2.out, ← hSLe]; exact HOUT.out.reads, HBF.out⟩
end Go.Proofs.Ytpjllppbpnkemaa

/- Positions, Choices, Lines, Fit of the reference. -/
namespace Go.Proofs.Ytpjllppbpnkemaa
open Go.RowKit Go.Sort Go.Shelf

set_option maxRecDepth 100000 in
set_option maxHeartbeats 4000000 in
theorem positions_r (v : Value) (p : List El) (w : World) (h : Pats w v p) (hpl : p.length ≤ 1000) : Calls Try.prog 21 #[v] w (PosP p w) := by
  have KC := Lib.hid (count_r v p w h)
  have KG := Lib.hid (fun (w1 : World) (hb : Below w.heap.size w w1) => gaps_r _ p w1 (Row.below h hb) hpl)
  have KH := Lib.hid (fun (w1 : World) (hb : Below w.heap.size w w1) (h0 : cntE p = 0) => choices_r _ p w1 (Row.below h hb) h0)
  unfold CntP at KC
  unfold ChsP at KH
  unfold PosP
  obtain ⟨a, cap, rfl⟩ := Row.form2 h
  by_cases h0 : cntE p = 0
  · obtain ⟨hok, hcnt⟩ := cntE_ok h0
    have HPE := Lib.hid (show posE p = if 256 < posSum p then 3 else 0 by unfold posE; rw [if_neg (by rw [h0]; simp)])
    have HPV := Lib.hid (show posV p = if posE p = 0 then posSum p else 0 from rfl)
    have HPS := Lib.hid (show sumTo (ownOf p) (sortL (lexN (gapsV p) [])) = posSum p from sumTo_perm (sortL_perm _))
    have hown := ownOf_in hok
    have HSM := Lib.hid (fun c (hc : c ∈ sortL (lexN (gapsV p) [])) => (lexN_small hok.gaps (sortL_mem hc)).1)
    have HSL := Lib.hid (show (sortL (lexN (gapsV p) [])).length ≤ 64 by rw [sortL_len]; rw [← lexN_count hok.gaps] at hcnt; omega)
    have HH := Lib.hid (fun (w1 : World) (hb : Below w.heap.size w w1) => KH.out w1 hb h0)
    have HOW := Lib.hid (show ownOf p = (p.length : Int) - ((gapsV p).length : Int) from rfl)
    have hgl : (gapsV p).length ≤ 1000 := Nat.le_trans (List.length_filter_le _ _) hpl
    rw [h0] at KC
    have hps := posSum p
    clear h h0 hok hcnt KH
    generalize sortL (lexN (gapsV p) []) = S at *
    generalize posSum p = PS at *
    generalize posE p = PE at *
    generalize posV p = PV at *
    go_enter Try.func21, Try.ntmps21
    go_wp2_with fail
    with_reducible refine KC.out.mono ?_
    rintro e w1 ⟨rfl, hb1⟩
    have HB1 := Lib.hid hb1
    have K1 := Lib.hid (KG.out w1 hb1)
    have wo : IntKind.i64.wrap ((p.length : Int) - ((gapsV p).length : Int)) = ownOf p := by rw [← HOW.out]; exact IntWalk.i64_in _ (by omega)
    clear hb1 KG
    go_wp2_with fail
    with_reducible refine K1.out.mono ?_
    rintro e w2 ⟨gv, rfl, ho, hb2⟩
    have HB2 := Lib.hid (next HB1.out hb2)
    obtain ⟨ga, gc, rfl⟩ := Row.form2 (Row.of_owns ho)
    have K2 := Lib.hid (HH.out w2 HB2.out)
    clear hb2 ho K1 HH
    go_wp2_with fail
    with_reducible refine K2.out.mono ?_
    rintro e w3 ⟨sv, rfl, hs, hb3⟩
    have HB3 := Lib.hid (next HB2.out hb3)
    have HS := Lib.hid hs
    obtain ⟨sa, sc, rfl⟩ := hs.form
    clear hb3 hs K2
    go_wp2_with fail
    generalize ownOf p = ow at *
    go_loopw [7, 9] (fun nv iv wr => ∃ i : Nat, i ≤ S.length ∧ iv = .int .i64 (i : Nat) ∧ nv = .int .i64 (sumTo ow (S.take i)) ∧ w3 = wr) (fun _ iv _ => S.length - (intOf iv).toNat)
    case atStart => exact ⟨0, by omega, rfl, rfl, rfl⟩
    case round =>
      obtain ⟨i, hi, rfl, rfl, rfl⟩ := hrel
      by_cases hlt : i < S.length
      · obtain ⟨g, o, ua, uc, hga, hg, d0, hn⟩ := HS.out.at hlt
        subst hga
        have i1 : (0 : Int) ≤ (i : Int) := by omega
        have i2 : (i : Int) < (S.length : Int) := by omega
        have b4 := HSL.out
        have wi1 : IntKind.i64.wrap ((i : Int) + 1) = (i : Int) + 1 := IntWalk.i64_in _ (by omega)
        have hsm := HSM.out S[i] (List.getElem_mem _)
        have KS := Lib.hid (sum_r _ S[i] w3 hn hsm)
        have b1 := sumTo_in hown (l := S.take i) (fun c hc => HSM.out c (List.mem_of_mem_take hc))
        have b2 := hsm.sum_in S[i].length (Nat.le_refl _)
        rw [List.take_length] at b2
        have b3 := hsm.1
        rw [List.length_take] at b1
        have HST := Lib.hid (show sumTo ow (S.take i) + ow + (S[i]).sum = sumTo ow (S.take (i + 1)) by rw [List.take_succ_eq_append_getElem hlt, sumTo_snoc, Int.add_assoc])
        have w1' : IntKind.i64.wrap (sumTo ow (S.take i) + ow) = sumTo ow (S.take i) + ow := IntWalk.i64_in _ (by omega)
        have w2' : IntKind.i64.wrap (sumTo ow (S.take i) + ow + (S[i]).sum) = sumTo ow (S.take i) + ow + (S[i]).sum := IntWalk.i64_in _ (by omega)
        clear hn hsm b1 b2 b3 b4
        go_wp2_with fail
        with_reducible refine KS.out.mono ?_
        rintro e w4 ⟨rfl, rfl⟩
        go_wp2_with fail
        exact ⟨⟨i + 1, by omega, by go_num, by rw [HST.out], trivial⟩, by simp [intOf]; omega⟩
      · obtain rfl : i = S.length := by omega
        have i2 : ¬ (S.length : Int) < (S.length : Int) := by omega
        rw [List.take_length, HPS.out]
        by_cases q : 256 < PS
        · have HE := Lib.hid (show PE = 3 by rw [HPE.out, if_pos q])
          have HV := Lib.hid (show PV = 0 by rw [HPV.out, if_neg (by rw [HE.out]; decide)])
          go_wp2_with fail
          go_ret2
          exact ⟨by rw [HE.out, HV.out]; rfl, HB3.out⟩
        · have HE := Lib.hid (show PE = 0 by rw [HPE.out, if_neg q])
          have HV := Lib.hid (show PV = PS by rw [HPV.out, if_pos HE.out])
          go_wp2_with fail
          go_ret2
          exact ⟨by rw [HE.out, HV.out]; rfl, HB3.out⟩
  · have HE := Lib.hid (show posE p = cntE p by unfold posE; rw [if_pos h0])
    have HV := Lib.hid (show posV p = 0 by unfold posV; rw [if_neg (by rw [HE.out]; exact h0)])
    have t1 : (cntE p != 0) = true := bne_iff_ne.2 h0
    generalize cntE p = E at *
    generalize cntV p = V at *
    clear h0 h KH
    go_enter Try.func21, Try.ntmps21
    go_wp2_with fail
    with_reducible refine KC.out.mono ?_
    rintro e w2 ⟨rfl, hb2⟩
    have HB2 := Lib.hid hb2
    clear hb2
    go_wp2_with fail
    go_ret2
    exact ⟨by rw [HE.out, HV.out]; rfl, HB2.out⟩
def ChoRP (p : List El) (w : World) (e : Ending) (w' : World) : Prop := ∃ v, e = .returned (.tuple #[v, .int .i64 (posE p)]) ∧ NLists w' v (chosL p) ∧ Below w.heap.size w w'
theorem nlists_nil (w : World) : NLists w (.slice none 0 0) [] := (lists_nil w 0 0).reads
set_option maxRecDepth 100000 in
set_option maxHeartbeats 4000000 in
theorem choicesE_r (v : Value) (p : List El) (w : World) (h : Pats w v p) (hpl : p.length ≤ 1000) : Calls Try.prog 23 #[v] w (ChoRP p w) := by
  have KP := Lib.hid (positions_r v p w h hpl)
  have KH := Lib.hid (fun (w1 : World) (hb : Below w.heap.size w w1) (h0 : cntE p = 0) => choices_r _ p w1 (Row.below h hb) h0)
  unfold PosP at KP
  unfold ChsP at KH
  unfold ChoRP
  obtain ⟨a, cap, rfl⟩ := Row.form2 h
  clear h
  by_cases h0 : posE p = 0
  · have HC := Lib.hid (show chosL p = sortL (lexN (gapsV p) []) from if_pos h0)
    have HH := Lib.hid (fun (w1 : World) (hb : Below w.heap.size w w1) => KH.out w1 hb (posE_ok h0).1)
    rw [h0] at KP
    have HE := Lib.hid h0
    clear h0 KH
    go_enter Try.func23, Try.ntmps23
    go_wp2_with fail
    with_reducible refine KP.out.mono ?_
    rintro e w1 ⟨rfl, hb1⟩
    have HB1 := Lib.hid hb1
    have K2 := Lib.hid (HH.out w1 hb1)
    clear hb1 HH
    go_wp2_with fail
    with_reducible refine K2.out.mono ?_
    rintro e w2 ⟨sv, rfl, hs, hb2⟩
    have HB2 := Lib.hid (next HB1.out hb2)
    have HS := Lib.hid hs
    obtain ⟨sa, sc, rfl⟩ := hs.form
    clear hb2 hs K2
    go_wp2_with fail
    go_ret2
    exact ⟨_, by rw [HE.out]; rfl, by rw [HC.out]; exact HS.out, HB2.out⟩
  · have HC := Lib.hid (chosL_bad h0)
    have t1 : (posE p != 0) = true := bne_iff_ne.2 h0
    rw [HC.out]
    generalize posE p = E at *
    generalize posV p = V at *
    clear h0 KH HC
    go_enter Try.func23, Try.ntmps23
    go_wp2_with fail
    with_reducible refine KP.out.mono ?_
    rintro e w1 ⟨rfl, hb1⟩
    have HB1 := Lib.hid hb1
    clear hb1
    go_wp2_with fail
    go_ret2
    exact ⟨_, rfl, nlists_nil _, HB1.out⟩
set_option maxRecDepth 100000 in
set_option maxHeartbeats 4000000 in
theorem lines_r (v : Value) (p : List El) (w : World) (h : Pats w v p) (hpl : p.length ≤ 1000) : Calls Try.prog 24 #[v] w (LinesP p w) := by
  have KC := Lib.hid (choicesE_r v p w h hpl)
  have HP := Lib.hid h
  obtain ⟨a, cap, rfl⟩ := Row.form2 h
  unfold ChoRP at KC
  unfold LinesP
  clear h
  by_cases h0 : posE p = 0
  · have HE := Lib.hid h0
    rw [h0] at KC
    have HC := Lib.hid (fun c (hc : c ∈ chosL p) => chosL_line hc)
    have hcl := @chos_len p
    have HV := Lib.hid (show linesV p = (chosL p).map (lineL p) from rfl)
    clear h0
    generalize chosL p = l at *
    go_enter Try.func24, Try.ntmps24
    go_wp2_with fail
    with_reducible refine KC.out.mono ?_
    rintro e w1 ⟨cv, rfl, hl, hb1⟩
    have HB1 := Lib.hid hb1
    have HL := Lib.hid hl
    obtain ⟨ca, cc, rfl⟩ := hl.form
    have hs1 := hb1.size
    clear hb1 hl
    go_wp2_with fail
    go_loopw [6, 7] (fun ov iv wr => ∃ (i : Nat) (ow : Value), ow = ov ∧ i ≤ l.length ∧ iv = .int .i64 (i : Nat) ∧ LLs wr w1.heap.size ow ((l.map (lineL p)).take i) ∧ Below w1.heap.size w1 wr) (fun _ iv _ => l.length - (intOf iv).toNat)
    case atStart => exact ⟨0, _, rfl, by omega, rfl, lls_nil _ _, Below.refl _ _⟩
    case round =>
      obtain ⟨i, ow, rfl, hi, rfl, hown, hB⟩ := hrel
      have HB := Lib.hid hB
      have HO := Lib.hid hown
      have HBW := Lib.hid (next HB1.out hB)
      clear hown hB
      by_cases hlt : i < l.length
      · obtain ⟨g, o, ua, uc, hga, hg, hcell, hnum⟩ := (HL.out.below HB.out).at hlt
        subst hga
        have i1 : (0 : Int) ≤ (i : Int) := by omega
        have i2 : (i : Int) < (l.length : Int) := by omega
        have wi1 : IntKind.i64.wrap ((i : Int) + 1) = (i : Int) + 1 := IntWalk.i64_in _ (by omega)
        have hE := HC.out l[i] (List.getElem_mem _)
        have KL := Lib.hid (line_r (.slice a p.length cap) ua uc p l[i] wr (Row.below HP.out HBW.out) hnum hpl)
        unfold LineP at KL
        rw [hE, lineV_ok hE] at KL
        have HTK := Lib.hid (show (l.map (lineL p)).take (i + 1) = (l.map (lineL p)).take i ++ [lineL p l[i]] by rw [List.take_succ_eq_append_getElem (by simpa using hlt), List.getElem_map])
        clear hE hnum
        go_wp2_with fail
        with_reducible refine KL.out.mono ?_
        rintro e w3 ⟨lv, rfl, ho3, hb3⟩
        obtain ⟨vs, hv1, hv2⟩ := HO.out
        obtain ⟨la, lc, rfl, _⟩ := own_form ho3
        have HB3 := Lib.hid (HB.out.trans (hb3.mono HB.out.size))
        obtain ⟨oa, oc, w4, hra, hla, hb4⟩ := app_line (ownsRow_below hv1 hb3) (hv2.below hb3) (ownsRow_base ho3 HB.out.size) (by rw [List.length_take]; omega) HB3.out.size
        rw [← HTK.out] at hra hla
        generalize Value.slice oa _ oc = va at hra hla
        have HRA := Lib.hid hra
        have HLA := Lib.hid hla
        have HB4 := Lib.hid (HB3.out.trans hb4)
        clear ho3 hb3 hra hla hb4 hv1 hv2 KL
        go_wp2_with (at_builtin; refine wpList_append_run rfl rfl rfl rfl HRA.out ?_)
        exact ⟨⟨i + 1, _, rfl, by omega, by go_num, HLA.out, HB4.out⟩, by simp [intOf] <;> omega⟩
      · obtain rfl : i = l.length := by omega
        rw [List.take_of_length_le (by simp)] at HO
        have i2 : ¬ (l.length : Int) < (l.length : Int) := by omega
        go_wp2_with fail
        go_ret2
        refine ⟨_, by rw [HE.out]; rfl, ?_, HBW.out⟩
        rw [HV.out]
        obtain ⟨vs, q1, q2, q3⟩ := HO.out
        exact ⟨vs, ownsRow_base q1 hs1, q2, fun j x y => ownsRow_base (q3 j x y) hs1⟩
  · have hc : linesV p = [] := by unfold linesV; rw [chosL_bad h0]; rfl
    have t1 : (posE p != 0) = true := bne_iff_ne.2 h0
    rw [hc]
    generalize posE p = E at *
    generalize chosL p = l at *
    clear h0 hc
    go_enter Try.func24, Try.ntmps24
    go_wp2_with fail
    with_reducible refine KC.out.mono ?_
    rintro e w1 ⟨cv, rfl, hl, hb1⟩
    have HB1 := Lib.hid hb1
    obtain ⟨ca, cc, rfl⟩ := hl.form
    clear hb1 hl
    go_wp2_with fail
    go_ret2
    exact ⟨_, rfl, lls_nil _ _, HB1.out⟩
set_option maxRecDepth 100000 in
set_option maxHeartbeats 8000000 in
theorem fit_r (v : Value) (L : List (List El)) (w : World) (h : Sets w v L) (hL : L.length ≤ 1000) (hpl : ∀ p ∈ L, p.length ≤ 1000) : Calls Try.prog 31 #[v] w (FitP L w) := by
  have HP := Lib.hid h
  obtain ⟨a, cap, rfl⟩ := h.form
  clear h
  unfold FitP
  have HV := Lib.hid (show fitV L = if (firstN (posI L) 0 L.length).2 ≠ 0 then firstN (posI L) 0 L.length else if 16 < L.length ∨ 256 < psum L then ((L.length : Int), 3) else (0, 0) from rfl)
  generalize fitV L = V at *
  go_enter Try.func31, Try.ntmps31
  go_wp2_with fail
  go_loopw [4, 5] (fun nv iv wr => ∃ i : Nat, i ≤ L.length ∧ iv = .int .i64 (i : Nat) ∧ nv = .int .i64 (psum (L.take i)) ∧ firstN (posI L) 0 L.length = firstN (posI L) i (L.length - i) ∧ Below w.heap.size w wr) (fun _ iv _ => L.length - (intOf iv).toNat)
  case atStart => exact ⟨0, by omega, rfl, by simp [psum], rfl, Below.refl _ _⟩
  case round =>
    obtain ⟨i, hi, rfl, rfl, hf, hB⟩ := hrel
    have HF := Lib.hid hf
    have HB := Lib.hid hB
    clear hf hB
    by_cases hlt : i < L.length
    · obtain ⟨g, o, pa, pc, hga, hg, d0, hp⟩ := (HP.out.below HB.out).at hlt
      subst hga
      have i1 : (0 : Int) ≤ (i : Int) := by omega
      have i2 : (i : Int) < (L.length : Int) := by omega
      have wi1 : IntKind.i64.wrap ((i : Int) + 1) = (i : Int) + 1 := IntWalk.i64_in _ (by omega)
      have K := Lib.hid (positions_r _ _ wr hp (hpl _ (List.getElem_mem _)))
      unfold PosP at K
      have HE := Lib.hid (posI_at hlt)
      have HS := Lib.hid (psum_step hlt)
      by_cases hz : posE L[i] = 0
      · have ON := Lib.hid (show firstN (posI L) 0 L.length = firstN (posI L) (i + 1) (L.length - (i + 1)) by rw [HF.out, show L.length - i = L.length - (i + 1) + 1 by omega, firstN_step (by rw [HE.out]; exact hz)])
        rw [hz] at K
        have b1 := psum_in L i
        have b2 := posV_in L[i]
        have ws : IntKind.i64.wrap (psum (L.take i) + posV L[i]) = psum (L.take i) + posV L[i] := IntWalk.i64_in _ (by omega)
        clear hz hp b1 b2
        go_wp2_with fail
        with_reducible refine K.out.mono ?_
        rintro e w1 ⟨rfl, hb1⟩
        have HB1 := Lib.hid (next HB.out hb1)
        clear hb1
        go_wp2_with fail
        exact ⟨⟨i + 1, by omega, by go_num, by rw [HS.out], ON.out, HB1.out⟩, by simp [intOf] <;> omega⟩
      · have HH := Lib.hid (show V = ((i : Int), posE L[i]) by
          have e1 : firstN (posI L) 0 L.length = ((i : Int), posE L[i]) := by rw [HF.out, show L.length - i = L.length - i - 1 + 1 by omega, firstN_hit (by rw [HE.out]; exact hz), HE.out]
          rw [HV.out, if_pos (by rw [e1]; exact hz), e1])
        have t1 : (posE L[i] != 0) = true := bne_iff_ne.2 hz
        clear hz hp HE
        generalize posE L[i] = E at *
        go_wp2_with fail
        with_reducible refine K.out.mono ?_
        rintro e w1 ⟨rfl, hb1⟩
        have HB1 := Lib.hid (next HB.out hb1)
        clear hb1
        go_wp2_with fail
        go_ret2
        exact ⟨by rw [HH.out]; rfl, HB1.out⟩
    · obtain rfl : i = L.length := by omega
      have i2 : ¬ (L.length : Int) < (L.length : Int) := by omega
      have HS := Lib.hid (show psum (L.take L.length) = psum L by rw [List.take_length])
      rw [HS.out]
      have hf0 : ¬ (firstN (posI L) 0 L.length).2 ≠ 0 := by rw [HF.out, Nat.sub_self]; simp [firstN]
      have HV2 := HV.out
      rw [if_neg hf0] at HV2
      have HV2 := Lib.hid HV2
      clear hf0
      by_cases q1 : (16 : Int) < (L.length : Int)
      · have HV3 := Lib.hid (show V = ((L.length : Int), 3) by rw [HV2.out, if_pos (.inl (by omega))])
        go_wp2_with fail
        go_ret2
        exact ⟨by first | rfl | (rw [HV3.out]; rfl), HB.out⟩
      · have q1d : decide ((16 : Int) < (L.length : Int)) = false := decide_eq_false q1
        by_cases q2 : 256 < psum L
        · have HV3 := Lib.hid (show V = ((L.length : Int), 3) by rw [HV2.out, if_pos (.inr q2)])
          go_wp2_with fail
          go_ret2
          exact ⟨by first | rfl | (rw [HV3.out]; rfl), HB.out⟩
        · have HV3 := Lib.hid (show V = (0, 0) by rw [HV2.out, if_neg (by omega)])
          go_wp2_with fail
          go_ret2
          exact ⟨by first | rfl | (rw [HV3.out]; rfl), HB.out⟩
end Go.Proofs.Ytpjllppbpnkemaa
