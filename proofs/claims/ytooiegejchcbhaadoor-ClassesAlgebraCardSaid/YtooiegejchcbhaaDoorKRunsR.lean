/- The reference's Runs. -/
import Derived.Test.YtooiegejchcbhaaDoorKPairs
import Derived.Deep.AppendLies
import Derived.IntWalk
namespace Go.Proofs.YtooiegejchcbhaaDoor
open Go.RowKit

/-- one byte more: it makes the last run longer, or begins one -/
def stepR (acc : List Pr) (b : Nat) : List Pr :=
  match acc.getLast? with
  | some x => if x.2 + 1 = b then acc.dropLast ++ [(x.1, b)] else acc ++ [(b, b)]
  | none => [(b, b)]
def runsL (l : List Nat) : List Pr := l.foldl stepR []
theorem runsL_snoc (l : List Nat) (b : Nat) : runsL (l ++ [b]) = stepR (runsL l) b := by unfold runsL; rw [List.foldl_append]; rfl
theorem step_nil (b : Nat) : stepR [] b = [(b, b)] := rfl
theorem step_join (A : List Pr) (x y b : Nat) (h : y + 1 = b) : stepR (A ++ [(x, y)]) b = A ++ [(x, b)] := by
  unfold stepR
  simp [h]
theorem step_new (A : List Pr) (x y b : Nat) (h : ¬ y + 1 = b) : stepR (A ++ [(x, y)]) b = A ++ [(x, y)] ++ [(b, b)] := by
  unfold stepR
  simp [h]
theorem step_last (acc : List Pr) (b : Nat) : ∃ A x, stepR acc b = A ++ [(x, b)] := by
  rcases List.eq_nil_or_concat acc with rfl | ⟨A, ⟨x, y⟩, rfl⟩
  · exact ⟨[], b, rfl⟩
  · rw [List.concat_eq_append]
    by_cases h : y + 1 = b
    · exact ⟨A, x, step_join A x y b h⟩
    · exact ⟨A ++ [(x, y)], b, step_new A x y b h⟩
theorem runs_last {l : List Nat} {i : Nat} (hi : i < l.length) : ∃ A x, runsL (l.take (i + 1)) = A ++ [(x, l[i])] := by
  rw [List.take_succ_eq_append_getElem hi, runsL_snoc]
  exact step_last _ _
theorem runs_len (l : List Nat) : (runsL l).length ≤ l.length := by
  have key : ∀ (l : List Nat) (acc : List Pr), (l.foldl stepR acc).length ≤ acc.length + l.length := by
    intro l
    induction l with
    | nil => intro acc; simp
    | cons b t ih =>
      intro acc
      rw [List.foldl_cons]
      have h1 := ih (stepR acc b)
      have h2 : (stepR acc b).length ≤ acc.length + 1 := by
        rcases List.eq_nil_or_concat acc with rfl | ⟨A, ⟨x, y⟩, rfl⟩
        · simp [stepR]
        · rw [List.concat_eq_append]
          by_cases h : y + 1 = b
          · rw [step_join A x y b h]; simp
          · rw [step_new A x y b h]; simp
      rw [List.length_cons]
      omega
  have := key l []
  simpa [runsL] using this
theorem items_lt (s : CSet) {i : Nat} (hi : i < (itemsTo s 256).length) : (itemsTo s 256)[i] < 256 := by
  have := List.getElem_mem hi
  unfold itemsTo at this ⊢
  exact List.mem_range.1 (List.mem_filter.1 this).1
theorem items_sorted (s : CSet) (n : Nat) : (itemsTo s n).Pairwise (· < ·) := by
  unfold itemsTo
  exact List.Pairwise.filter _ List.pairwise_lt_range
theorem items_next (s : CSet) {i : Nat} (hi : i + 1 < (itemsTo s 256).length) : (itemsTo s 256)[i] < (itemsTo s 256)[i + 1] := by
  have := List.pairwise_iff_getElem.1 (items_sorted s 256) i (i + 1) (by omega) hi (by omega)
  exact this
def runsS (s : CSet) : List Pr := runsL (itemsTo s 256)

set_option maxRecDepth 100000 in
set_option maxHeartbeats 4000000 in
theorem runs_r (s : CSet) (w : World) : Calls Tryd.prog 39 #[setV s] w fun e w' => ∃ v, e = .returned v ∧ w'.ownsRow w.heap.size 32 2 v (runsS s).length (pcells (runsS s)) ∧ Below w.heap.size w w' := by
  have HB := Lib.hid ((Below.refl w.heap.size w).alloc (Nat.le_refl _) (.cells (setC s) 24))
  have M := Lib.hid (fun w => list_r s w)
  have HLU := Lib.hid (ucells_list s)
  have hlen : (listS s).length = (itemsTo s 256).length := by simp [listS, listTo, itemsTo]
  have HLEN := Lib.hid hlen
  have hmx := items_le s 256
  obtain ⟨ti, hi, hz0, hz1, hz2⟩ := info_parts infoPr
  clear hlen
  unfold setV setC at *
  go_enter Tryd.func39, Tryd.ntmps39
  go_wp2_with fail
  refine (M.out _).mono ?_
  rintro e w1 ⟨v, rfl, h1, h2⟩
  rw [← HLU.out, HLEN.out] at h1
  have hrow : Row w1 1 v (itemsTo s 256).length (ucells (itemsTo s 256)) := Row.of_owns h1
  obtain ⟨a, cap, rfl⟩ := Row.form2 hrow
  have HROW := Lib.hid hrow
  have HB1 := Lib.hid (next HB.out h2)
  obtain ⟨l, hl⟩ : ∃ l, l = itemsTo s 256 := ⟨_, rfl⟩
  have hl256 : ∀ i (h : i < l.length), l[i] < 256 := fun i h => by subst hl; exact items_lt s h
  have hnx : ∀ i (h : i + 1 < l.length), l[i] < l[i + 1] := fun i h => by subst hl; exact items_next s h
  have HRS := Lib.hid (show runsS s = runsL l by rw [hl]; rfl)
  have HL256 := Lib.hid hl256
  have HNX := Lib.hid hnx
  rw [← hl] at HROW hmx ⊢
  clear h1 h2 hrow hl hl256 hnx HLU HLEN
  go_wp2_with fail
  go_loopw [3, 5] (fun ov iv wr => ∃ (i : Nat) (o : Value), o = ov ∧ i ≤ l.length ∧ iv = .int .i64 (i : Nat) ∧ wr.ownsRow w1.heap.size 32 2 o (runsL (l.take i)).length (pcells (runsL (l.take i))) ∧ Below w1.heap.size w1 wr) (fun _ iv _ => l.length - (intOf iv).toNat)
  case atStart => exact ⟨0, _, rfl, by omega, rfl, World.ownsRow_nil _ _ _ _, Below.refl _ _⟩
  case round =>
    obtain ⟨i, o, rfl, hi', rfl, hO, hB⟩ := hrel
    have HO := Lib.hid hO
    have HBi := Lib.hid hB
    have i0 : (0 : Int) ≤ (i : Int) := by omega
    by_cases hlt : i < l.length
    · have i1 : (i : Int) < (l.length : Int) := by omega
      have hrl := runs_len (l.take i)
      have hrl2 : (runsL (l.take i)).length ≤ 256 := by rw [List.length_take] at hrl; omega
      obtain ⟨g1, o1, cap1, e1, hg1, hc1⟩ := Row.cellAt2 HROW.out hlt (by omega)
      cases e1
      have hcx := hc1 0 (by omega)
      rw [Nat.mul_one, Nat.add_zero, Nat.add_zero, show (ucells l)[i]? = some (.int .u8 (l[i] : Int)) by simp [ucells, hlt]] at hcx
      have hcx' := (hB.cell (p := ⟨g1, o1 + i, none⟩) hg1).trans hcx
      have HCX := Lib.hid (And.intro hg1 hcx)
      have hc2 := Lib.hid (show ∀ (k : Nat) (hk : k < l.length), w1.cell? ⟨g1, o1 + k, none⟩ = some (.int .u8 (l[k] : Int)) from fun k hk => by
        obtain ⟨g2, o2, cap2, e2, hg2, hc2⟩ := Row.cellAt2 HROW.out hk (by omega)
        cases e2
        have := hc2 0 (by omega)
        rw [Nat.mul_one, Nat.add_zero, Nat.add_zero, show (ucells l)[k]? = some (.int .u8 (l[k] : Int)) by simp [ucells, hk]] at this
        exact this)
      have hx256 := HL256.out i hlt
      have HSN := Lib.hid (show runsL (l.take (i + 1)) = stepR (runsL (l.take i)) l[i] by rw [List.take_succ_eq_append_getElem hlt, runsL_snoc])
      have hbz := hB.size
      have ano : o.ownBlock ≠ some g1 := fun h => by have := (HO.out.lt _ h).1; omega
      by_cases h0 : i = 0
      · have HE := Lib.hid (show runsL (l.take (i + 1)) = runsL (l.take i) ++ [(l[i], l[i])] by
          subst h0
          rw [HSN.out]; rfl)
        have t0 : decide ((0 : Int) < (i : Int)) = false := decide_eq_false (by omega)
        have t0n : decide (0 < i) = false := decide_eq_false (by omega)
        generalize l[i] = x at *
        clear hc1 hcx hO hB hrl h0
        go_wp2_with fail
        go_quiet (fail)
        go_wp2_with fail
        go_region_held3 (fun w' => w'.cell? ⟨g1, o1 + i, none⟩ = some (.int .u8 (x : Int)))
          (first
            | go_keep
            | ((rw [hgrow.cell_far _ (by simp; omega) (Ne.symm ano)]; assumption)))
          ((refine step_append_lies _ (by rfl) _ _ _ (by rfl) w1.heap.size 32 ti _ 2 2 Tryd.underlying30 hi hz0 hz1 hz2 rfl (by omega) o _ _ (by rfl) ((HO.out.alloc _).drew)
              ⟨wr.heap.size, 0, none⟩ 1 1 [.int .u8 (x : Int), .int .u8 (x : Int)] (by rfl) (by rfl) (World.news_of_block (cs := #[.int .u8 (x : Int), .int .u8 (x : Int)]) (t := 32) (fr := (0, 0)) (heap_alloc_new wr _)) (by simp [Value.oneCell'])
              (by omega) (by unfold maxLen; omega) (by omega) (by simp; omega) (wr.heap.size + 1) (by simp) ?_; intro gg cap2 w2 hown1 hgrow hat hlt2))
        have HO9 := Lib.hid hown1
        have HB9 := Lib.hid (((below_drewN HBi.out _).alloc (by simpa using hbz) _).grown hgrow (by simp; omega) (fun q e => (HO.out.lt q e).1))
        clear hown1 hgrow hat ano
        go_wp2_with fail
        exact ⟨⟨i + 1, _, rfl, by omega, by go_num, by rw [HE.out, List.length_append, pcells_append]; exact HO9.out, HB9.out⟩, by simp [intOf]; omega⟩
      · obtain ⟨k, rfl⟩ : ∃ k, i = k + 1 := ⟨i - 1, by omega⟩
        have hk : k < l.length := by omega
        obtain ⟨A, p, hA⟩ := runs_last hk
        have hlt2 := HNX.out k hlt
        have hcy := hc2.out k hk
        have hcy' := (hB.cell (p := ⟨g1, o1 + k, none⟩) hg1).trans hcy
        have t0 : decide ((0 : Int) < (k : Int) + 1) = true := decide_eq_true (by omega)
        have t0n : decide (0 < k + 1) = true := decide_eq_true (by omega)
        generalize l[k + 1] = x at *
        generalize l[k] = y at *
        have k0 : (0 : Int) ≤ (k : Int) := by omega
        have k1 : (k : Int) < (l.length : Int) := by omega
        have k2 : (0 : Int) ≤ (k : Int) + 1 := by omega
        have k3 : (k : Int) + 1 < (l.length : Int) := by omega
        have e1 : IntKind.i64.wrap ((k : Int) + 1 - 1) = (k : Int) := by rw [show (k : Int) + 1 - 1 = (k : Int) by omega]; exact IntWalk.i64_in _ (by omega)
        have y1 : (y : Int) + 1 ≤ 255 := by omega
        have ey : IntKind.u8.wrap ((y : Int) + 1) = (y : Int) + 1 := by rw [IntKind.wrap_u8]; omega
        have hlen : (runsL (l.take (k + 1))).length = A.length + 1 := by rw [hA]; simp
        have hA256 : A.length + 1 ≤ 256 := by omega
        by_cases hj : y + 1 = x
        · have t1 : ((x : Int) == (y : Int) + 1) = true := beq_iff_eq.2 (by omega)
          have hO2 := HO.out
          rw [hlen, hA] at hO2
          obtain ⟨g, cap2, rfl, hg, hgs, hcl, hfz, hput⟩ := own_put hO2 (k := A.length * 2 + 1) (by omega)
          have hpc := (pcells_at (A ++ [(p, y)]) A.length (by simp)).2
          rw [hpc] at hcl
          simp only [List.getElem_concat_length] at hcl
          have HE := Lib.hid (show runsL (l.take (k + 1 + 1)) = A ++ [(p, x)] by rw [HSN.out, hA, step_join A p y x hj])
          have HPUT := Lib.hid (hput (.int .u8 (x : Int)))
          have a0 : (0 : Int) ≤ (A.length : Int) := by omega
          have a1 : (A.length : Int) < (A.length : Int) + 1 := by omega
          have e2 : IntKind.i64.wrap ((A.length : Int) + 1 - 1) = (A.length : Int) := by rw [show (A.length : Int) + 1 - 1 = (A.length : Int) by omega]; exact IntWalk.i64_in _ (by omega)
          clear hc1 hcx hO hB hrl h0 hj hcy hO2 hput hpc hlen hA HO
          go_wp2_with fail
          go_quiet (fail)
          go_wp2_with fail
          go_region
          clear e2 e1
          go_wp2_with fail
          refine ⟨⟨k + 1 + 1, _, rfl, by omega, by go_num, ?_, (below_drewN HBi.out _).setCell (p := ⟨g, A.length * 2 + 1, none⟩) hg _⟩, by simp [intOf]; omega⟩
          have := HPUT.out
          rw [pcells_last] at this
          rw [HE.out, List.length_append]
          exact this
        · have t1 : ((x : Int) == (y : Int) + 1) = false := beq_eq_false_iff_ne.2 (by omega)
          have HE := Lib.hid (show runsL (l.take (k + 1 + 1)) = runsL (l.take (k + 1)) ++ [(x, x)] by rw [HSN.out, hA, step_new A p y x hj])
          clear hc1 hcx hO hB hrl h0 hj hcy hlen hA
          go_wp2_with fail
          go_quiet (fail)
          clear e1 ey
          go_wp2_with fail
          go_region_held3 (fun w' => w'.cell? ⟨g1, o1 + (k + 1), none⟩ = some (.int .u8 (x : Int)))
            (first
              | go_keep
              | ((rw [hgrow.cell_far _ (by simp; omega) (Ne.symm ano)]; assumption)))
            ((refine step_append_lies _ (by rfl) _ _ _ (by rfl) w1.heap.size 32 ti _ 2 2 Tryd.underlying30 hi hz0 hz1 hz2 rfl (by omega) o _ _ (by rfl) ((HO.out.alloc _).drew)
                ⟨wr.heap.size, 0, none⟩ 1 1 [.int .u8 (x : Int), .int .u8 (x : Int)] (by rfl) (by rfl) (World.news_of_block (cs := #[.int .u8 (x : Int), .int .u8 (x : Int)]) (t := 32) (fr := (0, 0)) (heap_alloc_new wr _)) (by simp [Value.oneCell'])
                (by omega) (by unfold maxLen; omega) (by omega) (by simp; omega) (wr.heap.size + 1) (by simp) ?_; intro gg cap2 w2 hown1 hgrow hat hlt2))
          have HO9 := Lib.hid hown1
          have HB9 := Lib.hid (((below_drewN HBi.out _).alloc (by simpa using hbz) _).grown hgrow (by simp; omega) (fun q e => (HO.out.lt q e).1))
          clear hown1 hgrow hat ano
          go_wp2_with fail
          exact ⟨⟨k + 1 + 1, _, rfl, by omega, by go_num, by rw [HE.out, List.length_append, pcells_append]; exact HO9.out, HB9.out⟩, by simp [intOf]; omega⟩
    · obtain rfl : i = l.length := by omega
      have i1 : ¬ (l.length : Int) < (l.length : Int) := by omega
      rw [List.take_length] at HO
      clear hO hB
      go_wp2_with fail
      go_ret
      refine ⟨_, rfl, ?_, next HB1.out HBi.out⟩
      rw [HRS.out]
      exact ownsRow_base HO.out (by have := HB1.out.size; omega)
end Go.Proofs.YtooiegejchcbhaaDoor
