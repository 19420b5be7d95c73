/- Layer 27: Split of the reference: the same parts. -/
import Derived.Test.YtfmngphmmhjicaaBlkSplit
namespace Go.Proofs.Ytfmngphmmhjicaa
open Go.RowKit

theorem split_r_bad (cs : List UInt8) (b before : Int) (w : World) (h : splitE cs.length b before ≠ 0) :
    Calls Try.prog 11 #[.string (str cs), .int .i64 b, .int .i64 before] w fun e w' =>
      e = .returned (.tuple #[.slice none 0 0, .int .i64 (splitE cs.length b before)]) ∧ Below w.heap.size w w' := by
  have hc := length_r cs.length b
  have hsz : (str cs).size = cs.length := size_str cs
  by_cases h1 : lenE cs.length b = 0
  · have hb : before < 0 ∨ 1000000 < before := by
      unfold splitE at h; rw [if_pos h1] at h
      by_cases g : before < 0 ∨ 1000000 < before
      · exact g
      · rw [if_neg g] at h; exact absurd rfl h
    have e1 : splitE cs.length b before = 7 := by unfold splitE; rw [if_pos h1, if_pos hb]
    rw [e1]
    rw [h1] at hc
    clear h h1 e1
    rcases hb with hb | hb
    · go_enter Try.func11, Try.ntmps11
      go_wp2_with (go_at_call 24; refine (hc _).mono ?_; rintro e w' ⟨rfl, rfl⟩)
      go_ret2
      exact ⟨rfl, Below.refl _ _⟩
    · have hb' : ¬ before < 0 := by omega
      go_enter Try.func11, Try.ntmps11
      go_wp2_with (go_at_call 24; refine (hc _).mono ?_; rintro e w' ⟨rfl, rfl⟩)
      go_ret2
      exact ⟨rfl, Below.refl _ _⟩
  · have e1 : splitE cs.length b before = lenE cs.length b := by unfold splitE; rw [if_neg h1]
    rw [e1]
    clear h e1
    generalize lenE cs.length b = x at *
    have he : (x != 0) = true := bne_iff_ne.2 h1
    clear h1
    go_enter Try.func11, Try.ntmps11
    go_wp2_with (go_at_call 24; refine (hc _).mono ?_; rintro e w' ⟨rfl, rfl⟩)
    go_ret2
    exact ⟨rfl, Below.refl _ _⟩

/-- the first j bytes of the block from a place on, with zeros behind the end -/
def bytesTo (cs : List UInt8) (from' j : Nat) : List UInt8 := (List.range j).map fun i => cs.getD (from' + i) 0
theorem bytesTo_succ (cs : List UInt8) (from' j : Nat) : bytesTo cs from' (j + 1) = bytesTo cs from' j ++ [cs.getD (from' + j) 0] := by simp [bytesTo, List.range_succ]
theorem bytesTo_all (cs : List UInt8) (from' b : Nat) : bytesTo cs from' b = padTo b (cs.drop from') := by
  apply List.ext_getElem
  · rw [length_padTo]; simp [bytesTo]
  · intro i h1 h2
    simp only [bytesTo, List.length_map, List.length_range] at h1
    simp only [bytesTo, padTo, List.getElem_map, List.getElem_range, List.getElem_append, List.length_take, List.length_drop, List.getElem_take, List.getElem_drop, List.getElem_replicate]
    split
    · rw [List.getD_eq_getElem?_getD, List.getElem?_eq_getElem (by omega)]; rfl
    · rw [List.getD_eq_getElem?_getD, List.getElem?_eq_none (by omega)]; rfl

theorem getD_str {cs : List UInt8} {i : Nat} (h : i < cs.length) {g : i < (str cs).size} : (str cs)[i] = cs.getD i 0 := by
  rw [List.getD_eq_getElem?_getD, List.getElem?_eq_getElem h]
  rfl
theorem getD_none {cs : List UInt8} {i : Nat} (h : cs.length ≤ i) : cs.getD i 0 = 0 := by
  rw [List.getD_eq_getElem?_getD, List.getElem?_eq_none h]; rfl

/-- the parts of the first k blocks -/
def upTo (cs : List UInt8) (b : Nat) (before : Int) (k : Nat) : List Part := (List.range k).map fun i => ((item cs b i).1, ((item cs b i).2 : Int), before + (i * b : Nat))
theorem upTo_succ (cs : List UInt8) (b : Nat) (before : Int) (k : Nat) : upTo cs b before (k + 1) = upTo cs b before k ++ [((item cs b k).1, ((item cs b k).2 : Int), before + (k * b : Nat))] := by simp [upTo, List.range_succ]
theorem reals_items (cs : List UInt8) (b : Nat) : ∀ k, reals ((List.range k).map (item cs b)) = min (k * b) cs.length := by
  intro k
  induction k with
  | zero => simp [reals]
  | succ k ih =>
    rw [List.range_succ, List.map_append, List.map_singleton, reals_snoc, ih, Nat.add_mul]
    simp only [item]
    omega
theorem mk_upTo (cs : List UInt8) (b : Nat) (before : Int) (k : Nat) (h : ∀ j, j < k → j * b ≤ cs.length) : mkParts before ((List.range k).map (item cs b)) = upTo cs b before k := by
  induction k with
  | zero => rfl
  | succ k ih =>
    rw [List.range_succ, List.map_append, List.map_singleton, mkParts_snoc, ih (fun j hj => h j (by omega)), upTo_succ, reals_items]
    rw [Nat.min_eq_left (h k (by omega))]
theorem parts_upTo {cs : List UInt8} {b : Nat} {before : Int} (hb : 1 ≤ b) : mkParts before (items cs b) = upTo cs b before ((cs.length + b - 1) / b) := by
  refine mk_upTo cs b before _ fun j hj => ?_
  rw [Nat.lt_div_iff_mul_lt (by omega)] at hj
  omega

set_option maxRecDepth 100000 in
set_option maxHeartbeats 2000000 in
theorem split_r_ok (cs : List UInt8) (b : Nat) (before : Int) (w : World) (h1 : lenE cs.length b = 0) (h2 : 0 ≤ before) (h3 : before ≤ 1000000) :
    Calls Try.prog 11 #[.string (str cs), .int .i64 b, .int .i64 before] w fun e w' =>
      ∃ v, e = .returned (.tuple #[v, .int .i64 0]) ∧ w'.ownsRow w.heap.size 36 3 v (items cs b).length (pcells (mkParts before (items cs b))) ∧ Below w.heap.size w w' := by
  obtain ⟨hok, hn0, hlen⟩ := lenE_zero h1
  have hbb : 1 ≤ b ∧ b ≤ 16 := by rcases okB_cases hok with h | h | h | h | h <;> omega
  obtain ⟨hb1, hb2⟩ := hbb
  obtain ⟨i0, hi, hz0, hz1, hz2⟩ := info_parts infoPart
  have hc := length_r cs.length b
  rw [h1] at hc
  have hsz : (str cs).size = cs.length := size_str cs
  clear h1 hok
  have hcv := fun w g x h => run_byte_str (P := Try.prog) 43 9 5 Try.underlying43 Try.underlying5 Try.underlying9 w g x h
  have hcz := fun w g h => run_zero_str (P := Try.prog) 43 9 5 Try.underlying43 Try.underlying5 Try.underlying9 w g h
  go_enter Try.func11, Try.ntmps11
  go_wp2_with (go_at_call 24; refine (hc _).mono ?_; rintro e w' ⟨rfl, rfl⟩)
  go_loopw [9, 10] (fun v f wr => ∃ k : Nat, k * b ≤ cs.length + b - 1 ∧ f = .int .i64 (k * b : Nat) ∧ wr.ownsRow w.heap.size 36 3 v k (pcells (upTo cs b before k)) ∧ Below w.heap.size w wr) (fun _ f _ => cs.length + b - (intOf f).toNat)
  case atStart => exact ⟨0, by omega, by simp, by simpa [upTo, pcells] using World.ownsRow_nil w _ _ _, Below.refl _ _⟩
  case round =>
    obtain ⟨k, hk, rfl, hrow, hB⟩ := hrel
    obtain ⟨F, hF⟩ : ∃ F, F = k * b := ⟨_, rfl⟩
    have HF := Lib.hid hF
    rw [← hF] at hk ⊢
    clear hF
    have hkF : k ≤ F := by rw [HF.out]; exact Nat.le_mul_of_pos_right k (by omega)
    have hss := size_str
    obtain ⟨wo, rfl⟩ : ∃ wo : World, wo = wr := ⟨_, rfl⟩
    by_cases hlt : F < cs.length
    · go_wp2_with fail
      go_loopw [12] (fun i w2 => ∃ j : Nat, j ≤ b ∧ i = .int .i64 (j : Nat) ∧ w2.heap[wo.heap.size]? = some (.cells #[.string (str (bytesTo cs F j)), .int .i64 (min j (cs.length - F) : Nat), .int .i64 (before + (F : Nat))] 36) ∧ Below wo.heap.size wo w2) (fun i _ => b - (intOf i).toNat)
      case atStart => exact ⟨0, by omega, rfl, by simpa [bytesTo, str] using heap_alloc_new wo _, (Below.refl _ _).alloc (Nat.le_refl _) _⟩
      case round =>
        obtain ⟨j, hj, rfl, hx, hB2⟩ := hrel
        have c0 : wr.cell? ⟨wo.heap.size, 0, none⟩ = some (.string (str (bytesTo cs F j))) := by simp [World.cell?, hx]
        have c1 : wr.cell? ⟨wo.heap.size, 1, none⟩ = some (.int .i64 (min j (cs.length - F) : Nat)) := by simp [World.cell?, hx]
        have f0 : wr.frozen? ⟨wo.heap.size, 0, none⟩ = false := by simp [World.frozen?, hx]
        have f1 : wr.frozen? ⟨wo.heap.size, 1, none⟩ = false := by simp [World.frozen?, hx]
        have lX : wo.heap.size < wr.heap.size := (Array.getElem?_eq_some_iff.1 hx).1
        have hbl : (bytesTo cs F j).length = j := by simp [bytesTo]
        by_cases hjb : j < b
        · by_cases hin : F + j < cs.length
          · go_wp2
            rw [str_append]
            refine ⟨⟨j + 1, by omega, by go_num, ?_, ?_⟩, by simp [intOf]; omega⟩
            · rw [Below.heap_alloc _ _ _ (by simp [World.size_setCell]; omega), heap_setCell_at _ (heap_setCell_at _ hx)]
              rw [bytesTo_succ, ← getD_str hin]
              rw [show min (j + 1) (cs.length - F) = min j (cs.length - F) + 1 by omega]
              rfl
            · exact ((hB2.setCell (p := ⟨wo.heap.size, 1, none⟩) (Nat.le_refl _) _).setCell (p := ⟨wo.heap.size, 0, none⟩) (Nat.le_refl _) _).alloc (by simp [World.size_setCell]; omega) _
          · go_wp2
            rw [str_append]
            refine ⟨⟨j + 1, by omega, by go_num, ?_, ?_⟩, by simp [intOf]; omega⟩
            · rw [Below.heap_alloc _ _ _ (by simp [World.size_setCell]; omega), heap_setCell_at _ hx]
              rw [bytesTo_succ, getD_none (by omega)]
              rw [show min (j + 1) (cs.length - F) = min j (cs.length - F) by omega]
              rfl
            · exact (hB2.setCell (p := ⟨wo.heap.size, 0, none⟩) (Nat.le_refl _) _).alloc (by simp [World.size_setCell]; omega) _
        · obtain rfl : b = j := by omega
          have c2 : wr.cell? ⟨wo.heap.size, 2, none⟩ = some (.int .i64 (before + (F : Nat))) := by simp [World.cell?, hx]
          have hrow2 := ownsRow_below hrow hB2
          have hbz := hB2.size
          have hwz := hB.size
          go_wp2_with (at_builtin; refine wpList_append_own _ rfl _ _ 23 rfl w.heap.size 36 i0 _ 3 32 Try.underlying23 hi hz0 hz1 hz2 rfl (by decide) _ _ _ rfl (hrow2.alloc _) ⟨wr.heap.size, 0, none⟩ 1 1 [.string (str (bytesTo cs F b)), .int .i64 (min b (cs.length - F) : Nat), .int .i64 (before + (F : Nat))] rfl rfl (cells_new _ _ _) (by simp [Value.oneCell']) (by unfold maxLen; omega) (by omega) (by simp; omega) ?_; intro v' w1 hown' hgrow _)
          go_roundw
          case rel =>
            refine ⟨k + 1, by rw [Nat.add_mul, ← HF.out]; omega, by rw [Nat.add_mul, ← HF.out]; go_num, ?_, ?_⟩
            · rw [upTo_succ, pcells_snoc, ← HF.out]
              have e1 : (item cs b k).1 = bytesTo cs F b := by rw [bytesTo_all, HF.out]; rfl
              have e2 : (item cs b k).2 = min b (cs.length - F) := by rw [HF.out]; rfl
              rw [e1, e2]
              exact hown'
            · refine (hB.trans (hB2.mono hwz)).trans (((Below.refl _ wr).alloc (by omega) _).grown hgrow (by simp; omega) fun q e => ?_)
              exact (hrow2.lt q e).1
          case measure => simp [intOf]; omega
    · go_wp2
      go_ret2
      have ek : (cs.length + b - 1) / b = k := by
        have h1 : (cs.length + b - 1) / b < k + 1 := by
          rw [Nat.div_lt_iff_lt_mul (by omega), Nat.add_mul, ← HF.out]; omega
        have h2 : k ≤ (cs.length + b - 1) / b := by
          rw [Nat.le_div_iff_mul_le (by omega), ← HF.out]; omega
        omega
      refine ⟨_, rfl, ?_, hB⟩
      rw [parts_upTo hb1, ek]
      have el : (items cs b).length = k := by simp [items, ek]
      rw [el]; exact hrow

theorem split_r (cs : List UInt8) (b before : Int) (w : World) :
    Calls Try.prog 11 #[.string (str cs), .int .i64 b, .int .i64 before] w fun e w' =>
      ∃ v, e = .returned (.tuple #[v, .int .i64 (splitE cs.length b before)]) ∧ w'.ownsRow w.heap.size 36 3 v (parts cs b before).length (pcells (parts cs b before)) ∧ Below w.heap.size w w' := by
  by_cases h : splitE cs.length b before = 0
  · obtain ⟨h1, h2, h3⟩ := splitE_zero h
    obtain ⟨hok, _, _⟩ := lenE_zero h1
    obtain ⟨n, rfl⟩ : ∃ n : Nat, b = n := ⟨b.toNat, by rcases okB_cases hok with h | h | h | h | h <;> omega⟩
    have e : parts cs n before = mkParts before (items cs n) := by simp [parts, h]
    rw [h, e, length_mkParts]
    exact split_r_ok cs n before w h1 h2 h3
  · refine (split_r_bad cs b before w h).mono fun e w' ⟨he, hw⟩ => ?_
    have e1 : parts cs b before = [] := by simp [parts, h]
    exact ⟨_, he, by rw [e1]; exact World.ownsRow_nil _ _ _ _, hw⟩

end Go.Proofs.Ytfmngphmmhjicaa
