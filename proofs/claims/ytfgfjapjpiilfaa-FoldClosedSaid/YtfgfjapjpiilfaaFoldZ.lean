/- fold.Key, Compare, Sets. -/
import Derived.Test.YtfgfjapjpiilfaaFoldY
namespace Go.Proofs.Ytfgfjapjpiilfaa
open Go.RowKit Go.Shelf

set_option maxRecDepth 100000 in
set_option maxHeartbeats 1000000 in
theorem key_p (l : List UInt8) (w : World) (hm : l.length ≤ maxLen) : Calls Try.prog 17 #[.string (str l)] w fun e w' => e = .returned (.string (str (keyL l))) ∧ Below w.heap.size w w' := by
  have hss := size_str l
  unfold maxLen at hm
  have hcv := fun w s => run_bytes_of_string (P := Try.prog) w 9 39 5 s Try.underlying9 Try.underlying39 Try.underlying5
  have hnew := fun c => BytesAt.new w (str l) c 5
  rw [toList_str] at hnew
  have HN := Lib.hid hnew
  clear hnew
  go_enter Try.func17, Try.ntmps17
  go_wp2_with fail
  go_loopw [10] (fun iv wr => ∃ k : Nat, k ≤ l.length ∧ iv = .int .i64 (k : Nat) ∧ BytesAt wr w.heap.size (keyTo l k) ∧ Below w.heap.size w wr) (fun iv _ => l.length - (intOf iv).toNat)
  case atStart => exact ⟨0, by omega, rfl, by rw [keyTo_zero]; exact HN.out _, ((Below.refl _ _).drew).alloc (Nat.le_refl _) _⟩
  case round =>
    obtain ⟨k, hk, rfl, h0, hB⟩ := hrel
    have l0 := h0.lt
    by_cases hlt : k < l.length
    · have i1 : (0 : Int) ≤ (k : Int) := by omega
      have i2 : (k : Int) < (l.length : Int) := by omega
      have c0 := h0.cell (k := k) (by rw [length_keyTo]; exact hlt)
      rw [keyTo_at hlt] at c0
      have f0 := h0.free (k := k) (by rw [length_keyTo]; exact hlt)
      have hs := h0.set (k := k) (by rw [length_keyTo]; exact hlt) (low8 l[k])
      rw [keyTo_set hlt, low8_num] at hs
      have HS := Lib.hid hs
      have hlb : l[k].toNat < 256 := l[k].toNat_lt
      generalize l[k] = x at *
      clear hs
      go_wp2_with fail
      refine (lower_p x.toNat hlb _).mono ?_
      rintro e w1 ⟨rfl, rfl⟩
      go_wp2_with fail
      refine ⟨⟨k + 1, by omega, by go_num, HS.out, hB.setCell (p := ⟨w.heap.size, k, none⟩) (Nat.le_refl _) _⟩, by simp [intOf]; omega⟩
    · obtain rfl : l.length = k := by omega
      rw [keyTo_all] at h0
      have hback := fun cap => h0.str (P := Try.prog) 39 9 5 Try.underlying39 Try.underlying5 Try.underlying9 cap l.length (length_keyL l).symm
      go_wp2_with fail
      go_ret
      exact ⟨rfl, hB⟩


theorem compare_p (a b : List UInt8) (w : World) (ha : a.length ≤ maxLen) (hb : b.length ≤ maxLen) :
    Calls Try.prog 40 #[.string (str a), .string (str b)] w fun e w' => e = .returned (.int .i64 (cmpB (keyL a) (keyL b))) ∧ Below w.heap.size w w' := by
  have HA := Lib.hid ha
  have HB := Lib.hid hb
  clear ha hb
  go_enter Try.func40, Try.ntmps40
  go_wp2_with fail
  refine (key_p a _ HA.out).mono ?_
  rintro e w1 ⟨rfl, hb1⟩
  have HB1 := Lib.hid hb1
  clear hb1
  go_wp2_with fail
  refine (key_p b _ HB.out).mono ?_
  rintro e w2 ⟨rfl, hb2⟩
  have HB2 := Lib.hid (next HB1.out hb2)
  clear hb2
  go_wp2_with fail
  refine (strCompare_p _ _ _).mono ?_
  rintro e w3 ⟨rfl, rfl⟩
  go_wp2_with fail
  go_ret
  exact ⟨rfl, HB2.out⟩

set_option maxRecDepth 100000 in
set_option maxHeartbeats 1000000 in
theorem sets_p (l : List UInt8) (w : World) (hm : l.length ≤ maxLen) :
    Calls Try.prog 36 #[.string (str l)] w fun e w' => ∃ v, e = .returned (.tuple #[v, .int .i64 (setsE l)]) ∧ w'.ownsRow w.heap.size 36 4 v (setsL l).length (scells (setsL l)) ∧ Below w.heap.size w w' := by
  have hss := size_str l
  unfold maxLen at hm
  by_cases h : 512 < l.length
  · have e1 : setsE l = 3 := if_pos h
    have e2 : setsL l = [] := if_pos h
    rw [e1, e2]; clear e1 e2
    go_enter Try.func36, Try.ntmps36
    go_wp2_with fail
    go_ret2
    exact ⟨_, rfl, World.ownsRow_nil _ _ _ _, Below.refl _ _⟩
  · have e1 : setsE l = 0 := if_neg h
    have e2 : setsL l = bothL l := if_neg h
    rw [e1, e2]; clear e1 e2
    have t1 : ¬ (512 : Int) < (l.length : Int) := by omega
    obtain ⟨i0, hi0, hz0, hz1, hz2⟩ := info_parts infoSet
    have hcv := fun w s => run_bytes_of_string (P := Try.prog) w 9 39 5 s Try.underlying9 Try.underlying39 Try.underlying5
    have hnew := fun c => BytesAt.new w (str l) c 5
    rw [toList_str] at hnew
    have HN := Lib.hid hnew
    clear hnew
    go_enter Try.func36, Try.ntmps36
    go_wp2_with fail
    go_loopw [4, 13] (fun ov iv wr => ∃ k : Nat, k ≤ l.length ∧ iv = .int .i64 (k : Nat) ∧ wr.ownsRow (w.heap.size + 1) 36 4 ov k (scells (bothL (l.take k))) ∧ BytesAt wr w.heap.size l ∧ Below w.heap.size w wr) (fun _ iv _ => l.length - (intOf iv).toNat)
    case atStart => exact ⟨0, by omega, rfl, World.ownsRow_nil _ _ _ _, BytesAt.same (HN.out _) rfl, ((Below.refl _ _).alloc (Nat.le_refl _) _).drew⟩
    case round =>
      obtain ⟨k, hk, rfl, hown, hby, hB⟩ := hrel
      by_cases hlt : k < l.length
      · have i1 : (0 : Int) ≤ (k : Int) := by omega
        have i2 : (k : Int) < (l.length : Int) := by omega
        have lb : l[k].toNat < 256 := l[k].toNat_lt
        have c0 := hby.cell hlt
        have lby := hby.lt
        have hc := fun w => both_p l[k].toNat lb w
        have HTK := Lib.hid (bothL_take hlt)
        go_wp2_with fail
        refine (hc _).mono ?_
        rintro e w1 ⟨rfl, hb1⟩
        have hown1 := ownsRow_below hown hb1
        have hby1 := hby.below hb1 lby
        have lby1 := hby1.lt
        have hB1 := next hB hb1
        have hz := hB1.size
        have hHc := Lib.hid hc
        clear hc
        generalize bothS l[k].toNat = s at *
        unfold setV setC
        go_wp2_with (at_builtin; refine wpList_append_own _ rfl _ _ 46 rfl (w.heap.size + 1) 36 i0 _ 4 32 Try.underlying46 hi0 hz0 hz1 hz2 rfl (by decide) _ _ _ rfl (hown1.alloc _) ⟨w1.heap.size, 0, none⟩ 1 1 (setC s).toList rfl rfl (cells_new _ _ _) (by simp [Value.oneCell', setC]) (by unfold maxLen; omega) (by omega) (by simp; omega) ?_; intro v' w2 hown' hgrow _)
        have bg : Below (w.heap.size + 1) w1 w2 := ((Below.refl _ w1).alloc (by omega) _).grown hgrow (by simp; omega) fun q e => (hown1.lt q e).1
        exact ⟨⟨k + 1, by omega, by go_num, by rw [HTK.out, scells_snoc]; exact hown', hby1.below bg (Nat.lt_succ_self _), hB1.trans (bg.mono (Nat.le_succ _))⟩, by simp [intOf]; omega⟩
      · obtain rfl : l.length = k := by omega
        rw [List.take_length] at hown
        go_wp2_with fail
        go_ret2
        exact ⟨_, rfl, ownsRow_base (by simpa [bothL] using hown) (Nat.le_succ _), hB⟩


end Go.Proofs.Ytfgfjapjpiilfaa
