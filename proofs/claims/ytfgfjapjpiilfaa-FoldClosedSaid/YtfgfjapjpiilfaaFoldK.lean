/- Layer 4's reference: Key, Alike. -/
import Derived.Test.YtfgfjapjpiilfaaFoldS
import Derived.Test.YtfgfjapjpiilfaaBytes
namespace Go.Proofs.Ytfgfjapjpiilfaa
open Go.RowKit

theorem quiet_still {P : Program} {f : FuncId} {args : Array Value} {w : World} {n : Nat} {v : Value}
    (h : Calls P f args (w.drewN n) fun e w' => e = .returned v ∧ w.drewN n = w') : Calls P f args (w.drewN n) fun e w'' => e = .returned v ∧ ∃ m, w'' = w.drewN m :=
  h.mono fun _ _ ⟨he, hm⟩ => ⟨he, n, hm.symm⟩

def low8 (b : UInt8) : UInt8 := UInt8.ofNat (lowN b.toNat)
theorem low8_num (b : UInt8) : (low8 b).toNat = lowN b.toNat := by
  have := lowN_lt b.toNat_lt
  unfold low8; simp; omega
def keyL (l : List UInt8) : List UInt8 := l.map low8
theorem length_keyL (l : List UInt8) : (keyL l).length = l.length := by simp [keyL]
def keyTo (l : List UInt8) (k : Nat) : List UInt8 := (keyL l).take k ++ l.drop k
theorem length_keyTo (l : List UInt8) (k : Nat) : (keyTo l k).length = l.length := by simp [keyTo, keyL]; omega
theorem keyTo_at {l : List UInt8} {k : Nat} (hk : k < l.length) (g : k < (keyTo l k).length) : (keyTo l k)[k] = l[k] := by
  simp [keyTo, keyL, List.getElem_append, Nat.min_eq_left (Nat.le_of_lt hk)]
theorem keyTo_set {l : List UInt8} {k : Nat} (hk : k < l.length) : (keyTo l k).set k (low8 l[k]) = keyTo l (k + 1) := by
  apply List.ext_getElem
  · simp [length_keyTo]
  · intro i h1 h2
    simp only [keyTo, keyL, List.getElem_set, List.getElem_append, List.length_take, List.length_map, List.getElem_take, List.getElem_map, List.getElem_drop]
    by_cases e : k = i
    · subst e
      rw [if_pos rfl, dif_pos (by omega)]
    · rw [if_neg e]
      by_cases e2 : i < k
      · rw [dif_pos (by omega), dif_pos (by omega)]
      · rw [dif_neg (by omega), dif_neg (by omega)]
        congr 1; omega
theorem keyTo_all (l : List UInt8) : keyTo l l.length = keyL l := by
  unfold keyTo; rw [List.take_of_length_le (by rw [length_keyL]; exact Nat.le_refl _), List.drop_length, List.append_nil]
theorem keyTo_zero (l : List UInt8) : keyTo l 0 = l := by simp [keyTo]

set_option maxRecDepth 100000 in
set_option maxHeartbeats 1000000 in
theorem key4 (l : List UInt8) (w : World) (hm : l.length ≤ maxLen) : Calls Try.prog 39 #[.string (str l)] w fun e w' => e = .returned (.string (str (keyL l))) ∧ Below w.heap.size w w' := by
  have hss := size_str l
  unfold maxLen at hm
  have hcv := fun w s => run_bytes_of_string (P := Try.prog) w 9 39 5 s Try.underlying9 Try.underlying39 Try.underlying5
  have hnew := fun c => BytesAt.new w (str l) c 5
  rw [toList_str] at hnew
  have HN := Lib.hid hnew
  clear hnew
  go_enter Try.func39, Try.ntmps39
  go_wp2_with fail
  go_loopw [4] (fun iv wr => ∃ k : Nat, k ≤ l.length ∧ iv = .int .i64 (k : Nat) ∧ BytesAt wr w.heap.size (keyTo l k) ∧ Below w.heap.size w wr) (fun iv _ => l.length - (intOf iv).toNat)
  case atStart => exact ⟨0, by omega, rfl, by rw [keyTo_zero]; exact HN.out _, ((Below.refl _ _).drew).alloc (Nat.le_refl _) _⟩
  case round =>
    obtain ⟨k, hk, rfl, h0, hB⟩ := hrel
    have l0 := h0.lt
    by_cases hlt : k < l.length
    · have i1 : (0 : Int) ≤ (k : Int) := by omega
      have i2 : (k : Int) < (l.length : Int) := by omega
      have c0 := h0.cell (k := k) (by rw [length_keyTo]; exact hlt)
      rw [keyTo_at hlt] at c0
      have f0 := h0.free (k := k) (by rw [length_keyTo]; exact hlt)
      have hs := h0.set (k := k) (by rw [length_keyTo]; exact hlt) (low8 l[k])
      rw [keyTo_set hlt, low8_num] at hs
      have HS := Lib.hid hs
      have hlb : l[k].toNat < 256 := l[k].toNat_lt
      generalize l[k] = x at *
      clear hs
      go_wp2_with fail
      refine (lower4 x.toNat hlb _).mono ?_
      rintro e w1 ⟨rfl, rfl⟩
      go_wp2_with fail
      refine ⟨⟨k + 1, by omega, by go_num, HS.out, hB.setCell (p := ⟨w.heap.size, k, none⟩) (Nat.le_refl _) _⟩, by simp [intOf]; omega⟩
    · obtain rfl : l.length = k := by omega
      rw [keyTo_all] at h0
      have hback := fun cap => h0.str (P := Try.prog) 39 9 5 Try.underlying39 Try.underlying5 Try.underlying9 cap l.length (length_keyL l).symm
      go_wp2_with fail
      go_ret
      exact ⟨rfl, hB⟩

/-- alike: equal keys -/
def alikeL (a b : List UInt8) : Bool := decide (keyL a = keyL b)
theorem same_low (a b : UInt8) : sameN a.toNat b.toNat = decide (low8 a = low8 b) := by
  unfold sameN
  rw [← low8_num, ← low8_num, Bool.eq_iff_iff, beq_iff_eq, decide_eq_true_eq]
  exact UInt8.toNat_inj
theorem key_take {a b : List UInt8} {k : Nat} (h1 : k < a.length) (h2 : k < b.length) (h : (keyL a).take k = (keyL b).take k) (e : sameN a[k].toNat b[k].toNat = true) : (keyL a).take (k + 1) = (keyL b).take (k + 1) := by
  rw [same_low, decide_eq_true_eq] at e
  rw [List.take_succ_eq_append_getElem (by rw [length_keyL]; exact h1), List.take_succ_eq_append_getElem (by rw [length_keyL]; exact h2), h]
  simp only [keyL, List.getElem_map, e]
theorem key_not {a b : List UInt8} {k : Nat} (h1 : k < a.length) (h2 : k < b.length) (e : sameN a[k].toNat b[k].toNat = false) : alikeL a b = false := by
  rw [same_low, decide_eq_false_iff_not] at e
  unfold alikeL
  rw [decide_eq_false_iff_not]
  intro h
  apply e
  have h3 : (keyL a)[k]? = (keyL b)[k]? := by rw [h]
  simp only [keyL, List.getElem?_map, List.getElem?_eq_getElem h1, List.getElem?_eq_getElem h2, Option.map_some, Option.some.injEq] at h3
  exact h3
theorem str_at {l : List UInt8} {k : Nat} (h : k < l.length) {g : k < (str l).size} : (str l)[k] = l[k] := rfl

set_option maxRecDepth 100000 in
set_option maxHeartbeats 1000000 in
theorem alike4 (a b : List UInt8) (w : World) (ha : a.length ≤ maxLen) (hb : b.length ≤ maxLen) : Calls Try.prog 38 #[.string (str a), .string (str b)] w fun e w' => e = .returned (.bool (alikeL a b)) ∧ Below w.heap.size w w' := by
  have hsa := size_str a
  have hsb := size_str b
  unfold maxLen at ha hb
  by_cases hl : a.length = b.length
  · have e1 : (a.length : Int) = (b.length : Int) := by omega
    have HL := Lib.hid hl
    have hle : a.length ≤ b.length := by omega
    have hge : b.length ≤ a.length := by omega
    have e2 : ((a.length : Int) != (b.length : Int)) = false := by simp [hl]
    clear hl e1
    go_enter Try.func38, Try.ntmps38
    go_wp2_with fail
    go_loopw [5] (fun iv wr => ∃ k : Nat, k ≤ a.length ∧ iv = .int .i64 (k : Nat) ∧ (keyL a).take k = (keyL b).take k ∧ Below w.heap.size w wr) (fun iv _ => a.length - (intOf iv).toNat)
    case atStart => exact ⟨0, by omega, rfl, rfl, Below.refl _ _⟩
    case round =>
      obtain ⟨k, hk, rfl, heq, hB⟩ := hrel
      have HE := Lib.hid heq
      clear heq
      by_cases hlt : k < a.length
      · have hlt2 : k < b.length := by omega
        have i1 : (0 : Int) ≤ (k : Int) := by omega
        have i2 : (k : Int) < (a.length : Int) := by omega
        have i3 : (k : Int) < (b.length : Int) := by omega
        have g1 : k < (str a).size := by omega
        have g2 : k < (str b).size := by omega
        have la : a[k].toNat < 256 := a[k].toNat_lt
        have lb : b[k].toNat < 256 := b[k].toNat_lt
        have HY := Lib.hid (fun e => key_take hlt hlt2 HE.out e)
        have HNo := Lib.hid (fun e => key_not (a := a) (b := b) hlt hlt2 e)
        have hc : ∀ w, Calls Try.prog 28 #[.int .u8 (((str a)[k]'g1).toNat : Int), .int .u8 (((str b)[k]'g2).toNat : Int)] w _ := fun w => same4 a[k].toNat b[k].toNat la lb w
        obtain ⟨D, hD⟩ : ∃ D, D = sameN a[k].toNat b[k].toNat := ⟨_, rfl⟩
        rw [← hD] at hc
        have HD := Lib.hid hD
        clear hD
        go_wp2_with fail
        go_quiet (first | (go_at_call 28; exact quiet_still (hc _)))
        cases D with
        | true =>
          have hnext := HY.out HD.out.symm
          have HX := Lib.hid hnext
          clear hnext
          go_wp2_with fail
          refine ⟨⟨k + 1, by omega, by go_num, HX.out, hB.trans ⟨rfl, rfl, rfl, Nat.le_refl _, fun _ _ => rfl⟩⟩, by simp [intOf]; omega⟩
        | false =>
          have hno := HNo.out HD.out.symm
          go_wp2_with fail
          go_ret
          exact ⟨by rw [hno]; rfl, hB.trans ⟨rfl, rfl, rfl, Nat.le_refl _, fun _ _ => rfl⟩⟩
      · obtain rfl : a.length = k := by omega
        have e : alikeL a b = true := by
          have := HE.out
          rw [List.take_of_length_le (by rw [length_keyL]; exact Nat.le_refl _), List.take_of_length_le (by rw [length_keyL]; exact hge)] at this
          unfold alikeL; rw [decide_eq_true_eq]; exact this
        go_wp2_with fail
        go_ret
        exact ⟨by rw [e]; rfl, hB⟩
  · have e : alikeL a b = false := by
      unfold alikeL; rw [decide_eq_false_iff_not]; intro h; apply hl
      have := congrArg List.length h
      rwa [length_keyL, length_keyL] at this
    rw [e]
    have e2 : ((a.length : Int) != (b.length : Int)) = true := by rw [bne_iff_ne]; omega
    clear hl
    go_enter Try.func38, Try.ntmps38
    go_wp2_with fail
    go_ret
    exact ⟨rfl, Below.refl _ _⟩

end Go.Proofs.Ytfgfjapjpiilfaa
