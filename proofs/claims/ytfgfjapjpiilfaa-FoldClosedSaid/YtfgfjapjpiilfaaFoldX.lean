/- fold.pairs, Alike, Key, Compare, Sets. -/
import Derived.Test.YtfgfjapjpiilfaaFoldW
namespace Go.Proofs.Ytfgfjapjpiilfaa
open Go.RowKit Go.Shelf

theorem same_ent : ∀ args w, (callFunc 27 args).run Try.prog w = .ok (.enter 27 args) w := enters_of Try.func27 (by kernel_rfl) rfl

set_option maxRecDepth 100000 in
set_option maxHeartbeats 1000000 in
theorem pairs_p (va vb : Value) (a b : List UInt8) (w : World) (ha : Row w 1 va a.length (bcells a)) (hb : Row w 1 vb b.length (bcells b)) :
    Calls Try.prog 47 #[va, vb, .func (.func 27) #[] #[]] w fun e w' => e = .returned (.bool (alikeL a b)) ∧ Below w.heap.size w w' := by
  obtain ⟨aa, capa, hva⟩ : ∃ x cap, va = .slice x a.length cap := by obtain ⟨_, _, a, cap, e, _⟩ := ha; exact ⟨a, cap, e⟩
  obtain ⟨ab, capb, hvb⟩ : ∃ x cap, vb = .slice x b.length cap := by obtain ⟨_, _, a, cap, e, _⟩ := hb; exact ⟨a, cap, e⟩
  subst hva hvb
  have hma := ha.2.1
  have hmb := hb.2.1
  unfold maxLen at hma hmb
  have HA := Lib.hid ha
  have HB := Lib.hid hb
  clear ha hb
  by_cases hl : a.length = b.length
  · have hle : a.length ≤ b.length := by omega
    have hge : b.length ≤ a.length := by omega
    have e2 : ((a.length : Int) != (b.length : Int)) = false := by simp [hl]
    clear hl
    go_enter Try.func47, Try.ntmps47
    go_wp2_with fail
    go_loopw [15] (fun iv wr => ∃ k : Nat, k ≤ a.length ∧ iv = .int .i64 (k : Nat) ∧ (keyL a).take k = (keyL b).take k ∧ Below w.heap.size w wr) (fun iv _ => a.length - (intOf iv).toNat)
    case atStart => exact ⟨0, by omega, rfl, rfl, Below.refl _ _⟩
    case round =>
      obtain ⟨k, hk, rfl, heq, hB⟩ := hrel
      have HE := Lib.hid heq
      clear heq
      by_cases hlt : k < a.length
      · have hlt2 : k < b.length := by omega
        obtain ⟨ga, oa, ca, hva, hga, hca⟩ := Row.byteAt HA.out hlt
        obtain ⟨gb, ob, cb, hvb, hgb, hcb⟩ := Row.byteAt HB.out hlt2
        cases hva
        cases hvb
        have d1 := (hB.cell (p := ⟨ga, oa + k, none⟩) hga).trans hca
        have d2 := (hB.cell (p := ⟨gb, ob + k, none⟩) hgb).trans hcb
        have i1 : (0 : Int) ≤ (k : Int) := by omega
        have i2 : (k : Int) < (a.length : Int) := by omega
        have i3 : (k : Int) < (b.length : Int) := by omega
        have la : a[k].toNat < 256 := a[k].toNat_lt
        have lb : b[k].toNat < 256 := b[k].toNat_lt
        have HY := Lib.hid (fun e => key_take hlt hlt2 HE.out e)
        have HNo := Lib.hid (fun e => key_not (a := a) (b := b) hlt hlt2 e)
        have hc := fun w => same_p a[k].toNat b[k].toNat la lb w
        obtain ⟨D, hD⟩ : ∃ D, D = sameN a[k].toNat b[k].toNat := ⟨_, rfl⟩
        rw [← hD] at hc
        have HD := Lib.hid hD
        clear hD hca hcb
        go_wp2_with fail
        go_quiet (first | (go_at_call 27; exact quiet_still (hc _)))
        cases D with
        | true =>
          have hnext := HY.out HD.out.symm
          have HX := Lib.hid hnext
          clear hnext
          go_wp2_with fail
          refine ⟨⟨k + 1, by omega, by go_num, HX.out, hB.trans ⟨rfl, rfl, rfl, Nat.le_refl _, fun _ _ => rfl⟩⟩, by simp [intOf]; omega⟩
        | false =>
          have hno := HNo.out HD.out.symm
          go_wp2_with fail
          go_ret
          exact ⟨by rw [hno]; rfl, hB.trans ⟨rfl, rfl, rfl, Nat.le_refl _, fun _ _ => rfl⟩⟩
      · obtain rfl : a.length = k := by omega
        have e : alikeL a b = true := by
          have := HE.out
          rw [List.take_of_length_le (by rw [length_keyL]; exact Nat.le_refl _), List.take_of_length_le (by rw [length_keyL]; exact hge)] at this
          unfold alikeL; rw [decide_eq_true_eq]; exact this
        go_wp2_with fail
        go_ret
        exact ⟨by rw [e]; rfl, hB⟩
  · have e : alikeL a b = false := by
      unfold alikeL; rw [decide_eq_false_iff_not]; intro h; apply hl
      have := congrArg List.length h
      rwa [length_keyL, length_keyL] at this
    have e2 : ((a.length : Int) != (b.length : Int)) = true := by rw [bne_iff_ne]; omega
    clear hl
    go_enter Try.func47, Try.ntmps47
    go_wp2_with fail
    go_ret
    exact ⟨by rw [e]; rfl, Below.refl _ _⟩

end Go.Proofs.Ytfgfjapjpiilfaa
