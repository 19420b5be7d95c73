/- A pattern of one class, plainly. -/
import Derived.Test.YtllkohjmghoipaaPaV5
import Derived.Test.YtllkohjmghoipaaArgs
namespace Go.Proofs.Ytllkohjmghoipaa
open Go.RowKit

def soleP (s : CSet) : List El := [⟨false, s, 0, 0⟩]
theorem sole_ok (s : CSet) : OkP (soleP s) := by
  refine okP_mk (by simp [soleP]) (by simp [soleP]) (fun i hi _ => ?_) (fun i hi hg => ?_)
  · have : i = 0 := by simp [soleP] at hi; omega
    subst this; exact ⟨rfl, rfl⟩
  · have : i = 0 := by simp [soleP] at hi; omega
    subst this; cases hg
theorem sole_len (s : CSet) : lenV (soleP s) = (1, 1, 0) := by
  unfold lenV
  rw [(sole_ok s).check]
  rfl
theorem sole_reach {b : List UInt8} {s : CSet} {i : Nat} (h : i < b.length) : reachP b (soleP s) (fun _ => true) (i + 1) = hasB s b[i].toNat := by
  show stepP b ⟨false, s, 0, 0⟩ (fun _ => true) (i + 1) = _
  unfold stepP
  rw [if_neg (by simp), Nat.add_sub_cancel, List.getElem?_eq_getElem h]
  simp
theorem sole_mat (s : CSet) (x : UInt8) : matV (soleP s) [x] = hasB s x.toNat := by
  rw [matV_ok (sole_ok s) (by simp)]
  show stepP [x] ⟨false, s, 0, 0⟩ (fun m => decide (m = 0)) 1 = _
  unfold stepP
  simp
theorem endsTo_prefix {b : List UInt8} {p : List El} {k : Nat} : ∀ {m : Nat}, k ≤ m → endsTo b p k <+: endsTo b p m
  | 0, h => by
    obtain rfl : k = 0 := by omega
    exact List.prefix_refl _
  | m + 1, h => by
    by_cases e : k = m + 1
    · subst e; exact List.prefix_refl _
    · have ih := endsTo_prefix (b := b) (p := p) (show k ≤ m by omega)
      refine ih.trans ?_
      unfold endsTo
      rw [List.range_succ (n := m + 1), List.filter_append]
      exact List.prefix_append _ _
theorem sole_no {b : List UInt8} {s : CSet} {i : Nat} (h : i < b.length) (hh : hasB s b[i].toNat = false) : endsTo b (soleP s) (i + 1) = endsTo b (soleP s) i := endsTo_no (by rw [sole_reach h]; exact hh)
theorem sole_yes {b : List UInt8} {s : CSet} {i : Nat} (h : i < b.length) (hh : hasB s b[i].toNat = true) : endsTo b (soleP s) (i + 1) = endsTo b (soleP s) i ++ [i + 1] := endsTo_yes (by rw [sole_reach h]; exact hh)
theorem sole_at {b : List UInt8} {s : CSet} {i : Nat} (h : i < b.length) (hh : hasB s b[i].toNat = true) : ∃ h' : (endsTo b (soleP s) i).length < (endsTo b (soleP s) b.length).length, (endsTo b (soleP s) b.length)[(endsTo b (soleP s) i).length] = i + 1 := by
  have hp := endsTo_prefix (b := b) (p := soleP s) (show i + 1 ≤ b.length by omega)
  rw [sole_yes h hh] at hp
  obtain ⟨t, ht⟩ := hp
  rw [← ht]
  refine ⟨by simp, ?_⟩
  simp
set_option maxRecDepth 100000 in
theorem set_of {cs : Array Value} {w : World} {n : Nat} (hz : cs.size = [43, 43, 43, 43].length)
    (hc : ∀ (i : Nat) (u : TypeId) (x : Value), [43, 43, 43, 43][i]? = some u → cs[i]? = some x → Cell.okWide Try.prog w .any n u x) : ∃ s : CSet, Value.agg cs = setV s := by
  obtain ⟨x0, x1, x2, x3, rfl⟩ := cells4 hz
  obtain ⟨a, rfl, ha⟩ := cell_int Try.underlying43 (hc 0 _ _ rfl rfl)
  obtain ⟨b, rfl, hb⟩ := cell_int Try.underlying43 (hc 1 _ _ rfl rfl)
  obtain ⟨c, rfl, hcc⟩ := cell_int Try.underlying43 (hc 2 _ _ rfl rfl)
  obtain ⟨d, rfl, hd⟩ := cell_int Try.underlying43 (hc 3 _ _ rfl rfl)
  have ha := has_u64 ha
  have hb := has_u64 hb
  have hcc := has_u64 hcc
  have hd := has_u64 hd
  obtain ⟨a, rfl⟩ : ∃ n : Nat, a = n := ⟨a.toNat, by omega⟩
  obtain ⟨b, rfl⟩ : ∃ n : Nat, b = n := ⟨b.toNat, by omega⟩
  obtain ⟨c, rfl⟩ : ∃ n : Nat, c = n := ⟨c.toNat, by omega⟩
  obtain ⟨d, rfl⟩ : ∃ n : Nat, d = n := ⟨d.toNat, by omega⟩
  refine ⟨BitVec.ofNat 256 (a + 2 ^ 64 * b + 2 ^ 128 * c + 2 ^ 192 * d), ?_⟩
  have h : a + 2 ^ 64 * b + 2 ^ 128 * c + 2 ^ 192 * d < 2 ^ 256 := by omega
  unfold setV setC word
  rw [BitVec.toNat_ofNat, Nat.mod_eq_of_lt h]
  have e0 : (a + 2 ^ 64 * b + 2 ^ 128 * c + 2 ^ 192 * d) / 2 ^ (64 * 0) % 2 ^ 64 = a := by omega
  have e1 : (a + 2 ^ 64 * b + 2 ^ 128 * c + 2 ^ 192 * d) / 2 ^ (64 * 1) % 2 ^ 64 = b := by omega
  have e2 : (a + 2 ^ 64 * b + 2 ^ 128 * c + 2 ^ 192 * d) / 2 ^ (64 * 2) % 2 ^ 64 = c := by omega
  have e3 : (a + 2 ^ 64 * b + 2 ^ 128 * c + 2 ^ 192 * d) / 2 ^ (64 * 3) % 2 ^ 64 = d := by omega
  rw [e0, e1, e2, e3]

end Go.Proofs.Ytllkohjmghoipaa
