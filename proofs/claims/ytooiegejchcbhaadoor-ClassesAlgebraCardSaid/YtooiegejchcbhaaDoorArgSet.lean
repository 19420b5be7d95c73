/- A set of bytes as an argument of a law. -/
import Derived.Test.YtooiegejchcbhaaDoorArgs
import Derived.Test.YtooiegejchcbhaaDoorRefB
namespace Go.Proofs.YtooiegejchcbhaaDoor
open Go.RowKit

theorem set_of {cs : Array Value} {w : World} {n : Nat} (hz : cs.size = [22, 22, 22, 22].length)
    (hc : ∀ (i : Nat) (u : TypeId) (x : Value), [22, 22, 22, 22][i]? = some u → cs[i]? = some x → Cell.okWide Tryd.prog w .any n u x) : ∃ s : CSet, Value.agg cs = setV s := by
  obtain ⟨x0, x1, x2, x3, rfl⟩ := cells4 hz
  obtain ⟨a, rfl, ha⟩ := cell_int Tryd.underlying22 (hc 0 _ _ rfl rfl)
  obtain ⟨b, rfl, hb⟩ := cell_int Tryd.underlying22 (hc 1 _ _ rfl rfl)
  obtain ⟨c, rfl, hcc⟩ := cell_int Tryd.underlying22 (hc 2 _ _ rfl rfl)
  obtain ⟨d, rfl, hd⟩ := cell_int Tryd.underlying22 (hc 3 _ _ rfl rfl)
  have ha := has_u64 ha
  have hb := has_u64 hb
  have hcc := has_u64 hcc
  have hd := has_u64 hd
  obtain ⟨a, rfl⟩ : ∃ n : Nat, a = n := ⟨a.toNat, by omega⟩
  obtain ⟨b, rfl⟩ : ∃ n : Nat, b = n := ⟨b.toNat, by omega⟩
  obtain ⟨c, rfl⟩ : ∃ n : Nat, c = n := ⟨c.toNat, by omega⟩
  obtain ⟨d, rfl⟩ : ∃ n : Nat, d = n := ⟨d.toNat, by omega⟩
  refine ⟨BitVec.ofNat 256 (a + 2 ^ 64 * b + 2 ^ 128 * c + 2 ^ 192 * d), ?_⟩
  have h : a + 2 ^ 64 * b + 2 ^ 128 * c + 2 ^ 192 * d < 2 ^ 256 := by omega
  unfold setV setC word
  rw [BitVec.toNat_ofNat, Nat.mod_eq_of_lt h]
  have e0 : (a + 2 ^ 64 * b + 2 ^ 128 * c + 2 ^ 192 * d) / 2 ^ (64 * 0) % 2 ^ 64 = a := by omega
  have e1 : (a + 2 ^ 64 * b + 2 ^ 128 * c + 2 ^ 192 * d) / 2 ^ (64 * 1) % 2 ^ 64 = b := by omega
  have e2 : (a + 2 ^ 64 * b + 2 ^ 128 * c + 2 ^ 192 * d) / 2 ^ (64 * 2) % 2 ^ 64 = c := by omega
  have e3 : (a + 2 ^ 64 * b + 2 ^ 128 * c + 2 ^ 192 * d) / 2 ^ (64 * 3) % 2 ^ 64 = d := by omega
  rw [e0, e1, e2, e3]

end Go.Proofs.YtooiegejchcbhaaDoor
