/- math/bits.OnesCount64: the number of bits that are 1. -/
import Derived.Test.YtooiegejchcbhaaDoorProg
import Derived.Test.YtooiegejchcbhaaDoorPop
import Derived.Test.YtooiegejchcbhaaDoorSet
import Derived.Lib.Hide
namespace Go.Proofs.YtooiegejchcbhaaDoor
open Go.RowKit

theorem i64_and127 (n : Int) : bits .and .i64 n 127 = n % 128 := by
  have h63 : (BitVec.ofInt 64 127).toNat = 2 ^ 7 - 1 := by decide
  have key : (BitVec.ofInt 64 n &&& BitVec.ofInt 64 127).toNat = (n % ((2 ^ 64 : Nat) : Int)).toNat % 2 ^ 7 := by
    rw [BitVec.toNat_and, BitVec.toNat_ofInt, h63, Nat.and_two_pow_sub_one_eq_mod]
  show IntKind.i64.wrap ((BitVec.ofInt 64 n &&& BitVec.ofInt 64 127).toNat : Nat) = n % 128
  rw [key, IntKind.wrap_i64]
  omega
def g1 (x : Int) : Int := IntKind.u64.wrap (bits .and .u64 (x / 2) 6148914691236517205 + bits .and .u64 x 6148914691236517205)
def g2 (x : Int) : Int := IntKind.u64.wrap (bits .and .u64 (x / 4) 3689348814741910323 + bits .and .u64 x 3689348814741910323)
def g3 (x : Int) : Int := bits .and .u64 (IntKind.u64.wrap (x / 16 + x)) 1085102592571150095
def g4 (x : Int) : Int := IntKind.u64.wrap (x + x / 256)
def g5 (x : Int) : Int := IntKind.u64.wrap (x + x / 65536)
def g6 (x : Int) : Int := IntKind.u64.wrap (x + x / 4294967296)
theorem wrap_nat (n : Nat) (h : n < 18446744073709551616) : IntKind.u64.wrap (n : Int) = (n : Int) := by rw [IntKind.wrap_u64]; omega
theorem g_add (a b m : Nat) (M : Int) (hM : M = (m : Int)) (ha : a < 18446744073709551616) (hb : b < 18446744073709551616) (hm : m < 18446744073709551616) (hs : (a &&& m) + (b &&& m) < 18446744073709551616) :
    IntKind.u64.wrap (bits .and .u64 (a : Int) M + bits .and .u64 (b : Int) M) = (((a &&& m) + (b &&& m) : Nat) : Int) := by
  subst hM
  rw [u64_and_nat a m ha hm, u64_and_nat b m hb hm, ← Int.natCast_add]
  exact wrap_nat _ hs
theorem g_low (a m : Nat) (M : Int) (hM : M = (m : Int)) (ha : a < 18446744073709551616) (hm : m < 18446744073709551616) : bits .and .u64 (IntKind.u64.wrap (a : Int)) M = ((a &&& m : Nat) : Int) := by
  subst hM
  rw [wrap_nat a ha, u64_and_nat a m ha hm]
theorem div_cast (x k : Nat) : ((x : Int) / (k : Int)) = ((x / k : Nat) : Int) := (Int.natCast_ediv x k).symm
theorem e1_of (x : Nat) (hx : x < 18446744073709551616) (h : a1 x < 18446744073709551616) : g1 (x : Int) = (a1 x : Int) := by
  have hd : x / 2 < 18446744073709551616 := Nat.lt_of_le_of_lt (Nat.div_le_self _ _) hx
  unfold a1 at h
  unfold g1 a1
  rw [show ((x : Int) / 2) = ((x / 2 : Nat) : Int) from div_cast x 2]
  exact g_add (x / 2) x _ _ rfl hd hx (by decide) h
theorem e2_of (x : Nat) (hx : x < 18446744073709551616) (h : a2 x < 18446744073709551616) : g2 (x : Int) = (a2 x : Int) := by
  have hd : x / 4 < 18446744073709551616 := Nat.lt_of_le_of_lt (Nat.div_le_self _ _) hx
  unfold a2 at h
  unfold g2 a2
  rw [show ((x : Int) / 4) = ((x / 4 : Nat) : Int) from div_cast x 4]
  exact g_add (x / 4) x _ _ rfl hd hx (by decide) h
theorem e3_of (x : Nat) (h : x / 16 + x < 18446744073709551616) : g3 (x : Int) = (a3 x : Int) := by
  unfold g3 a3
  rw [show ((x : Int) / 16) = ((x / 16 : Nat) : Int) from div_cast x 16, ← Int.natCast_add]
  exact g_low (x / 16 + x) _ _ rfl h (by decide)
theorem e4_of (x : Nat) (h : x + x / 256 < 18446744073709551616) : g4 (x : Int) = ((x + x / 256 : Nat) : Int) := by
  unfold g4
  rw [show ((x : Int) / 256) = ((x / 256 : Nat) : Int) from div_cast x 256, ← Int.natCast_add, wrap_nat _ h]
theorem e5_of (x : Nat) (h : x + x / 65536 < 18446744073709551616) : g5 (x : Int) = ((x + x / 65536 : Nat) : Int) := by
  unfold g5
  rw [show ((x : Int) / 65536) = ((x / 65536 : Nat) : Int) from div_cast x 65536, ← Int.natCast_add, wrap_nat _ h]
theorem e6_of (x : Nat) (h : x + x / 4294967296 < 18446744073709551616) : g6 (x : Int) = ((x + x / 4294967296 : Nat) : Int) := by
  unfold g6
  rw [show ((x : Int) / 4294967296) = ((x / 4294967296 : Nat) : Int) from div_cast x 4294967296, ← Int.natCast_add, wrap_nat _ h]
theorem low7 (v : Nat) : bits .and .i64 (wrap64 (v : Int)) 127 = ((v % 128 : Nat) : Int) := by
  rw [i64_and127, wrap64]
  omega
theorem ones_val (x : Nat) (hx : x < 18446744073709551616) : bits .and .i64 (wrap64 (g6 (g5 (g4 (g3 (g2 (g1 (x : Int)))))))) 127 = (popN x 64 : Int) := by
  obtain ⟨p0, p1, p2, p3, p4, p5, p6, p7, h1, h2, h3, h4, h5, h6, h7, h8, h9, h10⟩ := ones_sum x hx
  obtain ⟨k0, k1, k2, k3, k4⟩ := ones_low h1 h3 h4 h5 h6 h7
  rw [e1_of x hx h8, e2_of _ h8 h10, e3_of _ h9, e4_of _ k1, e5_of _ k2, e6_of _ k3, low7, k4, ← h2]

set_option maxRecDepth 100000 in
set_option maxHeartbeats 1000000 in
theorem ones_p (x : Nat) (hx : x < 18446744073709551616) (w : World) : Calls Tryd.prog 53 #[.int .u64 (x : Int)] w fun e w' => e = .returned (.int .i64 (popN x 64 : Int)) ∧ w = w' := by
  have HX := Lib.hid hx
  have x0 : (0 : Int) ≤ (x : Int) := by omega
  clear hx
  go_enter Tryd.func53, Tryd.ntmps53
  go_wp2_with fail
  go_ret
  exact ⟨congrArg (fun z => Ending.returned (.int .i64 z)) (ones_val x HX.out), rfl⟩
end Go.Proofs.YtooiegejchcbhaaDoor
