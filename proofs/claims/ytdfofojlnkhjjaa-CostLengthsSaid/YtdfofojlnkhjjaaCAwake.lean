/- dragnetlaw31.awake: some calls of package cost return what the document says. -/
import Derived.Test.YtdfofojlnkhjjaaCBound
namespace Go.Proofs.Ytdfofojlnkhjjaa
open Go.RowKit

theorem small_p (w : World) : Calls Try.prog 33 #[] w fun e w' => e = .returned (cfgV 1 1 5) ∧ Below w.heap.size w w' := by
  go_enter Try.func33, Try.ntmps33
  go_wp2
  exact bodyPost_ret (v := .agg #[.int .i64 1, .int .i64 1, .int .i64 5]) (by simp [results, Try.results33, go_sem]) rfl ⟨rfl, (Below.refl _ _).alloc (Nat.le_refl _) _⟩
theorem shape_p (w : World) : Calls Try.prog 34 #[] w fun e w' => e = .returned (shpV 1 1) ∧ Below w.heap.size w w' := by
  go_enter Try.func34, Try.ntmps34
  go_wp2
  exact bodyPost_ret (v := .agg #[.int .i64 1, .int .i64 1]) (by simp [results, Try.results34, go_sem]) rfl ⟨rfl, (Below.refl _ _).alloc (Nat.le_refl _) _⟩

set_option maxRecDepth 100000 in
set_option maxHeartbeats 2000000 in
theorem awake_p (w : World) : Calls Try.prog 20 #[] w fun e w' => e = .returned (.bool true) ∧ Below w.heap.size w w' := by
  have k1 : ∀ w, Calls Try.prog 12 #[cfgV 1 1 5, shpV 1 1] w fun e w' => e = .returned (.tuple #[.int .i64 263, .int .i64 0]) ∧ Below w.heap.size w w' := fun w => open_p 1 1 5 1 1 w
  have k2 : ∀ w, Calls Try.prog 14 #[cfgV 1 1 5, shpV 1 1] w fun e w' => e = .returned (.tuple #[.int .i64 304, .int .i64 0]) ∧ Below w.heap.size w w' := fun w => blockPub_p 1 1 5 1 1 w
  have k3 : ∀ w, Calls Try.prog 16 #[cfgV 1 1 5, shpV 1 1, .int .i64 3] w fun e w' => e = .returned (.tuple #[.int .i64 928, .int .i64 0]) ∧ Below w.heap.size w w' := fun w => feed_p 1 1 5 1 1 3 w
  have k4 : ∀ w, Calls Try.prog 18 #[cfgV 1 1 5, shpV 1 1, .int .i64 3] w fun e w' => e = .returned (.tuple #[.int .i64 20326, .int .i64 0]) ∧ Below w.heap.size w w' := fun w => bound_p 1 1 5 1 1 3 w
  have k5 : ∀ w, Calls Try.prog 10 #[.int .i64 288] w fun e w' => e = .returned (.tuple #[.int .i64 2081, .int .i64 0]) ∧ w = w' := fun w => pubMoves_p 288 w
  have K1 := Lib.hid k1
  have K2 := Lib.hid k2
  have K3 := Lib.hid k3
  have K4 := Lib.hid k4
  have K5 := Lib.hid k5
  clear k1 k2 k3 k4 k5
  go_enter Try.func20, Try.ntmps20
  go_wp2_with (first
    | (go_at_call 33; refine (small_p _).mono ?_; rintro e w' ⟨rfl, hb⟩; have HS := Lib.hid hb; clear hb)
    | (go_at_call 34; refine (shape_p _).mono ?_; rintro e w' ⟨rfl, hb⟩; have HT := Lib.hid (next HS.out hb); clear hb))
  refine (K1.out _).mono ?_
  rintro e v1 ⟨rfl, hb⟩
  have HV1 := Lib.hid (next HT.out hb)
  clear hb
  go_wp2_with (first
    | (go_at_call 33; refine (small_p _).mono ?_; rintro e w' ⟨rfl, hb⟩; have HS := Lib.hid hb; clear hb)
    | (go_at_call 34; refine (shape_p _).mono ?_; rintro e w' ⟨rfl, hb⟩; have HT := Lib.hid (next HS.out hb); clear hb))
  refine (K2.out _).mono ?_
  rintro e v2 ⟨rfl, hb⟩
  have HV2 := Lib.hid (next HV1.out (next HT.out hb))
  clear hb
  go_wp2_with (first
    | (go_at_call 33; refine (small_p _).mono ?_; rintro e w' ⟨rfl, hb⟩; have HS := Lib.hid hb; clear hb)
    | (go_at_call 34; refine (shape_p _).mono ?_; rintro e w' ⟨rfl, hb⟩; have HT := Lib.hid (next HS.out hb); clear hb))
  refine (K3.out _).mono ?_
  rintro e v3 ⟨rfl, hb⟩
  have HV3 := Lib.hid (next HV2.out (next HT.out hb))
  clear hb
  go_wp2_with (first
    | (go_at_call 33; refine (small_p _).mono ?_; rintro e w' ⟨rfl, hb⟩; have HS := Lib.hid hb; clear hb)
    | (go_at_call 34; refine (shape_p _).mono ?_; rintro e w' ⟨rfl, hb⟩; have HT := Lib.hid (next HS.out hb); clear hb))
  refine (K4.out _).mono ?_
  rintro e v4 ⟨rfl, hb⟩
  have HV4 := Lib.hid (next HV3.out (next HT.out hb))
  clear hb
  go_wp2_with fail
  refine (K5.out _).mono ?_
  rintro e v5 ⟨rfl, rfl⟩
  go_wp2_with fail
  go_ret
  exact ⟨rfl, HV4.out⟩

end Go.Proofs.Ytdfofojlnkhjjaa
