/- The examples of the document: shown. -/
import Derived.Test.YtllkohjmghoipaaPaEx
import Derived.Test.YtllkohjmghoipaaPaJoinP
import Derived.Test.YtllkohjmghoipaaPaEndR
import Derived.Test.YtllkohjmghoipaaPaSame
import Derived.Lib.ConvBytes
import Derived.Lib.SlBytesConst
namespace Go.Proofs.Ytllkohjmghoipaa
open Go.RowKit Go.Sort

theorem conv_bytes (w : World) (b : List UInt8) (hb : b.length ≤ maxLen) : ∃ a cap w', (convert 9 30 (.string (str b))).run Try.prog w = .ok (.slice a b.length cap) w' ∧ Bytes w' (.slice a b.length cap) b ∧ Below w.heap.size w w' := by
  have h := Lib.run_convert_string_bytes (P := Try.prog) w 9 30 5 (str b) Try.underlying9 Try.underlying30 Try.underlying5
  have hs : (str b).size = b.length := by simp [str, ByteArray.size]
  rw [hs] at h
  refine ⟨_, _, _, h, ⟨by simp [bcells], hb, _, _, rfl, (by intro e; cases e), .inr ⟨_, _, rfl, fun j hj => ?_⟩⟩, ?_⟩
  · rw [Nat.mul_one] at hj
    rw [Nat.zero_add, Lib.bytesWorld_cell w 5 (str b) j (by omega)]
    simp [str, bcells, hj]
  · have hsz := Lib.bytesWorld_size w 5 (str b)
    refine ⟨?_, ?_, ?_, by omega, fun k hk => Lib.bytesWorld_at_old w _ _ k hk⟩ <;>
      simp [Lib.bytesWorld, World.freeze, World.alloc, World.drew, -World.alloc_eq, -World.drew_eq]
theorem Row.marked (W : World) (t : TypeId) (size n : Nat) (fr : Nat × Nat) (cs : List Value) (hl : cs.length = n * size) (hm : n ≤ maxLen) :
    Row (W.alloc (.cells cs.toArray t fr)) size (.slice (some ⟨W.heap.size, 0, none⟩) n n) n cs := by
  have hh : (W.alloc (.cells cs.toArray t fr)).heap[W.heap.size]? = some (.cells cs.toArray t fr) := heap_alloc_new W _
  exact ⟨hl, hm, _, n, rfl, (by intro e; cases e), .inr ⟨_, _, rfl, fun j hj => by
    simp only [World.cell?, hh, Option.isSome_none, Bool.false_eq_true, if_false, Nat.zero_add, List.getElem?_toArray]⟩⟩

set_option maxRecDepth 100000 in
set_option maxHeartbeats 4000000 in
theorem is_p (b : List UInt8) (x : Bool) (hb : b.length ≤ 4096) (hm : matV exV b = x) (hs : seekE exV b = 0) (w : World) : Calls Try.prog 32 #[.string (str b), .bool x] w fun e w' => e = .returned (.bool true) ∧ Below w.heap.size w w' := by
  have HM := Lib.hid hm
  have HS := Lib.hid hs
  clear hm hs
  go_enter Try.func32, Try.ntmps32
  go_wp2_with fail
  refine (example_p _).mono ?_
  rintro e w1 ⟨a, cap, rfl, hp, hb1⟩
  obtain ⟨a2, c2, w2, hconv, hby, hb2⟩ := conv_bytes w1 b (by unfold maxLen; omega)
  have K := Lib.hid (matches_p _ _ exV b w2 (Row.below hp hb2) hby)
  have HB2 := Lib.hid (next hb1 hb2)
  rw [HM.out, HS.out] at K
  have HL := Lib.hid hb
  have hl : b.length ≤ 4096 := hb
  clear hp hb1 hby hb2 hb
  go_wp2_with fail
  refine K.out.mono ?_
  rintro e w3 ⟨rfl, hb3⟩
  have HB3 := Lib.hid (next HB2.out hb3)
  clear hb3 K
  go_wp2_with fail
  go_ret
  exact ⟨by cases x <;> rfl, HB3.out⟩
theorem sh_len : lenV exV = (3, 4, 0) := by decide +kernel
theorem sh_e1 : endV exV [97, 120, 98, 120, 120, 98] = [3] ∧ seekE exV [97, 120, 98, 120, 120, 98] = 0 := by decide +kernel
theorem sh_e2 : endV exV [97, 97, 98, 98] = [3, 4] ∧ seekE exV [97, 97, 98, 98] = 0 := by decide +kernel
theorem sh_m1 : matV exV [97, 120, 98] = true ∧ seekE exV [97, 120, 98] = 0 := by decide +kernel
theorem sh_m2 : matV exV [97, 120, 120, 98] = true ∧ seekE exV [97, 120, 120, 98] = 0 := by decide +kernel
theorem sh_m3 : matV exV [97, 98] = false ∧ seekE exV [97, 98] = 0 := by decide +kernel
theorem sh_m4 : matV exV [97, 120, 120, 120, 98] = false ∧ seekE exV [97, 120, 120, 120, 98] = 0 := by decide +kernel
theorem sh_j : joinV [byteV 97] [byteV 98] 1 2 = exV ∧ joinE [byteV 97] [byteV 98] 1 2 = 0 := by decide +kernel
end Go.Proofs.Ytllkohjmghoipaa
