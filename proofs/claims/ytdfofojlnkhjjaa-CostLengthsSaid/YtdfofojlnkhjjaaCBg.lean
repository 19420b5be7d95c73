/- Layer 30, the reference: begun. -/
import Derived.Test.YtdfofojlnkhjjaaCFd30
namespace Go.Proofs.Ytdfofojlnkhjjaa
open Go.RowKit

theorem P30.out {B : Nat} {b k l s r q : Int} {t : Nat → Int} {n : Nat} {W : World} (h : P30 B b k l s r q t n W) : ∃ a cap, W.cell? ⟨B, 16, none⟩ = some (.slice a n cap) := by
  obtain ⟨ov, xs, h1, h2⟩ := h
  have c : W.cell? ⟨B, 16, none⟩ = some ov := (cellAt h1 16).trans rfl
  rcases h2.2 with ⟨rfl, rfl⟩ | ⟨g, cap, cur, rfl, _⟩
  · exact ⟨none, 0, c⟩
  · exact ⟨_, cap, c⟩

set_option maxRecDepth 100000 in
set_option maxHeartbeats 8000000 in
theorem begun30 (b k l s r : Int) (hz : slotOk b k l s r = true) (w : World) :
    Calls Try.prog 52 #[cfgV b k l, shpV s r] w fun e w' => ∃ B, e = .returned (.tuple #[.pointer (some ⟨B, 0, none⟩), .int .i64 0]) ∧ P30 B b k l s r (k + b * r) (sumTo (szAt b k s r)) 0 w' ∧ w.heap.size ≤ B ∧ Below w.heap.size w w' := by
  have K1 := Lib.hid (fun w => layout_r b k l s r hz w)
  have K2 := Lib.hid (fun w => slots_r b k l s r w)
  have K3 := Lib.hid (fun w => need_r b k l s r hz w)
  have HP := Lib.hid (Plain.start w b k l s r)
  rw [show slotE b k l s r = 0 by unfold slotE; rw [if_pos hz], show slotV b k l s r = k + b * r by unfold slotV; rw [if_pos hz]] at K2
  unfold needV at K3
  generalize k + b * r = q at *
  generalize sumTo (szAt b k s r) = t at *
  clear hz
  obtain ⟨⟨d0, d1, d2⟩, ⟨d3, d4⟩, _⟩ := HP.out.cells
  unfold cfgV shpV at *
  go_enter Try.func52, Try.ntmps52
  go_wp2_with fail
  refine (K1.out _).mono ?_
  rintro e w1 ⟨v, rfl, ⟨xs, hown, hxs⟩, hb⟩
  have P1 := Lib.hid (HP.out.keep hb rfl)
  have HO := Lib.hid hown
  have HXS := Lib.hid hxs
  obtain ⟨g, cap, rfl, _, hg⟩ := hown.form (by omega)
  clear d0 d1 d2 d3 d4 hb hown hxs
  obtain ⟨⟨d0, d1, d2⟩, ⟨d3, d4⟩, _⟩ := P1.out.cells
  go_wp2_with fail
  refine (K2.out _).mono ?_
  rintro e w2 ⟨rfl, hb⟩
  have P2 := Lib.hid (P1.out.keep hb rfl)
  have HO2 := Lib.hid (ownsRow_below HO.out hb)
  clear d0 d1 d2 d3 d4 hb
  obtain ⟨⟨d0, d1, d2⟩, ⟨d3, d4⟩, _⟩ := P2.out.cells
  go_wp2_with fail
  refine (K3.out _).mono ?_
  rintro e w3 ⟨rfl, hb⟩
  have P3 := Lib.hid (P2.out.keep hb rfl)
  have HO3 := Lib.hid (ownsRow_below HO2.out hb)
  clear d0 d1 d2 d3 d4 hb
  obtain ⟨⟨d0, d1, d2⟩, ⟨d3, d4⟩, _⟩ := P3.out.cells
  have hc : ∀ i, i < 9 → w3.cell? ⟨g, i * 3 + 1, none⟩ = some (.int .i64 (t i)) := fun i hi => (HO3.out.cellAt (i * 3 + 1) (by omega)).trans (HXS.out i hi).2
  have e0 := hc 0 (by omega)
  have e1 := hc 1 (by omega)
  have e2 := hc 2 (by omega)
  have e3 := hc 3 (by omega)
  have e4 := hc 4 (by omega)
  have e5 := hc 5 (by omega)
  have e6 := hc 6 (by omega)
  have e7 := hc 7 (by omega)
  have e8 := hc 8 (by omega)
  simp only [Nat.zero_mul, Nat.zero_add, Nat.reduceMul, Nat.reduceAdd] at e0 e1 e2 e3 e4 e5 e6 e7 e8
  clear hc
  go_wp2_with fail
  go_still_tail 41, (by kernel_rfl)
  go_wp2_with fail
  go_ret2
  refine ⟨w3.heap.size, rfl, ⟨.slice none 0 0, [], ?_, World.ownsRow_nil _ _ _ _⟩, P3.out.bel.size, ?_⟩
  · exact heap_alloc_new _ _
  · first | exact P3.out.bel.drew.alloc P3.out.bel.size _ | exact (P3.out.bel.alloc P3.out.bel.size _).drew
end Go.Proofs.Ytdfofojlnkhjjaa
