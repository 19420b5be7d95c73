/- over: was the whole pattern read? walk: a pattern that has read nothing. -/
import Derived.Test.YtpjllppbpnkemaaPaRead
namespace Go.Proofs.Ytpjllppbpnkemaa
open Go.RowKit Go.Sort Go.Maps

def OverP (w0 w : World) (W : Nat) (pv : Value) (p : List El) (A : Nat) (ms : List Nat) (st : Nat → Nat → Bool) (e : Ending) (w' : World) : Prop :=
  e = .returned (.bool (st p.length 0)) ∧ WalkIn w0 w' W pv p A ms (fun j c => st j c && !(decide (j = p.length) && decide (c = 0))) ∧ Only ms w w'
set_option maxRecDepth 100000 in
set_option maxHeartbeats 4000000 in
theorem over_p {w0 w : World} {W : Nat} {pv : Value} {p : List El} {A : Nat} {ms : List Nat} {st : Nat → Nat → Bool} (h : WalkIn w0 w W pv p A ms st) (hs : p.length ≤ 512) :
    Calls Try.prog 43 #[.pointer (some ⟨W, 0, none⟩)] w (OverP w0 w W pv p A ms st) := by
  have HW := Lib.hid h
  obtain ⟨c0, c1⟩ := h.cells
  obtain ⟨b, hb, cm, hm⟩ := h.map (i := p.length) (Nat.le_refl _)
  obtain ⟨a, cap, rfl⟩ := Row.form2 h.pats
  have q0 := fun d os => cell_regrown c0 d os
  have q1 := fun d os => cell_regrown c1 d os
  have q2 := fun d os => cell_regrown cm d os
  have HBm := Lib.hid hb
  have i0 : (0 : Int) ≤ (p.length : Int) := by omega
  have i1 : (p.length : Int) < (p.length : Int) + 1 := by omega
  clear h c0 c1 cm hm hb
  go_enter Try.func43, Try.ntmps43
  go_wp2_with fail
  refine wp_region_quiet_below (by kernel_rfl) (by kernel_rfl) ?_
  repeat (go_big_quiet_step (fail))
  refine wpQuiet_nil ?_
  intro _ hw'
  obtain ⟨⟨dq, osq⟩, hw''⟩ := hw'
  subst hw''
  have hW2 := HW.out.below (below_regrown w dq osq)
  have HO2 := Lib.hid (Only.of_below (ms := ms) (below_regrown w dq osq))
  generalize Go.Sort.grow _ _ = w2 at *
  have hm2 : MapIs w2 b (st p.length) := by
    obtain ⟨hj, he⟩ := HBm.out
    have h := hW2.m p.length hj
    rw [he] at h
    exact h
  have hlk := hm2.look 0 (by omega)
  have hlk2 : (Instr.lookup 96 (.map (some b)) (.int .i64 0) false).run Try.prog w2 = .ok (.bool (st p.length 0)) w2 := hlk
  obtain ⟨w3, hd, hm3, hg3⟩ := hm2.drop 0 (by omega) 0
  have hd2 : (Builtin.delete_ #[96, 3] 0 #[.map (some b), .int .i64 0]).run Try.prog w2 = .ok (.tuple #[]) w3 := hd
  have HF := Lib.hid ((hW2.turn HBm.out hm3 hg3).congr (st' := fun j c => st j c && !(decide (j = p.length) && decide (c = 0))) (fun j c _ => by
    by_cases e : j = p.length
    · subst e; simp
    · simp [e]))
  have HON := Lib.hid (HO2.out.trans (Only.grown hg3 HBm.out))
  clear q0 q1 q2 hW2 hm2 hlk hd hm3 hg3
  go_wp2_with fail
  go_ret
  exact show OverP _ _ _ _ _ _ _ _ _ _ from ⟨rfl, HF.out, HON.out⟩
end Go.Proofs.Ytpjllppbpnkemaa
