/- slices.Clone of a pattern. -/
import Derived.Test.YtllkohjmghoipaaPaPat
import Derived.Lib.LazyBuf
namespace Go.Proofs.Ytllkohjmghoipaa
open Go.RowKit Go.Sort

set_option maxRecDepth 100000 in
set_option maxHeartbeats 4000000 in
theorem clone_p (v : Value) (p : List El) (w : World) (h : Pats w v p) (h0 : 0 < p.length) (h1 : p.length ≤ 1000) :
    Calls Try.prog 40 #[v] w fun e w' => ∃ u, e = .returned u ∧ w'.ownsRow w.heap.size 47 7 u p.length (pcells p) ∧ Below w.heap.size w w' := by
  obtain ⟨a, cap, rfl⟩ := Row.form2 h
  obtain ⟨g, o, rfl, _⟩ := Pats.at h h0
  have q22 : ∀ (w : World) (a : Option Addr) (n c : Nat), (binOp .eql 22 (.slice a n c) (.slice none 0 0)).run Try.prog w = .ok (.bool a.isNone) w := fun w a n c => Go.run_eql_slice_nil w _ _ a n c Try.underlying22
  have o0 : (w.alloc (.cells #[] 47)).ownsRow w.heap.size 47 7 (.slice (some ⟨w.heap.size, 0, none⟩) 0 0) ([] : List El).length (pcells []) := World.ownsRow_lit w #[] 0 (Nat.le_refl _) (by decide) rfl
  have al : Below w.heap.size w (w.alloc (.cells #[] 47)) := (Below.refl _ _).alloc (Nat.le_refl _) _
  obtain ⟨aa, ca, wa, hra, hoa, hba⟩ := app_el o0 (Row.below h al) (by simp; omega) al.size
  have HRA := Lib.hid hra
  have HBA := Lib.hid (al.trans hba)
  rw [List.nil_append] at hoa
  have HOA := Lib.hid hoa
  clear hoa hba hra al o0 h
  go_enter Try.func40, Try.ntmps40
  go_wp2_with (at_builtin; refine wpList_append_run rfl rfl rfl rfl HRA.out ?_)
  go_ret
  exact ⟨_, rfl, HOA.out, HBA.out⟩
end Go.Proofs.Ytllkohjmghoipaa
