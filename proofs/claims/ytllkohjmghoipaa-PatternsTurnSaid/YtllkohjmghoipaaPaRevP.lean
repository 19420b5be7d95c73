/- Reverse of patterns. -/
import Derived.Test.YtllkohjmghoipaaPaClone
import Derived.Test.YtllkohjmghoipaaPaRevL
import Derived.Test.YtllkohjmghoipaaOwnK
import Derived.Test.YtllkohjmghoipaaPaRevR
namespace Go.Proofs.Ytllkohjmghoipaa
open Go.RowKit Go.Sort

theorem pcell_len (x : El) : (pcell x).length = 7 := rfl
theorem pcell_one (x : El) : ∀ v ∈ pcell x, v.oneCell' = true := fun v hv => pcells_one [x] v (by simpa [pcells] using hv)
instance : Inhabited El := ⟨⟨false, 0#256, 0, 0⟩⟩
theorem turn_p (g n cap base : Nat) (p : List El) (w : World) (h : w.ownsRow base 47 7 (.slice (some ⟨g, 0, none⟩) n cap) n (pcells p)) (hn : p.length = n) (hm : n ≤ 1000) :
    Calls Try.prog 41 #[.slice (some ⟨g, 0, none⟩) n cap] w fun e w' => e = .returned (.tuple #[]) ∧ w'.ownsRow base 47 7 (.slice (some ⟨g, 0, none⟩) n cap) n (pcells p.reverse) ∧ Below base w w' := by
  have hb : base ≤ g := (h.lt _ rfl).1
  have hH := holdsK_of_owns (enc := pcell) (k := 7) pcell_len h
  have := AnyQ.slices_Reverse reverseL 7 Try.isAgg47 Try.sizeOf47 pcell pcell_len pcell_one g 0 cap p.toArray w hH (by simp; omega)
  rw [List.size_toArray, hn] at this
  refine this.mono ?_
  rintro e w' ⟨rfl, q, rfl⟩
  refine ⟨rfl, ?_, below_putRowK (Below.refl _ _) hb⟩
  have := owns_putRowK (q := q) (ys := p.reverse) (m := n) pcell_len h (by simpa using hn) (Nat.le_refl _)
  rw [List.take_of_length_le (by simp; omega)] at this
  rw [List.reverse_toArray]
  exact this

set_option maxRecDepth 100000 in
set_option maxHeartbeats 4000000 in
theorem reverse_p (v : Value) (p : List El) (w : World) (h : Pats w v p) :
    Calls Try.prog 24 #[v] w (PatP w (revV p) (checkV p).2) := by
  have KS := Lib.hid (check_p v p w h)
  have HP := Lib.hid h
  unfold revV
  by_cases h0 : (checkV p).2 = 0
  · have hok := okP_of h0
    have hl : p.length ≤ 512 := hok.le
    have hp := hok.pos
    rw [if_pos h0, h0]
    rw [checkV_ok h0] at KS
    have KC := Lib.hid (fun w1 (hb : Below w.heap.size w w1) => clone_p v p w1 (Row.below h hb) hp (by omega))
    clear h h0 hok
    go_enter Try.func24, Try.ntmps24
    go_wp2_with fail
    refine KS.out.mono ?_
    rintro e w1 ⟨rfl, hb1⟩
    have K := Lib.hid (KC.out w1 hb1)
    have HB := Lib.hid hb1
    clear hb1 KS KC
    go_wp2_with fail
    refine K.out.mono ?_
    rintro e w2 ⟨u, rfl, ho, hb2⟩
    have hu : ∃ g cap, u = .slice (some ⟨g, 0, none⟩) p.length cap := by
      rcases ho.2 with ⟨_, e0⟩ | ⟨g, cap, _, e, _⟩
      · omega
      · exact ⟨g, cap, e⟩
    obtain ⟨g, cap, rfl⟩ := hu
    have K2 := Lib.hid (turn_p g p.length cap w1.heap.size p w2 ho rfl (by omega))
    have HB2 := Lib.hid hb2
    clear hb2 K ho
    go_wp2_with fail
    refine K2.out.mono ?_
    rintro e w3 ⟨rfl, ho3, hb3⟩
    have HO3 := Lib.hid ho3
    have HB3 := Lib.hid (next HB.out (HB2.out.trans hb3))
    clear hb3 K2 ho3
    go_wp2_with fail
    go_ret2
    exact show PatP _ _ _ _ _ from ⟨_, rfl, by rw [List.length_reverse]; exact ownsRow_base HO3.out HB.out.size, HB3.out⟩
  · rw [if_neg h0]
    have t1 : ((checkV p).2 != 0) = true := bne_iff_ne.2 h0
    generalize (checkV p).2 = E at *
    generalize (checkV p).1 = E' at *
    clear h h0
    go_enter Try.func24, Try.ntmps24
    go_wp2_with fail
    refine KS.out.mono ?_
    rintro e w1 ⟨rfl, hb1⟩
    have HB1 := Lib.hid hb1
    clear hb1
    go_wp2_with fail
    go_ret2
    exact show PatP _ _ _ _ _ from ⟨_, rfl, World.ownsRow_nil _ _ _ _, HB1.out⟩
end Go.Proofs.Ytllkohjmghoipaa
