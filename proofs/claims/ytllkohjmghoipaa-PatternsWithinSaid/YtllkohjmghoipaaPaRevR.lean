/- Reverse of the reference. -/
import Derived.Test.YtllkohjmghoipaaPaSame
import Derived.Test.YtllkohjmghoipaaPaEndR
import Derived.Test.YtllkohjmghoipaaPaPat
namespace Go.Proofs.Ytllkohjmghoipaa
open Go.RowKit Go.Sort

def revV (p : List El) : List El := if (checkV p).2 = 0 then p.reverse else []
def revTo (p : List El) (k : Nat) : List El := (p.drop k).reverse
theorem revTo_len (p : List El) (k : Nat) : (revTo p k).length = p.length - k := by simp [revTo]
theorem revTo_step {p : List El} {k : Nat} (h : k < p.length) : revTo p k = revTo p (k + 1) ++ [p[k]] := by
  unfold revTo
  rw [List.drop_eq_getElem_cons h, List.reverse_cons]
set_option maxRecDepth 100000 in
set_option maxHeartbeats 20000000 in
theorem reverse_r (v : Value) (p : List El) (w : World) (h : Pats w v p) :
    Calls Try.prog 27 #[v] w (PatP w (revV p) (checkV p).2) := by
  have KS := Lib.hid (check_r v p w h)
  have HP := Lib.hid h
  unfold revV
  by_cases h0 : (checkV p).2 = 0
  · have hok := okP_of h0
    have hl : p.length ≤ 512 := hok.le
    rw [if_pos h0, h0]
    rw [checkV_ok h0] at KS
    obtain ⟨a, cap, rfl⟩ := Row.form2 h
    obtain ⟨j0, hj, hy0, hy1, hy2⟩ := info_parts infoEl
    have wl : IntKind.i64.wrap ((p.length : Int) - 1) = (p.length : Int) - 1 := IntWalk.i64_in _ (by omega)
    clear h h0 hok
    go_enter Try.func27, Try.ntmps27
    go_wp2_with fail
    refine KS.out.mono ?_
    rintro e w5 ⟨rfl, hb1⟩
    have HB := Lib.hid hb1
    clear hb1 KS
    go_wp2_with fail
    go_loopw [6, 7] (fun ov nv wr => ∃ n : Nat, n ≤ p.length ∧ nv = .int .i64 ((n : Int) - 1) ∧ wr.ownsRow w5.heap.size 47 7 ov (revTo p n).length (pcells (revTo p n)) ∧ Below w5.heap.size w5 wr) (fun _ nv _ => (intOf nv + 1).toNat)
    case atStart => exact ⟨p.length, by omega, rfl, by rw [show revTo p p.length = [] by simp [revTo]]; exact World.ownsRow_nil _ _ _ _, Below.refl _ _⟩
    case round =>
      obtain ⟨n, hn, rfl, hown, hB2⟩ := hrel
      obtain ⟨oa, ocap, rfl⟩ := Row.form2 (Row.of_owns hown)
      have HO := Lib.hid hown
      have HB2 := Lib.hid hB2
      have hs2 := hB2.size
      cases n with
      | zero =>
        clear hown hB2
        go_wp2_with fail
        go_ret2
        exact show PatP _ _ _ _ _ from ⟨_, rfl, ownsRow_base (by have := HO.out; rwa [show revTo p 0 = p.reverse from rfl] at this) HB.out.size, next HB.out HB2.out⟩
      | succ m =>
        have hlt : m < p.length := by omega
        obtain ⟨g, o, hga, hg, c0, c1, c2, c3, c4, c5, c6⟩ := Pats.at (Row.below HP.out (next HB.out hB2)) hlt
        subst hga
        have e1 : (((m + 1 : Nat) : Int) - 1) = (m : Int) := by omega
        have n0 : (0 : Int) ≤ (m : Int) := by omega
        have n1 : (m : Int) < (p.length : Int) := by omega
        have wn1 : IntKind.i64.wrap ((m : Int) - 1) = (m : Int) - 1 := IntWalk.i64_in _ (by omega)
        have HE := Lib.hid (revTo_step hlt)
        have hlen : (revTo p (m + 1)).length ≤ 512 := by rw [revTo_len]; omega
        have HX := Lib.hid (show pcell p[m] = [.bool p[m].gap, .int .u64 (word p[m].cls 0 : Int), .int .u64 (word p[m].cls 1 : Int), .int .u64 (word p[m].cls 2 : Int), .int .u64 (word p[m].cls 3 : Int), .int .i64 p[m].low, .int .i64 p[m].high] from rfl)
        clear hown hB2
        generalize p[m] = x at *
        rw [e1]
        go_wp2_with (at_builtin; refine wpList_append_lies _ rfl _ _ _ rfl w5.heap.size 47 j0 _ 7 56 Try.underlying22 hj hy0 hy1 hy2 rfl (by decide) (.slice oa (revTo p (m + 1)).length ocap) (revTo p (m + 1)).length (pcells (revTo p (m + 1))) rfl (HO.out.alloc _) ⟨wr.heap.size, 0, none⟩ 1 1 (pcell x) rfl rfl (World.news_of_block (cs := (pcell x).toArray) (t := 47) (fr := (0, 0)) (heap_alloc_new wr _)) (by simp [Value.oneCell', pcell]) (by decide) (by unfold maxLen; omega) (by omega) (by simp; omega) (wr.heap.size + 1) (by simp) ?_; intro g9 cap9 w9 hown9 hgrow9 hat9 hlt9)
        have hal := (Below.refl w5.heap.size wr).alloc hs2 (.cells (pcell x).toArray 47)
        have hb9 : Below w5.heap.size wr w9 := hal.grown hgrow9 (by simp; omega) (fun q e => (HO.out.lt q e).1)
        have hend : w9.ownsRow w5.heap.size 47 7 (.slice (some ⟨g9, 0, none⟩) ((revTo p (m + 1)).length + 1) cap9) (revTo p m).length (pcells (revTo p m)) := by
          rw [HE.out, List.length_append, List.length_singleton, pcells_snoc]
          exact hown9
        exact ⟨⟨m, by omega, by go_num, hend, HB2.out.trans hb9⟩, by simp [intOf]⟩
  · rw [if_neg h0]
    have t1 : ((checkV p).2 != 0) = true := bne_iff_ne.2 h0
    generalize (checkV p).2 = E at *
    generalize (checkV p).1 = E' at *
    clear h h0
    go_enter Try.func27, Try.ntmps27
    go_wp2_with fail
    refine KS.out.mono ?_
    rintro e w1 ⟨rfl, hb1⟩
    have HB1 := Lib.hid hb1
    clear hb1
    go_wp2_with fail
    go_ret2
    exact show PatP _ _ _ _ _ from ⟨_, rfl, World.ownsRow_nil _ _ _ _, HB1.out⟩
end Go.Proofs.Ytllkohjmghoipaa
