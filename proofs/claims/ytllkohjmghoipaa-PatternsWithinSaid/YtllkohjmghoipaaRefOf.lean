/- Layer 3's reference: Of. -/
import Derived.Test.YtllkohjmghoipaaSetAt
namespace Go.Proofs.Ytllkohjmghoipaa
open Go.RowKit

theorem Row.byteAt {w : World} {v : Value} {l : List UInt8} (h : Row w 1 v l.length (bcells l)) {k : Nat} (hk : k < l.length) :
    ∃ g o cap, v = .slice (some ⟨g, o, none⟩) l.length cap ∧ g < w.heap.size ∧ w.cell? ⟨g, o + k, none⟩ = some (.int .u8 (l[k].toNat : Int)) := by
  obtain ⟨_, _, a, cap, rfl, _, h2⟩ := h
  rcases h2 with h0 | ⟨g, o, rfl, hc⟩
  · omega
  · have e := hc k (by omega)
    have e2 : (bcells l)[k]? = some (.int .u8 (l[k].toNat : Int)) := by
      unfold bcells; rw [List.getElem?_map, List.getElem?_eq_getElem hk]; rfl
    exact ⟨g, o, cap, rfl, World.block_lt_of_cell? w _ (e.trans e2), e.trans e2⟩
theorem ofL_take {l : List UInt8} {k : Nat} (hk : k < l.length) : ofL (l.take (k + 1)) = ofL (l.take k) ||| bit l[k].toNat := by
  rw [List.take_succ_eq_append_getElem hk, ofL_snoc]

set_option maxRecDepth 100000 in
set_option maxHeartbeats 1000000 in
theorem of_r (v : Value) (l : List UInt8) (w : World) (h : Row w 1 v l.length (bcells l)) :
    Calls Try.prog 47 #[v] w fun e w' => e = .returned (setV (ofL l)) ∧ Below w.heap.size w w' := by
  obtain ⟨a, cap, hv⟩ : ∃ a cap, v = .slice a l.length cap := by obtain ⟨_, _, a, cap, e, _⟩ := h; exact ⟨a, cap, e⟩
  have hmax : l.length ≤ maxLen := h.2.1
  unfold maxLen at hmax
  have HR := Lib.hid h
  have HV := Lib.hid hv
  have a0 := (SetAt.zero w).alloc (.cells #[.int .u64 0, .int .u64 0, .int .u64 0, .int .u64 0] 45)
  have a1 := SetAt.zero (w.alloc (.cells #[.int .u64 0, .int .u64 0, .int .u64 0, .int .u64 0] 45))
  rw [World.size_alloc] at a1
  have hB0 : Below w.heap.size w ((w.alloc (.cells #[.int .u64 0, .int .u64 0, .int .u64 0, .int .u64 0] 45)).alloc (.cells #[.int .u64 0, .int .u64 0, .int .u64 0, .int .u64 0] 45)) := ((Below.refl _ _).alloc (Nat.le_refl _) _).alloc (by simp) _
  have A0 := Lib.hid a0
  have A1 := Lib.hid a1
  have HB0 := Lib.hid hB0
  subst hv
  clear a0 a1 hB0 h
  go_enter Try.func47, Try.ntmps47
  go_wp2_with fail
  go_loopw [4] (fun iv wr => ∃ k : Nat, k ≤ l.length ∧ iv = .int .i64 (k : Nat) ∧ SetAt wr w.heap.size 0#256 ∧ SetAt wr (w.heap.size + 1) (ofL (l.take k)) ∧ Below w.heap.size w wr) (fun iv _ => l.length - (intOf iv).toNat)
  case atStart => exact ⟨0, by omega, rfl, A0.out, A1.out, HB0.out⟩
  case round =>
    obtain ⟨k, hk, rfl, h0, h1, hB⟩ := hrel
    by_cases hlt : k < l.length
    · obtain ⟨g, o, cap', hv', hg, hcell⟩ := Row.byteAt HR.out hlt
      cases hv'
      have hcell' := (hB.cell (p := ⟨g, o + k, none⟩) hg).trans hcell
      have i1 : (0 : Int) ≤ (k : Int) := by omega
      have i2 : (k : Int) < (l.length : Int) := by omega
      have hlb : l[k].toNat < 256 := l[k].toNat_lt
      have l1 := h1.lt
      have l0 := h0.lt
      obtain ⟨c0, c1, c2, c3⟩ := h1.cells
      have hz := hB.size
      have HOF := Lib.hid (ofL_take hlt)
      generalize l[k] = x at *
      clear hcell
      go_wp2_with fail
      go_region_with (first
        | (go_at_call 54; refine (add_r (ofL (l.take k)) x.toNat hlb _).mono ?_; rintro e w2 ⟨rfl, hb2⟩; rw [← HOF.out]; unfold setV setC; have k1 := h1.after hb2 l1; have k0 := h0.after hb2 l0; obtain ⟨f0, f1, f2, f3⟩ := k1.free; obtain ⟨d0, d1, d2, d3⟩ := k1.cells; have HB2 := Lib.hid (next hB.drew hb2); clear hb2))
      all_goals
        clear f0 f1 f2 f3 d0 d1 d2 d3 c0 c1 c2 c3
        go_wp2_with fail
        refine ⟨⟨k + 1, by omega, by go_num, k0.other (by omega) _, k1.put _, below_put HB2.out (by omega) _⟩, by simp [intOf]; omega⟩
    · obtain rfl : l.length = k := by omega
      rw [List.take_length] at h1
      obtain ⟨c0, c1, c2, c3⟩ := h1.cells
      obtain ⟨d0, d1, d2, d3⟩ := h0.cells
      obtain ⟨f0, f1, f2, f3⟩ := h0.free
      go_wp2_with fail
      obtain ⟨q0, q1, q2, q3⟩ := (h0.put (ofL l)).cells
      show bodyPost _ _ _ _ _ (putSet wr w.heap.size (ofL l))
      exact bodyPost_ret (v := .agg #[.int .u64 _, .int .u64 _, .int .u64 _, .int .u64 _]) (by simp [results, Try.results47, go_sem, q0, q1, q2, q3]) rfl ⟨rfl, below_put hB (Nat.le_refl _) _⟩

end Go.Proofs.Ytllkohjmghoipaa
