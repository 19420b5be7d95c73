/- Layer 4's reference: Close, Closed, Open. -/
import Derived.Test.YtfgfjapjpiilfaaFoldN
namespace Go.Proofs.Ytfgfjapjpiilfaa
open Go.RowKit

def anyL (bs : List UInt8) : CSet := bs.foldl (fun s b => s ||| bothS b.toNat) 0#256
theorem ownsRow_put {w : World} {base B : Nat} {e : TypeId} {size : Nat} {v : Value} {n : Nat} {xs : List Value} (h : w.ownsRow base e size v n xs) (hB : B < base) (s : CSet) : (putSet w B s).ownsRow base e size v n xs := by
  obtain ⟨h1, h2⟩ := h
  refine ⟨h1, ?_⟩
  rcases h2 with h | ⟨g, cap, cur, rfl, hlo, hg, rest⟩
  · exact .inl h
  · refine .inr ⟨g, cap, cur, rfl, hlo, ?_, rest⟩
    have hne : g ≠ B := by omega
    unfold putSet
    rw [Below.heap_setCell _ _ _ _ hne, Below.heap_setCell _ _ _ _ hne, Below.heap_setCell _ _ _ _ hne, Below.heap_setCell _ _ _ _ hne]
    exact hg
theorem ownsRow_after {W w w' : World} {base : Nat} {e : TypeId} {size : Nat} {v : Value} {n : Nat} {xs : List Value} (h : W.ownsRow base e size v n xs) (hb : Below w.heap.size w w') (e' : W.heap = w.heap := by rfl) : w'.ownsRow base e size v n xs :=
  ownsRow_below (w := w) (by unfold World.ownsRow at h ⊢; rw [← e']; exact h) hb
theorem anyL_snoc (bs : List UInt8) (b : UInt8) : anyL (bs ++ [b]) = anyL bs ||| bothS b.toNat := by simp [anyL]
def closeS (s : CSet) : CSet := s ||| anyL (listS s)
theorem closeTo_succ {s : CSet} {l : List UInt8} {k : Nat} (hk : k < l.length) : s ||| anyL (l.take (k + 1)) = (s ||| anyL (l.take k)) ||| bothS l[k].toNat := by
  rw [List.take_succ_eq_append_getElem hk, anyL_snoc, BitVec.or_assoc]
theorem anyL_nil (s : CSet) (l : List UInt8) : s ||| anyL (l.take 0) = s := by simp [anyL]

def openL (s : CSet) (bs : List UInt8) : CSet := bs.foldl (fun t b => if bothS b.toNat &&& ~~~s = 0#256 then t else t &&& ~~~(bit b.toNat)) s
theorem openL_snoc (s : CSet) (bs : List UInt8) (b : UInt8) : openL s (bs ++ [b]) = if bothS b.toNat &&& ~~~s = 0#256 then openL s bs else openL s bs &&& ~~~(bit b.toNat) := by simp [openL]
def openS (s : CSet) : CSet := openL s (listS s)

set_option maxRecDepth 100000 in
set_option maxHeartbeats 1000000 in
theorem close4 (s : CSet) (w : World) : Calls Try.prog 24 #[setV s] w fun e w' => e = .returned (setV (closeS s)) ∧ Below w.heap.size w w' := by
  have a0 := (SetAt.new w s).alloc (.cells #[.int .u64 0, .int .u64 0, .int .u64 0, .int .u64 0] 36)
  have a1 := SetAt.zero (w.alloc (.cells (setC s) 36))
  rw [World.size_alloc] at a1
  have a2 := SetAt.new ((w.alloc (.cells (setC s) 36)).alloc (.cells #[.int .u64 0, .int .u64 0, .int .u64 0, .int .u64 0] 36)) s
  rw [World.size_alloc, World.size_alloc] at a2
  have b0 := a0.alloc (.cells (setC s) 36)
  have b1 := a1.alloc (.cells (setC s) 36)
  have hB0 : Below w.heap.size w (((w.alloc (.cells (setC s) 36)).alloc (.cells #[.int .u64 0, .int .u64 0, .int .u64 0, .int .u64 0] 36)).alloc (.cells (setC s) 36)) := (((Below.refl _ _).alloc (Nat.le_refl _) _).alloc (by simp) _).alloc (by simp; omega) _
  have A0 := Lib.hid b0
  have A1 := Lib.hid b1
  have A2 := Lib.hid a2
  have HB0 := Lib.hid hB0
  clear a0 a1 a2 b0 b1 hB0
  have hcl := fun k => closeTo_succ (s := s) (l := listS s) (k := k)
  have HCL := Lib.hid hcl
  have HCS := Lib.hid (show closeS s = s ||| anyL (listS s) from rfl)
  clear hcl
  unfold setV setC
  go_enter Try.func24, Try.ntmps24
  go_wp2_with fail
  refine (list_r s _).mono ?_
  rintro e w1 ⟨v, rfl, hown, hb1⟩
  have h0 := A0.out.after hb1 (by simp <;> omega)
  have h1 := A1.out.after hb1 (by simp <;> omega)
  have h2 := A2.out.after hb1 (by simp <;> omega)
  have HB1 := Lib.hid (next HB0.out hb1)
  have hR := Row.of_owns hown
  simp only [World.size_alloc] at hown
  have HO := Lib.hid hown
  obtain ⟨a, cap, rfl⟩ : ∃ a cap, v = .slice a (listS s).length cap := by obtain ⟨_, _, a, cap, e, _⟩ := hR; exact ⟨a, cap, e⟩
  have hmax : (listS s).length ≤ 256 := listTo_le s 256
  generalize listS s = l at *
  clear hb1 hown hR
  go_wp2_with fail
  go_loopw [5] (fun iv wr => ∃ k : Nat, k ≤ l.length ∧ iv = .int .i64 (k : Nat) ∧ SetAt wr w.heap.size s ∧ SetAt wr (w.heap.size + 1) 0#256 ∧ SetAt wr (w.heap.size + 1 + 1) (s ||| anyL (l.take k)) ∧ wr.ownsRow (w.heap.size + 1 + 1 + 1) 5 1 (.slice a l.length cap) l.length (bcells l) ∧ Below w.heap.size w wr) (fun iv _ => l.length - (intOf iv).toNat)
  case atStart => exact ⟨0, by omega, rfl, h0, h1, by rw [anyL_nil]; exact h2, HO.out, HB1.out⟩
  case round =>
    obtain ⟨k, hk, rfl, h0, h1, h2, hW, hB⟩ := hrel
    have l0 := h0.lt
    have l1 := h1.lt
    have l2 := h2.lt
    have hz := hB.size
    by_cases hlt : k < l.length
    · obtain ⟨g, o, cap', hv', hg, hcell⟩ := Row.byteAt (Row.of_owns hW) hlt
      cases hv'
      have i1 : (0 : Int) ≤ (k : Int) := by omega
      have i2 : (k : Int) < (l.length : Int) := by omega
      have hlb : l[k].toNat < 256 := l[k].toNat_lt
      obtain ⟨c0, c1, c2, c3⟩ := h2.cells
      have HOF := Lib.hid (HCL.out k hlt)
      generalize l[k] = x at *
      go_wp2_with fail
      go_region_with (first
        | (go_at_call 31; refine (both4 x.toNat hlb _).mono ?_; rintro e w2 ⟨rfl, hb2⟩; have k0 := h0.after hb2 l0; have k1 := h1.after hb2 l1; have k2 := h2.after hb2 l2; have HB2 := Lib.hid (next hB.drew hb2); have HW2 := Lib.hid (ownsRow_after hW hb2); obtain ⟨e0, e1, e2, e3⟩ := k2.cells; have m0 := k0.lt; have m1 := k1.lt; have m2 := k2.lt; clear hb2; unfold setV setC)
        | (go_at_call 32; refine (union_r (s ||| anyL (l.take k)) (bothS x.toNat) _).mono ?_; rintro e w3 ⟨rfl, hb3⟩; rw [← HOF.out]; unfold setV setC; have n0 := k0.after hb3 m0; have n1 := k1.after hb3 m1; have n2 := k2.after hb3 m2; obtain ⟨f0, f1, f2, f3⟩ := n2.free; obtain ⟨d0, d1, d2, d3⟩ := n2.cells; have HB3 := Lib.hid (next HB2.out hb3); have HW3 := Lib.hid (ownsRow_after HW2.out hb3); clear hb3))
      all_goals
        clear f0 f1 f2 f3 d0 d1 d2 d3 c0 c1 c2 c3 e0 e1 e2 e3
        go_wp2_with fail
        refine ⟨⟨k + 1, by omega, by go_num, n0.other (by omega) _, n1.other (by omega) _, n2.put _, ownsRow_put HW3.out (by omega) _, below_put HB3.out (by omega) _⟩, by simp [intOf]; omega⟩
    · obtain rfl : l.length = k := by omega
      rw [List.take_length, ← HCS.out] at h2
      obtain ⟨c0, c1, c2, c3⟩ := h2.cells
      obtain ⟨d0, d1, d2, d3⟩ := h1.cells
      obtain ⟨f0, f1, f2, f3⟩ := h1.free
      go_wp2_with fail
      obtain ⟨q0, q1, q2, q3⟩ := (h1.put (closeS s)).cells
      show bodyPost _ _ _ _ _ (putSet wr (w.heap.size + 1) (closeS s))
      exact bodyPost_ret (v := .agg #[.int .u64 _, .int .u64 _, .int .u64 _, .int .u64 _]) (by simp [results, Try.results24, go_sem, q0, q1, q2, q3]) rfl ⟨rfl, below_put hB (by omega) _⟩

set_option maxRecDepth 100000 in
set_option maxHeartbeats 1000000 in
theorem closed4 (s : CSet) (w : World) : Calls Try.prog 23 #[setV s] w fun e w' => e = .returned (.bool (decide (closeS s = s))) ∧ Below w.heap.size w w' := by
  have a0 := SetAt.new w s
  have hB0 : Below w.heap.size w (w.alloc (.cells (setC s) 36)) := (Below.refl _ _).alloc (Nat.le_refl _) _
  have A0 := Lib.hid a0
  have HB0 := Lib.hid hB0
  clear a0 hB0
  have heq := fun w => eq_set w (closeS s) s
  unfold setV setC
  go_enter Try.func23, Try.ntmps23
  go_wp2_with fail
  go_region_with (first
    | (go_at_call 24; refine (close4 s _).mono ?_; rintro e w1 ⟨rfl, hb1⟩; unfold setV setC; have k0 := A0.out.after hb1 (by simp <;> omega); obtain ⟨c0, c1, c2, c3⟩ := k0.cells; have HB1 := Lib.hid (next HB0.out.drew hb1); clear hb1))
  all_goals
    go_wp2_with fail
    go_ret
    exact ⟨rfl, HB1.out⟩

set_option maxRecDepth 100000 in
set_option maxHeartbeats 2000000 in
theorem open4 (s : CSet) (w : World) : Calls Try.prog 26 #[setV s] w fun e w' => e = .returned (setV (openS s)) ∧ Below w.heap.size w w' := by
  have a0 := (SetAt.new w s).alloc (.cells #[.int .u64 0, .int .u64 0, .int .u64 0, .int .u64 0] 36)
  have a1 := SetAt.zero (w.alloc (.cells (setC s) 36))
  rw [World.size_alloc] at a1
  have a2 := SetAt.new ((w.alloc (.cells (setC s) 36)).alloc (.cells #[.int .u64 0, .int .u64 0, .int .u64 0, .int .u64 0] 36)) s
  rw [World.size_alloc, World.size_alloc] at a2
  have b0 := a0.alloc (.cells (setC s) 36)
  have b1 := a1.alloc (.cells (setC s) 36)
  have hB0 : Below w.heap.size w (((w.alloc (.cells (setC s) 36)).alloc (.cells #[.int .u64 0, .int .u64 0, .int .u64 0, .int .u64 0] 36)).alloc (.cells (setC s) 36)) := (((Below.refl _ _).alloc (Nat.le_refl _) _).alloc (by simp) _).alloc (by simp; omega) _
  have A0 := Lib.hid b0
  have A1 := Lib.hid b1
  have A2 := Lib.hid a2
  have HB0 := Lib.hid hB0
  clear a0 a1 a2 b0 b1 hB0
  have hcl := fun (k : Nat) (hk : k < (listS s).length) => show openL s ((listS s).take (k + 1)) = _ by rw [List.take_succ_eq_append_getElem hk, openL_snoc]
  have HCL := Lib.hid hcl
  have HCS := Lib.hid (show openS s = openL s (listS s) from rfl)
  clear hcl
  unfold setV setC
  go_enter Try.func26, Try.ntmps26
  go_wp2_with fail
  refine (list_r s _).mono ?_
  rintro e w1 ⟨v, rfl, hown, hb1⟩
  have h0 := A0.out.after hb1 (by simp <;> omega)
  have h1 := A1.out.after hb1 (by simp <;> omega)
  have h2 := A2.out.after hb1 (by simp <;> omega)
  have HB1 := Lib.hid (next HB0.out hb1)
  have hR := Row.of_owns hown
  simp only [World.size_alloc] at hown
  have HO := Lib.hid hown
  obtain ⟨a, cap, rfl⟩ : ∃ a cap, v = .slice a (listS s).length cap := by obtain ⟨_, _, a, cap, e, _⟩ := hR; exact ⟨a, cap, e⟩
  have hmax : (listS s).length ≤ 256 := listTo_le s 256
  generalize listS s = l at *
  clear hb1 hown hR
  go_wp2_with fail
  go_loopw [5] (fun iv wr => ∃ k : Nat, k ≤ l.length ∧ iv = .int .i64 (k : Nat) ∧ SetAt wr w.heap.size s ∧ SetAt wr (w.heap.size + 1) 0#256 ∧ SetAt wr (w.heap.size + 1 + 1) (openL s (l.take k)) ∧ wr.ownsRow (w.heap.size + 1 + 1 + 1) 5 1 (.slice a l.length cap) l.length (bcells l) ∧ Below w.heap.size w wr) (fun iv _ => l.length - (intOf iv).toNat)
  case atStart => exact ⟨0, by omega, rfl, h0, h1, h2, HO.out, HB1.out⟩
  case round =>
    obtain ⟨k, hk, rfl, h0, h1, h2, hW, hB⟩ := hrel
    have l0 := h0.lt
    have l1 := h1.lt
    have l2 := h2.lt
    have hz := hB.size
    by_cases hlt : k < l.length
    · obtain ⟨g, o, cap', hv', hg, hcell⟩ := Row.byteAt (Row.of_owns hW) hlt
      cases hv'
      have i1 : (0 : Int) ≤ (k : Int) := by omega
      have i2 : (k : Int) < (l.length : Int) := by omega
      have hlb : l[k].toNat < 256 := l[k].toNat_lt
      obtain ⟨c0, c1, c2, c3⟩ := h0.cells
      have HOF := Lib.hid (HCL.out k hlt)
      obtain ⟨D, hD⟩ : ∃ D, D = decide (bothS l[k].toNat &&& ~~~s = 0#256) := ⟨_, rfl⟩
      have HD := Lib.hid hD
      clear hD
      go_wp2_with fail
      go_region_with (first
        | (go_at_call 31; refine (both4 l[k].toNat hlb _).mono ?_; rintro e w2 ⟨rfl, hb2⟩; have k0 := h0.after hb2 l0; have k1 := h1.after hb2 l1; have k2 := h2.after hb2 l2; have HB2 := Lib.hid (next hB.drew hb2); have HW2 := Lib.hid (ownsRow_after hW hb2); obtain ⟨e0, e1, e2, e3⟩ := k0.cells; have m0 := k0.lt; have m1 := k1.lt; have m2 := k2.lt; clear hb2; unfold setV setC)
        | (go_at_call 33; refine (sub_r (bothS l[k].toNat) s _).mono ?_; rintro e w3 ⟨rfl, hb3⟩; rw [← HD.out]; have n0 := k0.after hb3 m0; have n1 := k1.after hb3 m1; have n2 := k2.after hb3 m2; have HB3 := Lib.hid (next HB2.out hb3); have HW3 := Lib.hid (ownsRow_after HW2.out hb3); clear hb3))
      all_goals
        clear c0 c1 c2 c3 e0 e1 e2 e3 hcell
        cases D with
        | true =>
          have hs : bothS l[k].toNat &&& ~~~s = 0#256 := of_decide_eq_true HD.out.symm
          have hof := HOF.out
          rw [if_pos hs] at hof
          have HOF' := Lib.hid hof
          clear hs hof
          go_wp2_with fail
          refine ⟨⟨k + 1, by omega, by go_num, n0, n1, by rw [HOF'.out]; exact n2, HW3.out, HB3.out⟩, by simp [intOf]; omega⟩
        | false =>
          have hs : ¬ bothS l[k].toNat &&& ~~~s = 0#256 := of_decide_eq_false HD.out.symm
          have hof := HOF.out
          rw [if_neg hs] at hof
          have HOF' := Lib.hid hof
          clear hs hof
          obtain ⟨g, o, cap', hv', hg, hcell⟩ := Row.byteAt (Row.of_owns HW3.out) hlt
          cases hv'
          obtain ⟨c0, c1, c2, c3⟩ := n2.cells
          have m0 := n0.lt
          have m1 := n1.lt
          have m2 := n2.lt
          go_wp2_with fail
          go_region_with (first
            | (go_at_call 53; refine (drop_r (openL s (l.take k)) l[k].toNat hlb _).mono ?_; rintro e w4 ⟨rfl, hb4⟩; rw [← HOF'.out]; unfold setV setC; have o0 := n0.after hb4 m0; have o1 := n1.after hb4 m1; have o2 := n2.after hb4 m2; obtain ⟨f0, f1, f2, f3⟩ := o2.free; obtain ⟨d0, d1, d2, d3⟩ := o2.cells; have HB4 := Lib.hid (next HB3.out.drew hb4); have HW4 := Lib.hid (ownsRow_after HW3.out hb4); clear hb4))
          all_goals
            clear f0 f1 f2 f3 d0 d1 d2 d3 c0 c1 c2 c3 hcell
            go_wp2_with fail
            refine ⟨⟨k + 1, by omega, by go_num, o0.other (by omega) _, o1.other (by omega) _, o2.put _, ownsRow_put HW4.out (by omega) _, below_put HB4.out (by omega) _⟩, by simp [intOf]; omega⟩
    · obtain rfl : l.length = k := by omega
      rw [List.take_length, ← HCS.out] at h2
      obtain ⟨c0, c1, c2, c3⟩ := h2.cells
      obtain ⟨d0, d1, d2, d3⟩ := h1.cells
      obtain ⟨f0, f1, f2, f3⟩ := h1.free
      go_wp2_with fail
      obtain ⟨q0, q1, q2, q3⟩ := (h1.put (openS s)).cells
      show bodyPost _ _ _ _ _ (putSet wr (w.heap.size + 1) (openS s))
      exact bodyPost_ret (v := .agg #[.int .u64 _, .int .u64 _, .int .u64 _, .int .u64 _]) (by simp [results, Try.results26, go_sem, q0, q1, q2, q3]) rfl ⟨rfl, below_put hB (by omega) _⟩

end Go.Proofs.Ytfgfjapjpiilfaa
