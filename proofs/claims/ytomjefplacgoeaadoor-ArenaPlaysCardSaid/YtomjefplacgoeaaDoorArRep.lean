/- An arena in memory. -/
import Derived.Test.YtomjefplacgoeaaDoorProg
import Derived.Test.YtomjefplacgoeaaDoorRow
import Derived.Laws.AppendOwn
import Derived.Laws.EntriesVeiled
import Derived.BigQuiet
namespace Go.Proofs.YtomjefplacgoeaaDoor
open Go.RowKit

abbrev Reg := List UInt8 × Int × Int
def rcell (r : Reg) : List Value := [.string (str r.1), .int .i64 r.2.1, .int .i64 r.2.2]
def rcells (l : List Reg) : List Value := l.flatMap rcell
/-- a step: its kind and its cell -/
abbrev Ev := Nat × Nat
def evWord (e : Ev) : Nat := 4 * e.2 + e.1
def ccells (l : List Nat) : List Value := l.map fun (n : Nat) => Value.int .u64 (n : Int)
def ptrs (l : List Nat) : List Value := l.map fun (p : Nat) => Value.pointer (some ⟨p, 0, none⟩)

/-- of the blocks that were there only those of F were turned -/
structure Fr (F : List Nat) (W W' : World) : Prop where
  os : W'.os = W.os
  tape : W'.tape = W.tape
  output : W'.output = W.output
  size : W.heap.size ≤ W'.heap.size
  block : ∀ k, k < W.heap.size → k ∉ F → W'.heap[k]? = W.heap[k]?
theorem Fr.refl (F : List Nat) (W : World) : Fr F W W := ⟨rfl, rfl, rfl, Nat.le_refl _, fun _ _ _ => rfl⟩
theorem Fr.of_below {W W' : World} (F : List Nat) (h : Below W.heap.size W W') : Fr F W W' := ⟨h.os, h.tape, h.output, h.size, fun k hk _ => h.block k hk⟩
theorem Fr.trans {F F' : List Nat} {W W1 W2 : World} (h1 : Fr F W W1) (h2 : Fr F' W1 W2) (hF : ∀ k ∈ F', k ∈ F ∨ W.heap.size ≤ k) : Fr F W W2 :=
  ⟨h2.os.trans h1.os, h2.tape.trans h1.tape, h2.output.trans h1.output, Nat.le_trans h1.size h2.size, fun k hk hn =>
    (h2.block k (Nat.lt_of_lt_of_le hk h1.size) (fun hm => (hF k hm).elim hn (fun h => absurd hk (by omega)))).trans (h1.block k hk hn)⟩
theorem Fr.below {F : List Nat} {W W' : World} {N : Nat} (h : Fr F W W') (hF : ∀ k ∈ F, N ≤ k) (hN : N ≤ W.heap.size) : Below N W W' :=
  ⟨h.os, h.tape, h.output, h.size, fun k hk => h.block k (by omega) (fun hm => by have := hF k hm; omega)⟩

def blockOf (v : Value) : List Nat := v.ownBlock.toList

structure ArenaIn (W : World) (base : Nat) (F : List Nat) (A : Nat) (cs : List Nat) (rs : List Reg) (ev : List Ev) (pv rv : Value) (C : Nat) (PL : List Nat) (m : Nat) : Prop where
  a : W.heap[A]? = some (.cells #[pv, .int .i64 (ev.length : Int), .slice (some ⟨C, 0, none⟩) cs.length cs.length, rv, .func (.func 34) #[.pointer (some ⟨A, 0, none⟩)] #[]] 70)
  c : W.heap[C]? = some (.cells (ccells cs).toArray 31)
  p : W.ownsRow base 84 1 pv PL.length (ptrs PL)
  r : W.ownsRow base 43 3 rv rs.length (rcells rs)
  np : PL.length = m
  pg : ∀ i p, PL[i]? = some p → ∃ c, W.heap[p]? = some (.cells c 86) ∧ c.size = 4096 ∧ ∀ j (h : i * 4096 + j < ev.length), j < 4096 → c[j]? = some (.int .u32 (evWord (ev[i * 4096 + j]'h) : Int))
  nd : (A :: C :: (PL ++ blockOf pv ++ blockOf rv)).Nodup
  own : ∀ k ∈ A :: C :: (PL ++ blockOf pv ++ blockOf rv), k ∈ F ∧ base ≤ k ∧ k < W.heap.size
  lc : 1 ≤ cs.length ∧ cs.length ≤ 65536 ∧ ∀ n ∈ cs, n < 18446744073709551616
  le : ev.length ≤ 8388608 ∧ ∀ e ∈ ev, e.1 < 4 ∧ e.2 < 65536
  lr : rs.length ≤ 64

/-- an arena at the block A, of blocks of F -/
def ArenaAt (W : World) (base : Nat) (F : List Nat) (A : Nat) (cs : List Nat) (rs : List Reg) (ev : List Ev) : Prop := ∃ pv rv C PL, ArenaIn W base F A cs rs ev pv rv C PL ((ev.length + 4095) / 4096)

theorem owns_keep {W W' : World} {base : Nat} {e : TypeId} {size n : Nat} {v : Value} {xs : List Value} (h : W.ownsRow base e size v n xs) (hk : ∀ k ∈ blockOf v, W'.heap[k]? = W.heap[k]?) : W'.ownsRow base e size v n xs := by
  refine ⟨h.1, ?_⟩
  rcases h.2 with h0 | ⟨g, cap, cur, rfl, hb, hg, r⟩
  · exact .inl h0
  · exact .inr ⟨g, cap, cur, rfl, hb, (hk g (by simp [blockOf, Value.ownBlock])).trans hg, r⟩
theorem ArenaIn.keep {W W' : World} {base : Nat} {F : List Nat} {A : Nat} {cs : List Nat} {rs : List Reg} {ev : List Ev} {pv rv : Value} {C : Nat} {PL : List Nat} {m : Nat} (h : ArenaIn W base F A cs rs ev pv rv C PL m)
    (hk : ∀ k ∈ F, W'.heap[k]? = W.heap[k]?) (hs : W.heap.size ≤ W'.heap.size) : ArenaIn W' base F A cs rs ev pv rv C PL m := by
  have hm : ∀ k ∈ A :: C :: (PL ++ blockOf pv ++ blockOf rv), W'.heap[k]? = W.heap[k]? := fun k hkm => hk k (h.own k hkm).1
  exact ⟨(hm A (by simp)).trans h.a, (hm C (by simp)).trans h.c, owns_keep h.p (fun k hk => hm k (by simp [hk])), owns_keep h.r (fun k hk => hm k (by simp [hk])), h.np,
    fun i p hp => by
      obtain ⟨c, h1, h2⟩ := h.pg i p hp
      exact ⟨c, (hm p (by have := List.mem_of_getElem? hp; simp [this])).trans h1, h2⟩,
    h.nd, fun k hkm => ⟨(h.own k hkm).1, (h.own k hkm).2.1, Nat.lt_of_lt_of_le (h.own k hkm).2.2 hs⟩, h.lc, h.le, h.lr⟩
theorem ArenaAt.keep {W W' : World} {base : Nat} {F : List Nat} {A : Nat} {cs : List Nat} {rs : List Reg} {ev : List Ev} (h : ArenaAt W base F A cs rs ev)
    (hk : ∀ k ∈ F, W'.heap[k]? = W.heap[k]?) (hs : W.heap.size ≤ W'.heap.size) : ArenaAt W' base F A cs rs ev := by
  obtain ⟨pv, rv, C, PL, h⟩ := h
  exact ⟨pv, rv, C, PL, h.keep hk hs⟩

section
variable {W : World} {base : Nat} {F : List Nat} {A : Nat} {cs : List Nat} {rs : List Reg} {ev : List Ev} {pv rv : Value} {C : Nat} {PL : List Nat} {m : Nat}
theorem ArenaIn.cells (h : ArenaIn W base F A cs rs ev pv rv C PL m) :
    W.cell? ⟨A, 0, none⟩ = some pv ∧ W.cell? ⟨A, 1, none⟩ = some (.int .i64 (ev.length : Int)) ∧ W.cell? ⟨A, 2, none⟩ = some (.slice (some ⟨C, 0, none⟩) cs.length cs.length) ∧ W.cell? ⟨A, 3, none⟩ = some rv ∧
      W.cell? ⟨A, 4, none⟩ = some (.func (.func 34) #[.pointer (some ⟨A, 0, none⟩)] #[]) := by
  refine ⟨?_, ?_, ?_, ?_, ?_⟩ <;> (unfold World.cell?; rw [h.a]; rfl)
theorem ArenaIn.lt (h : ArenaIn W base F A cs rs ev pv rv C PL m) : A < W.heap.size := (h.own A (by simp)).2.2
end

theorem eq_func (f : Fn) (a b : Array Value) (w : World) : (binOp .eql 68 (.func f a b) .nilFunc).run Tryd.prog w = .ok (.bool false) w := by kernel_rfl
theorem eq_nilFunc (w : World) : (binOp .eql 68 .nilFunc .nilFunc).run Tryd.prog w = .ok (.bool true) w := by kernel_rfl

set_option maxRecDepth 100000 in
set_option maxHeartbeats 1000000 in
theorem none_p {W : World} {base : Nat} {F : List Nat} {A : Nat} {cs : List Nat} {rs : List Reg} {ev : List Ev} (h : ArenaAt W base F A cs rs ev) :
    Calls Tryd.prog 36 #[.pointer (some ⟨A, 0, none⟩)] W fun e w' => e = .returned (.bool false) ∧ W = w' := by
  obtain ⟨pv, rv, C, PL, h⟩ := h
  obtain ⟨c0, c1, c2, c3, c4⟩ := h.cells
  clear h
  have ef := eq_func
  go_enter Tryd.func36, Tryd.ntmps36
  go_wp2_with fail
  go_ret
  exact ⟨rfl, rfl⟩
end Go.Proofs.YtomjefplacgoeaaDoor
