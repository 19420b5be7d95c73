/- A slice that reads as cells. -/
import Derived.Test.YtllkohjmghoipaaMem
import Derived.Laws.OwnMore
import Derived.Tactics
namespace Go.Proofs.Ytllkohjmghoipaa
open Go.RowKit

/-- The slice value v has n elements of 'size' cells each, which read xs. -/
def Row (w : World) (size : Nat) (v : Value) (n : Nat) (xs : List Value) : Prop :=
  xs.length = n * size ∧ n ≤ maxLen ∧ ∃ a cap, v = .slice a n cap ∧ (a = none → cap = 0) ∧ (n = 0 ∨ ∃ g o, a = some ⟨g, o, none⟩ ∧ ∀ j, j < n * size → w.cell? ⟨g, o + j, none⟩ = xs[j]?)

theorem Row.of_owns {w : World} {base : Nat} {e : TypeId} {size : Nat} {v : Value} {n : Nat} {xs : List Value} (h : w.ownsRow base e size v n xs) : Row w size v n xs := by
  obtain ⟨h1, h2⟩ := h
  rcases h2 with ⟨rfl, rfl⟩ | ⟨g, cap, cur, rfl, _, hg, hn, hc, hs, rfl⟩
  · exact ⟨h1, Nat.zero_le _, none, 0, rfl, fun _ => rfl, .inl rfl⟩
  · refine ⟨h1, Nat.le_trans hn hc, _, cap, rfl, (by intro e; cases e), .inr ⟨g, 0, rfl, fun j hj => ?_⟩⟩
    simp only [World.cell?, hg, Option.isSome_none, Bool.false_eq_true, if_false, Nat.zero_add]
    rw [List.getElem?_take_of_lt hj, Array.getElem?_toList]

theorem Row.below {w w' : World} {size : Nat} {v : Value} {n : Nat} {xs : List Value} (h : Row w size v n xs) (hb : Below w.heap.size w w') : Row w' size v n xs := by
  obtain ⟨h1, h2, a, cap, rfl, h4, h3⟩ := h
  refine ⟨h1, h2, a, cap, rfl, h4, ?_⟩
  rcases h3 with h3 | ⟨g, o, rfl, hc⟩
  · exact .inl h3
  · refine .inr ⟨g, o, rfl, fun j hj => ?_⟩
    have e := hc j hj
    have hlt : g < w.heap.size := by
      rw [List.getElem?_eq_getElem (by omega)] at e
      exact World.block_lt_of_cell? w _ e
    exact (hb.cell (p := ⟨g, o + j, none⟩) hlt).trans e

theorem Row.lit (W : World) (t : TypeId) (size n : Nat) (cs : List Value) (hl : cs.length = n * size) (hm : n ≤ maxLen) :
    Row (W.alloc (.cells cs.toArray t)) size (.slice (some ⟨W.heap.size, 0, none⟩) n n) n cs :=
  ⟨hl, hm, _, n, rfl, (by intro e; cases e), .inr ⟨_, _, rfl, fun j hj => by
    simp only [World.cell?, heap_alloc_new, Option.isSome_none, Bool.false_eq_true, if_false, Nat.zero_add, List.getElem?_toArray]⟩⟩

theorem next {w w1 w2 : World} (h1 : Below w.heap.size w w1) (h2 : Below w1.heap.size w1 w2) : Below w.heap.size w w2 := h1.trans (h2.mono h1.size)

/-- append of a slice that reads as cells to one that the call owns: the run, whatever the world answers -/
theorem append_row {P : Program} {w : World} (base : Nat) (t ty e : TypeId) {i : TypeInfo} {z : Value} {size bytes : Nat} (ht : P.underlying t = some (.slice e)) (hi : P.info? e = some i) (hz : i.zero = some z)
    (hsize : i.size = size) (hby : i.bytes = bytes) (hzs : z.cells.size = size) (hsz : 0 < size)
    {v : Value} {n : Nat} {xs : List Value} (hown : w.ownsRow base e size v n xs) {v2 : Value} {m : Nat} {news : List Value} (hr : Row w size v2 m news) (h1 : ∀ u ∈ news, u.oneCell' = true)
    (h63 : n + m ≤ maxLen) (hbytes : (n + m) * bytes ≤ 140737488355328) (hbase : base ≤ w.heap.size) :
    ∃ v' w', (Builtin.append_ #[t, t] ty #[v, v2]).run P w = .ok v' w' ∧ w'.ownsRow base e size v' (n + m) (xs ++ news) ∧ w.grownBy w' v.ownBlock := by
  obtain ⟨hl, _, a, cap, rfl, hn, hc⟩ := hr
  cases a with
  | none =>
    obtain rfl := hn rfl
    have hm : m = 0 := by
      rcases hc with hc | ⟨g, o, e, _⟩
      · exact hc
      · cases e
    subst hm
    obtain rfl : news = [] := List.eq_nil_of_length_eq_zero (by simpa using hl)
    exact ⟨v, w, run_append_owned_none (P := P) w base t ty e i size ht hi v n xs hown, by simpa using hown, World.grownBy.refl _ _⟩
  | some ad =>
    obtain ⟨v', w', h2, h3, h4, _⟩ := run_append_own (P := P) (w := w) base t ty e i z size bytes ht hi hz hsize hby hzs hsz v n xs hown ad m cap news hl (fun j u hj => by
      rcases hc with rfl | ⟨g, o, e, hc⟩
      · obtain rfl : news = [] := List.eq_nil_of_length_eq_zero (by simpa using hl)
        simp at hj
      · cases e
        have hjl : j < m * size := by rw [← hl]; exact (List.getElem?_eq_some_iff.1 hj).1
        rw [Addr.add_lit, hc j hjl, hj]) h1 h63 hbytes hbase
    exact ⟨v', w', h2, h3, h4⟩

/-- an append, guarded or not, whose run is known -/
theorem wpList_append_run {P : Program} {w w' : World} {ops : Array Oper} {rest : List Oper} {o : Oper} {a : Act} {Q : Exit → Act → World → Prop} {s x : Operand} {t : TypeId} {v x1 x2 : Value}
    (hg : Region.wanted o (yielded ops a.tmps) = true) (ho : o.op = .call { callee := .builtin .append, args := #[s, x], argTypes := #[t, t] })
    (hs : a.eval s = x1) (hx : a.eval x = x2)
    (hrun : (Builtin.append_ #[t, t] o.type #[x1, x2]).run P w = .ok v w') (h : wpList P ops Q rest (a.put o.dst v) w') : wpList P ops Q (o :: rest) a w := by
  refine wpList_step fun K hK => ?_
  rw [if_pos hg]
  unfold Oper.wp
  simp [execOp, ho, resolve, invoke, builtin, hs, hx, hrun, Result.andThen]
  exact hK _ _ h

theorem Row.len {w : World} {size : Nat} {v : Value} {n : Nat} {xs : List Value} (h : Row w size v n xs) : xs.length = n * size := h.1

end Go.Proofs.Ytllkohjmghoipaa
