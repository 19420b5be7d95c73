/- An arena of one's own: its blocks lie behind a world. -/
import Derived.Test.YtomjefplacgoeaaDoorArSame2
namespace Go.Proofs.YtomjefplacgoeaaDoor
open Go.RowKit

structure Own (w0 w : World) (F : List Nat) (A : Nat) (cs : List Nat) (rs : List Reg) (ev : List Ev) : Prop where
  at' : ArenaAt w w0.heap.size F A cs rs ev
  lo : ∀ k ∈ F, w0.heap.size ≤ k ∧ k < w.heap.size
  b : Below w0.heap.size w0 w
/-- what is apart from the arena stays so, and stays as it is -/
structure Turn (F : List Nat) (w : World) (F' : List Nat) (w' : World) : Prop where
  size : w.heap.size ≤ w'.heap.size
  apart : ∀ k, k < w.heap.size → k ∉ F → k ∉ F' ∧ w'.heap[k]? = w.heap[k]?
theorem Turn.refl (F : List Nat) (w : World) : Turn F w F w := ⟨Nat.le_refl _, fun _ _ h => ⟨h, rfl⟩⟩
theorem Turn.trans {F F1 F2 : List Nat} {w w1 w2 : World} (h1 : Turn F w F1 w1) (h2 : Turn F1 w1 F2 w2) : Turn F w F2 w2 :=
  ⟨Nat.le_trans h1.size h2.size, fun k hk hn => by
    obtain ⟨a, b⟩ := h1.apart k hk hn
    obtain ⟨c, d⟩ := h2.apart k (Nat.lt_of_lt_of_le hk h1.size) a
    exact ⟨c, d.trans b⟩⟩
theorem Turn.of_below {F : List Nat} {w w' : World} (h : Below w.heap.size w w') : Turn F w F w' := ⟨h.size, fun k hk hn => ⟨hn, h.block k hk⟩⟩

section
variable {w0 w : World} {F : List Nat} {A : Nat} {cs : List Nat} {rs : List Reg} {ev : List Ev}
theorem ArenaAt.shrink {base : Nat} (h : ArenaAt w base F A cs rs ev) : ArenaAt w base (F.filter (fun k => decide (k < w.heap.size))) A cs rs ev := by
  obtain ⟨pv, rv, C, PL, h⟩ := h
  exact ⟨pv, rv, C, PL, h.a, h.c, h.p, h.r, h.np, h.pg, h.nd, fun k hk => ⟨by rw [List.mem_filter]; exact ⟨(h.own k hk).1, by simpa using (h.own k hk).2.2⟩, (h.own k hk).2⟩, h.lc, h.le, h.lr⟩
theorem Own.now {cs' : List Nat} {rs' : List Reg} {ev' : List Ev} {w' : World} (h : Own w0 w F A cs rs ev) (hn : Now w w0.heap.size F A cs' rs' ev' w') : ∃ F', Own w0 w' F' A cs' rs' ev' ∧ Turn F w F' w' := by
  obtain ⟨F', h1, h2, h3⟩ := hn
  have hs := h.b.size
  refine ⟨_, ⟨h1.shrink, fun k hk => ?_, h.b.trans (h3.below (fun k hk => (h.lo k hk).1) hs)⟩, h3.size, fun k hk hn => ⟨fun hm => ?_, h3.block k hk hn⟩⟩
  · rw [List.mem_filter] at hk
    obtain ⟨hk, hlt⟩ := hk
    refine ⟨?_, by simpa using hlt⟩
    rcases h2 k hk with h4 | h4
    · exact (h.lo k h4).1
    · omega
  · rw [List.mem_filter] at hm
    rcases h2 k hm.1 with h4 | h4
    · exact hn h4
    · omega
theorem Own.below {w' : World} (h : Own w0 w F A cs rs ev) (hb : Below w.heap.size w w') : Own w0 w' F A cs rs ev :=
  ⟨h.at'.below hb, fun k hk => ⟨(h.lo k hk).1, Nat.lt_of_lt_of_le (h.lo k hk).2 hb.size⟩, h.b.trans (hb.mono h.b.size)⟩
theorem Own.base (h : Own w0 w F A cs rs ev) : w0.heap.size ≤ w.heap.size := h.b.size
/-- a write to a block that is apart -/
theorem Own.aside {w' : World} (h : Own w0 w F A cs rs ev) (hk : ∀ k ∈ F, w'.heap[k]? = w.heap[k]?) (hs : w.heap.size ≤ w'.heap.size) (hb : Below w0.heap.size w0 w') : Own w0 w' F A cs rs ev :=
  ⟨h.at'.keep hk hs, fun k hk => ⟨(h.lo k hk).1, Nat.lt_of_lt_of_le (h.lo k hk).2 hs⟩, hb⟩

/-- a row that is apart from the blocks of F -/
def Off (F : List Nat) (w : World) (v : Value) : Prop := ∀ a n c, v = .slice (some a) n c → a.block ∉ F ∧ a.block < w.heap.size
theorem Off.turn {F' : List Nat} {w' : World} {v : Value} (h : Off F w v) (ht : Turn F w F' w') : Off F' w' v := fun a n c e => by
  obtain ⟨h1, h2⟩ := h a n c e
  exact ⟨(ht.apart _ h2 h1).1, Nat.lt_of_lt_of_le h2 ht.size⟩
theorem Row.turn {F' : List Nat} {w' : World} {size n : Nat} {v : Value} {xs : List Value} (h : Row w size v n xs) (ho : Off F w v) (ht : Turn F w F' w') : Row w' size v n xs := by
  obtain ⟨h1, h2, a, cap, rfl, h4, h3⟩ := h
  refine ⟨h1, h2, a, cap, rfl, h4, ?_⟩
  rcases h3 with h3 | ⟨g, o, rfl, hc⟩
  · exact .inl h3
  · right
    obtain ⟨h5, h6⟩ := ho _ _ _ rfl
    refine ⟨g, o, rfl, fun j hj => ?_⟩
    rw [← hc j hj]
    unfold World.cell?
    rw [(ht.apart g h6 h5).2]
theorem Off.owns {base : Nat} {e : TypeId} {size n : Nat} {v : Value} {xs : List Value} (h : w.ownsRow base e size v n xs) (hF : ∀ k ∈ F, k < base) : Off F w v := by
  intro a m c e1
  obtain ⟨_, h2⟩ := h
  rcases h2 with ⟨rfl, _⟩ | ⟨g, cap, cur, rfl, hb, hg, _⟩
  · cases e1
  · cases e1
    exact ⟨fun hm => by have := hF _ hm; simp only at this; omega, (Array.getElem?_eq_some_iff.1 hg).1⟩
end

section
variable {w0 w : World} {F : List Nat} {A : Nat} {cs : List Nat} {rs : List Reg} {ev : List Ev}
/-- a call that turns the arena -/
def OwnP (w0 w : World) (F : List Nat) (A : Nat) (cs : List Nat) (rs : List Reg) (ev : List Ev) (v : Value) (e : Ending) (w' : World) : Prop :=
  e = .returned v ∧ ∃ F', Own w0 w' F' A cs rs ev ∧ Turn F w F' w'
/-- a call that makes a row -/
def OwnR (w0 w : World) (F : List Nat) (A : Nat) (cs : List Nat) (rs : List Reg) (ev : List Ev) (size n : Nat) (xs : List Value) (f : Value → Value) (e : Ending) (w' : World) : Prop :=
  ∃ v, e = .returned (f v) ∧ Row w' size v n xs ∧ Off F w' v ∧ Own w0 w' F A cs rs ev ∧ Turn F w F w'
def NewO (w : World) (n : Nat) (e : Ending) (w' : World) : Prop := ∃ A F, e = .returned (.tuple #[.pointer (some ⟨A, 0, none⟩), .int .i64 0]) ∧ Own w w' F A (List.replicate n 0) [] [] ∧ ∀ k ∈ F, w.heap.size ≤ k
theorem new_o (n : Nat) (h1 : 1 ≤ n) (h2 : n ≤ 65536) : Calls Tryd.prog 12 #[.int .i64 (n : Int)] w (NewO w n) :=
  (new_p n w.heap.size h1 h2 (Nat.le_refl _)).mono fun e w' h => by
    obtain ⟨A, F, h1, h2, h3, h4⟩ := h
    refine ⟨A, _, h1, ⟨h2.shrink, fun k hk => ?_, h4⟩, fun k hk => ?_⟩
    · rw [List.mem_filter] at hk
      exact ⟨h3 k hk.1, by simpa using hk.2⟩
    · rw [List.mem_filter] at hk
      exact h3 k hk.1
theorem load_o (a : Int) (h : Own w0 w F A cs rs ev) : Calls Tryd.prog 13 #[.pointer (some ⟨A, 0, none⟩), .int .i64 a] w (OwnP w0 w F A cs rs (stepV cs.length ev 1 a) (.tuple #[.int .u64 (loadV cs ev.length a : Int), .int .i64 (stepE cs.length ev.length a)])) :=
  (load_p a h.at' h.base).mono fun e w' ⟨h1, h2⟩ => ⟨h1, h.now h2⟩
theorem store_o (a : Int) (v : Nat) (hv : v < 18446744073709551616) (h : Own w0 w F A cs rs ev) : Calls Tryd.prog 14 #[.pointer (some ⟨A, 0, none⟩), .int .i64 a, .int .u64 (v : Int)] w (OwnP w0 w F A (storeV cs ev.length a v) rs (stepV cs.length ev 2 a) (.int .i64 (stepE cs.length ev.length a))) :=
  (store_p a v hv h.at' h.base).mono fun e w' ⟨h1, h2⟩ => ⟨h1, h.now h2⟩
theorem region_o (nm : List UInt8) (hnm : nm.length ≤ 1000000000) (k : Int) (hok : RegsOk cs.length rs) (h : Own w0 w F A cs rs ev) : Calls Tryd.prog 17 #[.pointer (some ⟨A, 0, none⟩), .string (str nm), .int .i64 k] w (OwnP w0 w F A cs (regV cs.length rs nm k) ev (.tuple #[.int .i64 (regB cs.length rs nm k), .int .i64 (regE cs.length rs nm k)])) :=
  (region_p nm hnm k h.at' hok h.base).mono fun e w' ⟨h1, h2⟩ => ⟨h1, h.now h2⟩
theorem forget_o (h : Own w0 w F A cs rs ev) : Calls Tryd.prog 25 #[.pointer (some ⟨A, 0, none⟩)] w (OwnP w0 w F A cs rs [] (.int .i64 0)) :=
  (forget_p h.at').mono fun e w' ⟨h1, h2, h3⟩ => ⟨h1, h.now ⟨F, h2, fun _ hj => .inl hj, h3⟩⟩
theorem find_o (nm : List UInt8) (h : Own w0 w F A cs rs ev) : Calls Tryd.prog 18 #[.pointer (some ⟨A, 0, none⟩), .string (str nm)] w (fun e w' => e = .returned (.tuple #[.agg #[.string (str (findV rs nm).1), .int .i64 (findV rs nm).2.1, .int .i64 (findV rs nm).2.2], .int .i64 (findE rs nm)]) ∧ Own w0 w' F A cs rs ev ∧ Below w.heap.size w w') :=
  (find_p nm h.at').mono fun e w' ⟨h1, h2⟩ => ⟨h1, h.below h2, h2⟩
theorem has_o (f k : Int) (h : Own w0 w F A cs rs ev) : Calls Tryd.prog 23 #[.pointer (some ⟨A, 0, none⟩), .int .i64 f, .int .i64 k] w fun e w' => e = .returned (.int .i64 (hasE cs.length f k)) ∧ w = w' := has_p f k h.at'
theorem room_o (k : Int) (h : Own w0 w F A cs rs ev) : Calls Tryd.prog 24 #[.pointer (some ⟨A, 0, none⟩), .int .i64 k] w fun e w' => e = .returned (.int .i64 (roomE ev.length k)) ∧ w = w' := room_p k h.at'
theorem steps_o (h : Own w0 w F A cs rs ev) : Calls Tryd.prog 20 #[.pointer (some ⟨A, 0, none⟩)] w fun e w' => e = .returned (.int .i64 (ev.length : Int)) ∧ w = w' := steps_p h.at'
theorem rowed {w' : World} {e : TypeId} {size n : Nat} {v : Value} {xs : List Value} {f : Value → Value} {en : Ending} (h : Own w0 w F A cs rs ev) (he : en = .returned (f v)) (ho : w'.ownsRow w.heap.size e size v n xs) (hb : Below w.heap.size w w') :
    OwnR w0 w F A cs rs ev size n xs f en w' := ⟨v, he, Row.of_owns ho, Off.owns ho (fun k hk => (h.lo k hk).2), h.below hb, Turn.of_below hb⟩
theorem since_o (a : Int) (h : Own w0 w F A cs rs ev) : Calls Tryd.prog 21 #[.pointer (some ⟨A, 0, none⟩), .int .i64 a] w (OwnR w0 w F A cs rs ev 2 (sinceV ev a).length (ecells (sinceV ev a)) fun v => .tuple #[v, .int .i64 (sinceE ev.length a)]) :=
  (since_p a h.at').mono fun e w' ⟨v, h1, h2, h3⟩ => rowed h (f := fun v => .tuple #[v, .int .i64 (sinceE ev.length a)]) h1 h2 h3
theorem events_o (h : Own w0 w F A cs rs ev) : Calls Tryd.prog 26 #[.pointer (some ⟨A, 0, none⟩)] w (OwnR w0 w F A cs rs ev 2 ev.length (ecells ev) id) :=
  (events_p h.at').mono fun e w' ⟨v, h1, h2, h3⟩ => rowed h (f := id) h1 h2 h3
theorem cells_o (h : Own w0 w F A cs rs ev) : Calls Tryd.prog 16 #[.pointer (some ⟨A, 0, none⟩)] w (OwnR w0 w F A cs rs ev 1 cs.length (ccells cs) id) :=
  (cells_p h.at').mono fun e w' ⟨v, h1, h2, h3⟩ => rowed h (f := id) h1 h2 h3
theorem regions_o (h : Own w0 w F A cs rs ev) : Calls Tryd.prog 19 #[.pointer (some ⟨A, 0, none⟩)] w (OwnR w0 w F A cs rs ev 3 rs.length (rcells rs) id) :=
  (regions_p h.at').mono fun e w' ⟨v, h1, h2, h3⟩ => rowed h (f := id) h1 h2 h3
end
end Go.Proofs.YtomjefplacgoeaaDoor
