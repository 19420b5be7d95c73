/- Two arenas, the program's and the reference's, side by side. -/
import Derived.Test.YtomjefplacgoeaaDoorArB4
namespace Go.Proofs.YtomjefplacgoeaaDoor
open Go.RowKit Go.Sort

structure OwnB (w0 w : World) (F : List Nat) (A : Nat) (cs : List Nat) (rs : List Reg) (ev : List Ev) : Prop where
  at' : RefAt w w0.heap.size F A cs rs ev
  lo : ∀ k ∈ F, w0.heap.size ≤ k ∧ k < w.heap.size
  b : Below w0.heap.size w0 w
section
variable {w0 w : World} {F : List Nat} {A : Nat} {cs : List Nat} {rs : List Reg} {ev : List Ev}
theorem RefAt.shrink {base : Nat} (h : RefAt w base F A cs rs ev) : RefAt w base (F.filter (fun k => decide (k < w.heap.size))) A cs rs ev := by
  obtain ⟨rv, vv, C, h⟩ := h
  exact ⟨rv, vv, C, h.a, h.c, h.r, h.v, h.nd, fun k hk => ⟨by rw [List.mem_filter]; exact ⟨(h.own k hk).1, by simpa using (h.own k hk).2.2⟩, (h.own k hk).2⟩, h.lc, h.le, h.lr⟩
theorem OwnB.now {cs' : List Nat} {rs' : List Reg} {ev' : List Ev} {w' : World} (h : OwnB w0 w F A cs rs ev) (hn : RNow w w0.heap.size F A cs' rs' ev' w') : ∃ F', OwnB w0 w' F' A cs' rs' ev' ∧ Turn F w F' w' := by
  obtain ⟨F', h1, h2, h3⟩ := hn
  have hs := h.b.size
  refine ⟨_, ⟨h1.shrink, fun k hk => ?_, h.b.trans (h3.below (fun k hk => (h.lo k hk).1) hs)⟩, h3.size, fun k hk hn => ⟨fun hm => ?_, h3.block k hk hn⟩⟩
  · rw [List.mem_filter] at hk
    obtain ⟨hk, hlt⟩ := hk
    refine ⟨?_, by simpa using hlt⟩
    rcases h2 k hk with h4 | h4
    · exact (h.lo k h4).1
    · omega
  · rw [List.mem_filter] at hm
    rcases h2 k hm.1 with h4 | h4
    · exact hn h4
    · omega
theorem OwnB.aside {w' : World} (h : OwnB w0 w F A cs rs ev) (hk : ∀ k ∈ F, w'.heap[k]? = w.heap[k]?) (hs : w.heap.size ≤ w'.heap.size) (hb : Below w0.heap.size w0 w') : OwnB w0 w' F A cs rs ev :=
  ⟨h.at'.keep hk hs, fun k hk => ⟨(h.lo k hk).1, Nat.lt_of_lt_of_le (h.lo k hk).2 hs⟩, hb⟩
theorem OwnB.below {w' : World} (h : OwnB w0 w F A cs rs ev) (hb : Below w.heap.size w w') : OwnB w0 w' F A cs rs ev :=
  h.aside (fun k hk => hb.block k (h.lo k hk).2) hb.size (h.b.trans (hb.mono h.b.size))
end

/-- both arenas, and a block apart from them that holds o -/
def Two (w0 w : World) (A B X : Nat) (o : Obj) (cs : List Nat) (rs : List Reg) (ev : List Ev) (cs' : List Nat) (rs' : List Reg) (ev' : List Ev) : Prop :=
  ∃ F G, Own w0 w F A cs rs ev ∧ OwnB w0 w G B cs' rs' ev' ∧ (∀ k ∈ F, k ∉ G) ∧ w.heap[X]? = some o ∧ X ∉ F ∧ X ∉ G
section
variable {w0 w : World} {A B X : Nat} {o : Obj} {cs : List Nat} {rs : List Reg} {ev : List Ev} {cs' : List Nat} {rs' : List Reg} {ev' : List Ev}
theorem Two.b (h : Two w0 w A B X o cs rs ev cs' rs' ev') : Below w0.heap.size w0 w := by
  obtain ⟨F, G, h, _⟩ := h
  exact h.b
theorem Two.x (h : Two w0 w A B X o cs rs ev cs' rs' ev') : w.heap[X]? = some o := by
  obtain ⟨F, G, _, _, _, h, _⟩ := h
  exact h
theorem Two.below {w' : World} (h : Two w0 w A B X o cs rs ev cs' rs' ev') (hb : Below w.heap.size w w') : Two w0 w' A B X o cs rs ev cs' rs' ev' := by
  obtain ⟨F, G, h1, h2, h3, h4, h5, h6⟩ := h
  exact ⟨F, G, h1.below hb, h2.below hb, h3, (hb.block X (Array.getElem?_eq_some_iff.1 h4).1).trans h4, h5, h6⟩
/-- both arenas alone -/
def Pair (w0 w : World) (A B : Nat) (cs : List Nat) (rs : List Reg) (ev : List Ev) (cs' : List Nat) (rs' : List Reg) (ev' : List Ev) : Prop :=
  ∃ F G, Own w0 w F A cs rs ev ∧ OwnB w0 w G B cs' rs' ev' ∧ (∀ k ∈ F, k ∉ G)
theorem Two.pair (h : Two w0 w A B X o cs rs ev cs' rs' ev') : Pair w0 w A B cs rs ev cs' rs' ev' := by
  obtain ⟨F, G, h1, h2, h3, h4, h5, h6⟩ := h
  exact ⟨F, G, h1, h2, h3⟩
theorem Pair.b (h : Pair w0 w A B cs rs ev cs' rs' ev') : Below w0.heap.size w0 w := by
  obtain ⟨F, G, h, _⟩ := h
  exact h.b
theorem Pair.below {w' : World} (h : Pair w0 w A B cs rs ev cs' rs' ev') (hb : Below w.heap.size w w') : Pair w0 w' A B cs rs ev cs' rs' ev' := by
  obtain ⟨F, G, h1, h2, h3⟩ := h
  exact ⟨F, G, h1.below hb, h2.below hb, h3⟩
theorem Pair.new (h : Pair w0 w A B cs rs ev cs' rs' ev') (o2 : Obj) : Two w0 (w.alloc o2) A B w.heap.size o2 cs rs ev cs' rs' ev' := by
  obtain ⟨F, G, h1, h2, h3⟩ := h
  have hb : Below w.heap.size w (w.alloc o2) := (Below.refl _ _).alloc (Nat.le_refl _) _
  exact ⟨F, G, h1.below hb, h2.below hb, h3, heap_alloc_new _ _, fun hm => by have := (h1.lo _ hm).2; omega, fun hm => by have := (h2.lo _ hm).2; omega⟩
theorem Pair.ra (h : Pair w0 w A B cs rs ev cs' rs' ev') : ∃ F, ArenaAt w w0.heap.size F A cs rs ev := by
  obtain ⟨F, G, h1, _⟩ := h
  exact ⟨F, h1.at'⟩
theorem Pair.rb (h : Pair w0 w A B cs rs ev cs' rs' ev') : ∃ G, RefAt w w0.heap.size G B cs' rs' ev' := by
  obtain ⟨F, G, _, h2, _⟩ := h
  exact ⟨G, h2.at'⟩
theorem turnA {F G : List Nat} {cs2 : List Nat} {rs2 : List Reg} {ev2 : List Ev} {w' : World} {F' : List Nat} (_ : Own w0 w F A cs rs ev) (h2 : OwnB w0 w G B cs' rs' ev') (h3 : ∀ k ∈ F, k ∉ G) (h4 : w.heap[X]? = some o) (h5 : X ∉ F) (h6 : X ∉ G)
    (ho : Own w0 w' F' A cs2 rs2 ev2) (ht : Turn F w F' w') : Two w0 w' A B X o cs2 rs2 ev2 cs' rs' ev' := by
  have hap : ∀ k ∈ G, k ∉ F' ∧ w'.heap[k]? = w.heap[k]? := fun k hk => ht.apart k (h2.lo k hk).2 (fun hf => h3 k hf hk)
  obtain ⟨hx1, hx2⟩ := ht.apart X (Array.getElem?_eq_some_iff.1 h4).1 h5
  exact ⟨F', G, ho, h2.aside (fun k hk => (hap k hk).2) ht.size ho.b, fun k hk hg => (hap k hg).1 hk, hx2.trans h4, hx1, h6⟩
theorem turnB {F G : List Nat} {cs2 : List Nat} {rs2 : List Reg} {ev2 : List Ev} {w' : World} {G' : List Nat} (h1 : Own w0 w F A cs rs ev) (_ : OwnB w0 w G B cs' rs' ev') (h3 : ∀ k ∈ F, k ∉ G) (h4 : w.heap[X]? = some o) (h5 : X ∉ F) (h6 : X ∉ G)
    (ho : OwnB w0 w' G' B cs2 rs2 ev2) (ht : Turn G w G' w') : Two w0 w' A B X o cs rs ev cs2 rs2 ev2 := by
  have hap : ∀ k ∈ F, k ∉ G' ∧ w'.heap[k]? = w.heap[k]? := fun k hk => ht.apart k (h1.lo k hk).2 (h3 k hk)
  obtain ⟨hx1, hx2⟩ := ht.apart X (Array.getElem?_eq_some_iff.1 h4).1 h6
  exact ⟨F, G', h1.aside (fun k hk => (hap k hk).2) ht.size ho.b, ho, fun k hk => (hap k hk).1, hx2.trans h4, h5, hx1⟩
abbrev PA (A : Nat) : Value := .pointer (some ⟨A, 0, none⟩)
theorem Two.ra (h : Two w0 w A B X o cs rs ev cs' rs' ev') : ∃ F, ArenaAt w w0.heap.size F A cs rs ev := by
  obtain ⟨F, G, h1, _⟩ := h
  exact ⟨F, h1.at'⟩
theorem Two.rb (h : Two w0 w A B X o cs rs ev cs' rs' ev') : ∃ G, RefAt w w0.heap.size G B cs' rs' ev' := by
  obtain ⟨F, G, _, h2, _⟩ := h
  exact ⟨G, h2.at'⟩
/-- the ending of a call that makes a row -/
def RowP (w : World) (size n : Nat) (xs : List Value) (f : Value → Value) (e : Ending) (w' : World) : Prop := ∃ v, e = .returned (f v) ∧ Row w' size v n xs ∧ Below w.heap.size w w'
/-- the ending of a call that turns an arena -/
def TwoP (w0 : World) (A B X : Nat) (o : Obj) (cs : List Nat) (rs : List Reg) (ev : List Ev) (cs' : List Nat) (rs' : List Reg) (ev' : List Ev) (v : Value) (e : Ending) (w' : World) : Prop :=
  e = .returned v ∧ Two w0 w' A B X o cs rs ev cs' rs' ev'
theorem a_load (a : Int) (h : Two w0 w A B X o cs rs ev cs' rs' ev') : Calls Tryd.prog 13 #[PA A, .int .i64 a] w (TwoP w0 A B X o cs rs (stepV cs.length ev 1 a) cs' rs' ev' (.tuple #[.int .u64 (loadV cs ev.length a : Int), .int .i64 (stepE cs.length ev.length a)])) := by
  obtain ⟨F, G, h1, h2, h3, h4, h5, h6⟩ := h
  exact (load_o a h1).mono fun e w' ⟨he, F', ho, ht⟩ => ⟨he, turnA h1 h2 h3 h4 h5 h6 ho ht⟩
theorem b_load (a : Int) (h : Two w0 w A B X o cs rs ev cs' rs' ev') : Calls Tryd.prog 41 #[PA B, .int .i64 a] w (TwoP w0 A B X o cs rs ev cs' rs' (stepV cs'.length ev' 1 a) (.tuple #[.int .u64 (loadV cs' ev'.length a : Int), .int .i64 (stepE cs'.length ev'.length a)])) := by
  obtain ⟨F, G, h1, h2, h3, h4, h5, h6⟩ := h
  exact (rload_p a h2.at' h2.b.size).mono fun e w' ⟨he, hn⟩ => by
    obtain ⟨G', ho, ht⟩ := h2.now hn
    exact ⟨he, turnB h1 h2 h3 h4 h5 h6 ho ht⟩
theorem a_store (a : Int) (v : Nat) (hv : v < 18446744073709551616) (h : Two w0 w A B X o cs rs ev cs' rs' ev') : Calls Tryd.prog 14 #[PA A, .int .i64 a, .int .u64 (v : Int)] w (TwoP w0 A B X o (storeV cs ev.length a v) rs (stepV cs.length ev 2 a) cs' rs' ev' (.int .i64 (stepE cs.length ev.length a))) := by
  obtain ⟨F, G, h1, h2, h3, h4, h5, h6⟩ := h
  exact (store_o a v hv h1).mono fun e w' ⟨he, F', ho, ht⟩ => ⟨he, turnA h1 h2 h3 h4 h5 h6 ho ht⟩
theorem b_store (a : Int) (v : Nat) (hv : v < 18446744073709551616) (h : Two w0 w A B X o cs rs ev cs' rs' ev') : Calls Tryd.prog 42 #[PA B, .int .i64 a, .int .u64 (v : Int)] w (TwoP w0 A B X o cs rs ev (storeV cs' ev'.length a v) rs' (stepV cs'.length ev' 2 a) (.int .i64 (stepE cs'.length ev'.length a))) := by
  obtain ⟨F, G, h1, h2, h3, h4, h5, h6⟩ := h
  exact (rstore_p a v hv h2.at' h2.b.size).mono fun e w' ⟨he, hn⟩ => by
    obtain ⟨G', ho, ht⟩ := h2.now hn
    exact ⟨he, turnB h1 h2 h3 h4 h5 h6 ho ht⟩
theorem a_region (nm : List UInt8) (hnm : nm.length ≤ 1000000000) (k : Int) (hok : RegsOk cs.length rs) (h : Two w0 w A B X o cs rs ev cs' rs' ev') : Calls Tryd.prog 17 #[PA A, .string (str nm), .int .i64 k] w (TwoP w0 A B X o cs (regV cs.length rs nm k) ev cs' rs' ev' (.tuple #[.int .i64 (regB cs.length rs nm k), .int .i64 (regE cs.length rs nm k)])) := by
  obtain ⟨F, G, h1, h2, h3, h4, h5, h6⟩ := h
  exact (region_o nm hnm k hok h1).mono fun e w' ⟨he, F', ho, ht⟩ => ⟨he, turnA h1 h2 h3 h4 h5 h6 ho ht⟩
theorem b_region (nm : List UInt8) (hnm : nm.length ≤ 1000000000) (k : Int) (hok : RegsOk cs'.length rs') (h : Two w0 w A B X o cs rs ev cs' rs' ev') : Calls Tryd.prog 43 #[PA B, .string (str nm), .int .i64 k] w (TwoP w0 A B X o cs rs ev cs' (regV cs'.length rs' nm k) ev' (.tuple #[.int .i64 (regB cs'.length rs' nm k), .int .i64 (regE cs'.length rs' nm k)])) := by
  obtain ⟨F, G, h1, h2, h3, h4, h5, h6⟩ := h
  exact (rregion_p nm hnm k h2.at' hok h2.b.size).mono fun e w' ⟨he, hn⟩ => by
    obtain ⟨G', ho, ht⟩ := h2.now hn
    exact ⟨he, turnB h1 h2 h3 h4 h5 h6 ho ht⟩
theorem a_forget (h : Two w0 w A B X o cs rs ev cs' rs' ev') : Calls Tryd.prog 25 #[PA A] w (TwoP w0 A B X o cs rs [] cs' rs' ev' (.int .i64 0)) := by
  obtain ⟨F, G, h1, h2, h3, h4, h5, h6⟩ := h
  exact (forget_o h1).mono fun e w' ⟨he, F', ho, ht⟩ => ⟨he, turnA h1 h2 h3 h4 h5 h6 ho ht⟩
theorem b_forget (h : Two w0 w A B X o cs rs ev cs' rs' ev') : Calls Tryd.prog 46 #[PA B] w (TwoP w0 A B X o cs rs ev cs' rs' [] (.int .i64 0)) := by
  obtain ⟨F, G, h1, h2, h3, h4, h5, h6⟩ := h
  exact (rforget_p h2.at').mono fun e w' ⟨he, hn⟩ => by
    obtain ⟨G', ho, ht⟩ := h2.now hn
    exact ⟨he, turnB h1 h2 h3 h4 h5 h6 ho ht⟩
theorem a_has (f k : Int) (h : Pair w0 w A B cs rs ev cs' rs' ev') : Calls Tryd.prog 23 #[PA A, .int .i64 f, .int .i64 k] w fun e w' => e = .returned (.int .i64 (hasE cs.length f k)) ∧ Below w.heap.size w w' := by
  obtain ⟨F, h⟩ := h.ra
  exact (has_p f k h).mono fun e w' ⟨h1, h2⟩ => ⟨h1, h2 ▸ Below.refl _ _⟩
theorem a_room (k : Int) (h : Pair w0 w A B cs rs ev cs' rs' ev') : Calls Tryd.prog 24 #[PA A, .int .i64 k] w fun e w' => e = .returned (.int .i64 (roomE ev.length k)) ∧ Below w.heap.size w w' := by
  obtain ⟨F, h⟩ := h.ra
  exact (room_p k h).mono fun e w' ⟨h1, h2⟩ => ⟨h1, h2 ▸ Below.refl _ _⟩
theorem a_steps (h : Pair w0 w A B cs rs ev cs' rs' ev') : Calls Tryd.prog 20 #[PA A] w fun e w' => e = .returned (.int .i64 (ev.length : Int)) ∧ Below w.heap.size w w' := by
  obtain ⟨F, h⟩ := h.ra
  exact (steps_p h).mono fun e w' ⟨h1, h2⟩ => ⟨h1, h2 ▸ Below.refl _ _⟩
theorem a_find (nm : List UInt8) (h : Pair w0 w A B cs rs ev cs' rs' ev') : Calls Tryd.prog 18 #[PA A, .string (str nm)] w fun e w' => e = .returned (.tuple #[.agg #[.string (str (findV rs nm).1), .int .i64 (findV rs nm).2.1, .int .i64 (findV rs nm).2.2], .int .i64 (findE rs nm)]) ∧ Below w.heap.size w w' := by
  obtain ⟨F, h⟩ := h.ra
  exact find_p nm h
theorem a_since (k : Int) (h : Pair w0 w A B cs rs ev cs' rs' ev') : Calls Tryd.prog 21 #[PA A, .int .i64 k] w (RowP w 2 (sinceV ev k).length (ecells (sinceV ev k)) fun v => .tuple #[v, .int .i64 (sinceE ev.length k)]) := by
  obtain ⟨F, h⟩ := h.ra
  exact (since_p k h).mono fun e w' ⟨v, h1, h2, h3⟩ => ⟨v, h1, Row.of_owns h2, h3⟩
theorem a_events (h : Pair w0 w A B cs rs ev cs' rs' ev') : Calls Tryd.prog 26 #[PA A] w (RowP w 2 ev.length (ecells ev) id) := by
  obtain ⟨F, h⟩ := h.ra
  exact (events_p h).mono fun e w' ⟨v, h1, h2, h3⟩ => ⟨v, h1, Row.of_owns h2, h3⟩
theorem a_cells (h : Pair w0 w A B cs rs ev cs' rs' ev') : Calls Tryd.prog 16 #[PA A] w (RowP w 1 cs.length (ccells cs) id) := by
  obtain ⟨F, h⟩ := h.ra
  exact (cells_p h).mono fun e w' ⟨v, h1, h2, h3⟩ => ⟨v, h1, Row.of_owns h2, h3⟩
theorem a_regions (h : Pair w0 w A B cs rs ev cs' rs' ev') : Calls Tryd.prog 19 #[PA A] w (RowP w 3 rs.length (rcells rs) id) := by
  obtain ⟨F, h⟩ := h.ra
  exact (regions_p h).mono fun e w' ⟨v, h1, h2, h3⟩ => ⟨v, h1, Row.of_owns h2, h3⟩
theorem b_has (f k : Int) (h : Pair w0 w A B cs rs ev cs' rs' ev') : Calls Tryd.prog 45 #[PA B, .int .i64 f, .int .i64 k] w fun e w' => e = .returned (.int .i64 (hasE cs'.length f k)) ∧ Below w.heap.size w w' := by
  obtain ⟨F, h⟩ := h.rb
  exact (rhas_p f k h).mono fun e w' ⟨h1, h2⟩ => ⟨h1, h2 ▸ Below.refl _ _⟩
theorem b_room (k : Int) (h : Pair w0 w A B cs rs ev cs' rs' ev') : Calls Tryd.prog 48 #[PA B, .int .i64 k] w fun e w' => e = .returned (.int .i64 (roomE ev'.length k)) ∧ Below w.heap.size w w' := by
  obtain ⟨F, h⟩ := h.rb
  exact (rroom_p k h).mono fun e w' ⟨h1, h2⟩ => ⟨h1, h2 ▸ Below.refl _ _⟩
theorem b_steps (h : Pair w0 w A B cs rs ev cs' rs' ev') : Calls Tryd.prog 29 #[PA B] w fun e w' => e = .returned (.int .i64 (ev'.length : Int)) ∧ Below w.heap.size w w' := by
  obtain ⟨F, h⟩ := h.rb
  exact (rsteps_p h).mono fun e w' ⟨h1, h2⟩ => ⟨h1, h2 ▸ Below.refl _ _⟩
theorem b_find (nm : List UInt8) (h : Pair w0 w A B cs rs ev cs' rs' ev') : Calls Tryd.prog 44 #[PA B, .string (str nm)] w fun e w' => e = .returned (.tuple #[.agg #[.string (str (findV rs' nm).1), .int .i64 (findV rs' nm).2.1, .int .i64 (findV rs' nm).2.2], .int .i64 (findE rs' nm)]) ∧ Below w.heap.size w w' := by
  obtain ⟨F, h⟩ := h.rb
  exact rfind_p nm h
theorem b_since (k : Int) (h : Pair w0 w A B cs rs ev cs' rs' ev') : Calls Tryd.prog 47 #[PA B, .int .i64 k] w (RowP w 2 (sinceV ev' k).length (ecells (sinceV ev' k)) fun v => .tuple #[v, .int .i64 (sinceE ev'.length k)]) := by
  obtain ⟨F, h⟩ := h.rb
  exact (rsince_p k h).mono fun e w' ⟨v, h1, h2, h3⟩ => ⟨v, h1, Row.of_owns h2, h3⟩
theorem b_events (h : Pair w0 w A B cs rs ev cs' rs' ev') : Calls Tryd.prog 30 #[PA B] w (RowP w 2 ev'.length (ecells ev') id) := by
  obtain ⟨F, h⟩ := h.rb
  exact (revents_p h).mono fun e w' ⟨v, h1, h2, h3⟩ => ⟨v, h1, Row.of_owns h2, h3⟩
theorem b_cells (h : Pair w0 w A B cs rs ev cs' rs' ev') : Calls Tryd.prog 33 #[PA B] w (RowP w 1 cs'.length (ccells cs') id) := by
  obtain ⟨F, h⟩ := h.rb
  exact (rcells_p h).mono fun e w' ⟨v, h1, h2, h3⟩ => ⟨v, h1, Row.of_owns h2, h3⟩
theorem b_regions (h : Pair w0 w A B cs rs ev cs' rs' ev') : Calls Tryd.prog 32 #[PA B] w (RowP w 3 rs'.length (rcells rs') id) := by
  obtain ⟨F, h⟩ := h.rb
  exact (rregions_p h).mono fun e w' ⟨v, h1, h2, h3⟩ => ⟨v, h1, Row.of_owns h2, h3⟩
end
end Go.Proofs.YtomjefplacgoeaaDoor
