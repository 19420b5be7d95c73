/- A map from counts to true, as a set of counts up to 16. -/
import Derived.Test.YtpjllppbpnkemaaMg6
import Derived.Maps.OwnSet
import Derived.Maps.OwnOps
import Derived.Carry
namespace Go.Proofs.Ytpjllppbpnkemaa
open Go.RowKit Go.Sort Go.Maps Go.ChangeMaps Go.MapKept
open Go.WideElems (Fit rd rg pl rd_val elemAt)

abbrev DU := DataW Unit
/-- an entry says of a count up to 16 that it is there -/
def EntryOk (p : Lit × DU) : Prop := ∃ c : Nat, p.1 = .int .i64 (c : Int) ∧ c ≤ 16 ∧ p.2 = .lit (.bool true)
def AllOk (D : DU) : Prop := ∃ es, D = .map es ∧ ∀ p ∈ es, EntryOk p
noncomputable def RB : Value → Option (DU × List MemPlace) := plainElem Try.prog 4
/-- block b is a map that holds the counts of S -/
def MapIs (w : World) (b : Nat) (S : Nat → Bool) : Prop :=
  ∃ D : DU, w.ownsMap Try.prog 3 RB b (size D) D ∧ AllOk D ∧ ∀ c : Nat, has D (.int .i64 (c : Int)) = S c

theorem keyed : Keyed Try.prog 3 := int_keyed Try.underlying3
theorem key_of (c : Nat) (h : c ≤ 17) : keyOf Try.prog 3 (.int .i64 (c : Int)) = some (.int .i64 (c : Int)) :=
  keyOf_int_mk Try.underlying3 (by simp [Lit.wf, IntKind.min, IntKind.max, IntKind.signed, IntKind.bits]; omega)
theorem isKey (c : Int) : WideAt.IsKeyLit (.int .i64 c) := trivial
theorem ownsMap_exact {w : World} {b n : Nat} {D : DU} (h : w.ownsMap Try.prog 3 RB b n D) : w.ownsMap Try.prog 3 RB b (size D) D := by
  obtain ⟨es, clock, h1, h2, h3, rfl⟩ := h
  refine ⟨es, clock, h1, h2, ?_, rfl⟩
  rw [size_eq, length_sorted]
  simp
theorem mem_insert {x p : Lit × DU} : ∀ l : List (Lit × DU), p ∈ DataW.insert x l ↔ p = x ∨ p ∈ l
  | [] => by simp [DataW.insert]
  | y :: r => by
    unfold DataW.insert
    split
    · simp
    · rw [List.mem_cons, mem_insert r, List.mem_cons]
      constructor
      · rintro (h | h | h) <;> simp [h]
      · rintro (h | h | h) <;> simp [h]
theorem AllOk.put {D : DU} (h : AllOk D) (c : Nat) (hc : c ≤ 16) : AllOk (D.put (.int .i64 (c : Int)) (.lit (.bool true))) := by
  obtain ⟨es, rfl, h⟩ := h
  refine ⟨_, rfl, fun p hp => ?_⟩
  rcases (mem_insert _).1 hp with rfl | hp
  · exact ⟨c, rfl, hc, rfl⟩
  · exact h p (List.mem_filter.1 hp).1
theorem AllOk.del {D : DU} (h : AllOk D) (k : Lit) : AllOk (D.del k) := by
  obtain ⟨es, rfl, h⟩ := h
  exact ⟨_, rfl, fun p hp => h p (List.mem_filter.1 hp).1⟩
theorem AllOk.isMap {D : DU} (h : AllOk D) : IsMap D := by
  obtain ⟨es, rfl, _⟩ := h
  exact ⟨es, rfl⟩
/-- what lies below a number, with nothing twice, has no more elements -/
theorem nodup_le : ∀ (n : Nat) (l : List Nat), l.Nodup → (∀ x ∈ l, x < n) → l.length ≤ n
  | 0, l, _, h => by
    cases l with
    | nil => simp
    | cons a r => have := h a (by simp); omega
  | n + 1, l, hd, h => by
    have h1 := nodup_le n (l.filter (fun x => decide (x ≠ n))) (hd.filter _) (fun x hx => by
      have := List.mem_filter.1 hx
      have h2 := h x this.1
      have h3 : x ≠ n := by simpa using this.2
      omega)
    have h4 : l.length ≤ (l.filter (fun x => decide (x ≠ n))).length + 1 := by
      clear h1 h
      induction l with
      | nil => simp
      | cons a r ih =>
        rw [List.nodup_cons] at hd
        have ih := ih hd.2
        by_cases ha : a = n
        · subst ha
          have : r.filter (fun x => decide (x ≠ a)) = r := List.filter_eq_self.2 fun x hx => by
            have : x ≠ a := fun e => hd.1 (e ▸ hx)
            simpa using this
          rw [List.filter_cons_of_neg (by simp), this]
          simp
        · rw [List.filter_cons_of_pos (by simpa using ha)]
          simp only [List.length_cons]
          omega
    omega
def litN : Lit → Nat
  | .int _ a => a.toNat
  | _ => 0
theorem AllOk.size_le {D : DU} (h : AllOk D) (ht : Tidy D) : size D ≤ 17 := by
  obtain ⟨es, rfl, h⟩ := h
  obtain ⟨es', e, hp⟩ := ht
  cases e
  have h1 := nodup_le 17 (es.map fun p => (litN p.1)) ?_ ?_
  · simpa [size_eq] using h1
  · unfold List.Nodup
    rw [List.pairwise_map]
    refine hp.imp_of_mem ?_
    intro p q hpm hqm hne e
    obtain ⟨c, h2, _⟩ := h p hpm
    obtain ⟨d, h3, _⟩ := h q hqm
    rw [h2, h3] at e hne
    simp only [litN, Int.toNat_natCast] at e
    exact hne (by rw [e])
  · intro x hx
    rw [List.mem_map] at hx
    obtain ⟨p, hpm, rfl⟩ := hx
    obtain ⟨c, h2, h3, _⟩ := h p hpm
    rw [h2]
    simp only [litN, Int.toNat_natCast]
    omega
theorem MapIs.size {w : World} {b : Nat} {S : Nat → Bool} (h : MapIs w b S) : ∃ D : DU, w.ownsMap Try.prog 3 RB b (size D) D ∧ AllOk D ∧ Tidy D ∧ Maps.size D ≤ 17 ∧ ∀ c : Nat, has D (.int .i64 (c : Int)) = S c := by
  obtain ⟨D, h1, h2, h3⟩ := h
  have ht := h1.tidy keyed
  exact ⟨D, h1, h2, ht, h2.size_le ht, h3⟩
theorem MapIs.lt {w : World} {b : Nat} {S : Nat → Bool} (h : MapIs w b S) : b < w.heap.size := by
  obtain ⟨D, h1, _⟩ := h
  exact h1.lt
theorem MapIs.keep {w w' : World} {b : Nat} {S : Nat → Bool} (h : MapIs w b S) (hk : w'.heap[b]? = w.heap[b]?) : MapIs w' b S := by
  obtain ⟨D, ⟨es, clock, h1, h2⟩, h3⟩ := h
  exact ⟨D, ⟨es, clock, hk.trans h1, h2⟩, h3⟩
theorem MapIs.congr {w : World} {b : Nat} {S T : Nat → Bool} (h : MapIs w b S) (e : ∀ c, S c = T c) : MapIs w b T := by
  obtain ⟨D, h1, h2, h3⟩ := h
  exact ⟨D, h1, h2, fun c => (h3 c).trans (e c)⟩
theorem MapIs.le {w : World} {b : Nat} {S : Nat → Bool} (h : MapIs w b S) {c : Nat} (hc : S c = true) : c ≤ 16 := by
  obtain ⟨D, _, ⟨es, rfl, h2⟩, h3⟩ := h
  rw [← h3 c, has_eq, List.any_eq_true] at hc
  obtain ⟨p, hp, h4⟩ := hc
  obtain ⟨d, h5, h6, _⟩ := h2 p hp
  rw [h5] at h4
  simp [Lit.sameKey] at h4
  omega
/-- 'make(map[int]bool)' -/
theorem mapIs_made (w : World) : MapIs (w.alloc (.map #[] 0)) w.heap.size (fun _ => false) :=
  ⟨.map [], World.ownsMap_made w _ _ _, ⟨[], rfl, fun p hp => by simp at hp⟩, fun _ => rfl⟩
theorem mapTurned_heap {w w' : World} {b : Nat} (h : w.mapTurned w' b) : w.heap.size ≤ w'.heap.size ∧ (∀ k, k < w.heap.size → k ≠ b → w'.heap[k]? = w.heap[k]?) ∧ w.grownBy w' (some b) := by
  have hg := h.grown
  exact ⟨hg.size, fun k hk hn => hg.block k hk (fun e => hn (by cases e; rfl)), hg⟩
/-- 'm[c] = true' -/
theorem MapIs.store {w : World} {b : Nat} {S : Nat → Bool} (h : MapIs w b S) (c : Nat) (hc : c ≤ 16) :
    ∃ w', (Instr.mapUpdate 96 (.map (some b)) (.int .i64 (c : Int)) (.bool true)).run Try.prog w = .ok () w' ∧ MapIs w' b (fun d => decide (d = c) || S d) ∧ w.grownBy w' (some b) := by
  obtain ⟨D, h1, h2, h3, h4, h5⟩ := h.size
  obtain ⟨w', hr, ho, ht⟩ := h1.store keyed Try.underlying96 (by unfold maxLen; omega) (key_of c (by omega)) (plainElem_bool Try.underlying4 true)
  refine ⟨w', hr, ⟨_, ownsMap_exact ho, h2.put c hc, fun d => ?_⟩, ht.grown⟩
  by_cases e : d = c
  · subst e
    rw [has_put_same h2.isMap (isKey _)]
    simp
  · rw [has_put_other (by intro h; cases h; exact e rfl), h5 d]
    simp [e]
/-- 'delete(m, c)' -/
theorem MapIs.drop {w : World} {b : Nat} {S : Nat → Bool} (h : MapIs w b S) (c : Nat) (hc : c ≤ 16) (ty : TypeId) :
    ∃ w', (Builtin.delete_ #[96, 3] ty #[.map (some b), .int .i64 (c : Int)]).run Try.prog w = .ok (.tuple #[]) w' ∧ MapIs w' b (fun d => S d && !decide (d = c)) ∧ w.grownBy w' (some b) := by
  obtain ⟨D, h1, h2, h3, h4, h5⟩ := h.size
  obtain ⟨w', hr, ho, ht⟩ := h1.drop keyed Try.underlying96 (key_of c (by omega)) ty
  refine ⟨w', hr, ⟨_, ownsMap_exact ho, h2.del _, fun d => ?_⟩, ht.grown⟩
  by_cases e : d = c
  · subst e
    rw [has_del_same]
    simp
  · rw [has_del_other (by intro h; cases h; exact e rfl), h5 d]
    simp [e]
theorem atKey_bool {D : DU} (h : AllOk D) (c : Nat) : D.atKey (.int .i64 (c : Int)) (.lit (.bool false)) = .lit (.bool (has D (.int .i64 (c : Int)))) := by
  obtain ⟨es, rfl, h⟩ := h
  unfold DataW.atKey
  simp only
  cases hf : es.find? (fun p => p.1.sameKey (.int .i64 (c : Int))) with
  | none =>
    rw [List.find?_eq_none] at hf
    have : has (.map es : DU) (.int .i64 (c : Int)) = false := by
      rw [has_eq, List.any_eq_false]
      exact fun p hp => hf p hp
    rw [this]
  | some p =>
    have hm := List.mem_of_find?_eq_some hf
    have hk := List.find?_some hf
    have : has (.map es : DU) (.int .i64 (c : Int)) = true := by
      rw [has_eq, List.any_eq_true]
      exact ⟨p, hm, hk⟩
    rw [this]
    obtain ⟨_, _, _, h4⟩ := h p hm
    exact h4
set_option maxRecDepth 100000 in
/-- 'm[c]' -/
theorem MapIs.look {w : World} {b : Nat} {S : Nat → Bool} (h : MapIs w b S) (c : Nat) (hc : c ≤ 16) :
    (Instr.lookup 96 (.map (some b)) (.int .i64 (c : Int)) false).run Try.prog w = .ok (.bool (S c)) w := by
  obtain ⟨D, h1, h2, h3, h4, h5⟩ := h.size
  obtain ⟨v, ps, hr, hv⟩ := h1.lookup keyed Try.underlying96 (z := .bool false) (Try.zeroValue4 w) (plainElem_bool Try.underlying4 false) (key_of c (by omega))
  rw [atKey_bool h2, h5] at hv
  unfold RB plainElem at hv
  rw [Try.underlying4] at hv
  cases v <;> simp at hv
  rw [hr, hv.1]
/-- 'clear(m)' -/
theorem MapIs.clear {w : World} {b : Nat} {S : Nat → Bool} (h : MapIs w b S) (ty : TypeId) :
    ∃ w', (Builtin.clear_ #[96] ty #[.map (some b)]).run Try.prog w = .ok (.tuple #[]) w' ∧ MapIs w' b (fun _ => false) ∧ w.grownBy w' (some b) := by
  obtain ⟨D, ⟨es, clock, hb, h2⟩, _⟩ := h
  have hm := Try.underlying96
  have hr : ∃ clock', (Builtin.clear_ #[96] ty #[.map (some b)]).run Try.prog w = .ok (.tuple #[]) (setBlock w b (.map #[] clock')) :=
    ⟨_, by simp [Builtin.clear_, run_underlying hm, Go.MapKept.run_getObj_map hb, Go.MapKept.run_setObj_map _ hb, Result.andThen, setBlock]; rfl⟩
  obtain ⟨clock', hr⟩ := hr
  have ht : w.mapTurned (setBlock w b (.map #[] clock')) b := ⟨es, clock, #[], clock', hb, rfl⟩
  exact ⟨_, hr, ⟨.map [], ⟨#[], clock', heap_setBlock_same hb _, ⟨by simp, stamped_empty _, by simp⟩, Nat.le_refl _, rfl⟩, ⟨[], rfl, fun p hp => by simp at hp⟩, fun _ => rfl⟩, ht.grown⟩
end Go.Proofs.Ytpjllppbpnkemaa
