/- slices.Sorted(maps.Keys(m)) of a map of counts. -/
import Derived.Test.YtpjllppbpnkemaaPaMap
import Derived.Test.YtpjllppbpnkemaaPaLay
namespace Go.Proofs.Ytpjllppbpnkemaa
open Go.RowKit Go.Sort Go.Maps Go.Shelf

/-- slices.Sort's two contracts, at the fence that asks nothing -/
theorem sorts (m : Nat) : AnyZI.SortsIn Try.prog sortedL_ren Fence.wide m :=
  ⟨fun blk off cap ss W hH hblk hsz => callsIn_wide.2 (AnyM.slices_Sort_int sortLM blk off cap ss W hH hblk hsz),
   fun p cap W => callsIn_wide.2 (AnyM.slices_Sort_int_none sortLM p cap W)⟩
theorem keys_c (b : Nat) (W : World) : Calls Try.prog 66 #[.map (some b)] W fun e w' => e = .returned (.func (.func 80) #[] #[.pointer (some ⟨W.heap.size, 0, none⟩)]) ∧ w' = W.alloc (.cells #[.map (some b)] 96) :=
  (callsIn_wide (n := 5)).1 (AnyZI.keys_in keysL Fence.wide 5 trivial rfl (some b) W)
def ncells (l : List Nat) : List Value := l.map fun (n : Nat) => Value.int .i64 (n : Int)
abbrev Nats (w : World) (v : Value) (l : List Nat) : Prop := Row w 1 v l.length (ncells l)
def SortP (w : World) (S : Nat → Bool) (e : Ending) (w' : World) : Prop := ∃ v L, e = .returned v ∧ Nats w' v L ∧ (∀ c, c ∈ L ↔ S c = true) ∧ (∀ a m c, v = .slice (some a) m c → w.heap.size ≤ a.block) ∧ Below w.heap.size w w'
theorem intKeys_ok {D : DU} (h : AllOk D) {S : Nat → Bool} (hs : ∀ c : Nat, has D (.int .i64 (c : Int)) = S c) : ∀ x : Int, x ∈ intKeys D ↔ ∃ c : Nat, x = c ∧ S c = true := by
  obtain ⟨es, rfl, h⟩ := h
  intro x
  unfold intKeys
  simp only [List.mem_map]
  constructor
  · rintro ⟨p, hp, rfl⟩
    obtain ⟨c, h1, h2, h3⟩ := h p hp
    refine ⟨c, by rw [h1]; rfl, ?_⟩
    rw [← hs c, has_eq, List.any_eq_true]
    exact ⟨p, hp, by rw [h1]; simp [Lit.sameKey]⟩
  · rintro ⟨c, rfl, hc⟩
    rw [← hs c, has_eq, List.any_eq_true] at hc
    obtain ⟨p, hp, h4⟩ := hc
    refine ⟨p, hp, ?_⟩
    obtain ⟨d, h5, _⟩ := h p hp
    rw [h5] at h4 ⊢
    simp [Lit.sameKey] at h4
    rw [h4]; rfl
theorem toNats {l : List Int} (h : ∀ x ∈ l, ∃ c : Nat, x = (c : Int)) : ∃ L : List Nat, l = L.map fun (c : Nat) => (c : Int) := by
  induction l with
  | nil => exact ⟨[], rfl⟩
  | cons a r ih =>
    obtain ⟨L, hL⟩ := ih (fun x hx => h x (by simp [hx]))
    obtain ⟨c, hc⟩ := h a (by simp)
    exact ⟨c :: L, by rw [hL, hc]; rfl⟩
theorem sorted_c {w : World} {b : Nat} {S : Nat → Bool} (h : MapIs w b S) (cb : Nat) (hc : w.cell? ⟨cb, 0, none⟩ = some (.map (some b))) :
    Calls Try.prog 65 #[.func (.func 80) #[] #[.pointer (some ⟨cb, 0, none⟩)]] w (SortP w S) := by
  obtain ⟨D, hown, h2, h3, h4, h5⟩ := h.size
  have hmax : Maps.size D ≤ maxLen := by unfold maxLen; omega
  have hbytes : Maps.size D * 8 ≤ 140737488355328 := by omega
  refine (callsIn_wide (n := 5)).1 ?_
  have hseq : SeqGives Fence.wide 2 Try.prog 80 #[.pointer (some ⟨cb, 0, none⟩)] encZ (fun ss => ss.Perm (intKeys D)) (Maps.size D) w :=
    AnyZI.keys_gives (ρ := keysL_ren) { keysL with } Fence.wide _ trivial rfl (by omega) cb b _ D _ (World.block_lt_of_cell? w _ hc) hc hown
  have cS := AnyZI.sorted_in sortedL Fence.wide 5 trivial trivial trivial trivial rfl (by omega) (sorts _) (enters_of Try.func79 (by kernel_rfl) rfl) 80 #[.pointer (some ⟨cb, 0, none⟩)] trivial (enters_of Try.func80 (by kernel_rfl) rfl) _ _ hmax hbytes _ hseq
  refine CallsIn.mono cS ?_
  rintro e w' ⟨v, ss, rfl, hS, hrow, _, hb⟩
  have hp : (ss.mergeSort (fun x y => decide (x ≤ y))).Perm (intKeys D) := (List.mergeSort_perm _ _).trans hS
  obtain ⟨L, hL⟩ := toNats (l := ss.mergeSort (fun x y => decide (x ≤ y))) (fun x hx => by
    obtain ⟨c, hc, _⟩ := (intKeys_ok h2 h5 x).1 (hp.mem_iff.1 hx)
    exact ⟨c, hc⟩)
  have hlen : ss.length = L.length := by
    have := congrArg List.length hL
    rw [List.length_mergeSort, List.length_map] at this
    exact this
  refine ⟨v, L, rfl, ?_, fun c => ?_, fun a m c he => ?_, hb⟩
  · have := Row.of_owns hrow
    rw [hL, hlen, List.map_map] at this
    exact this
  · have e1 : c ∈ L ↔ (c : Int) ∈ L.map (fun (c : Nat) => (c : Int)) := by
      rw [List.mem_map]
      constructor
      · intro h; exact ⟨c, h, rfl⟩
      · rintro ⟨d, hd, he⟩
        have : d = c := by omega
        exact this ▸ hd
    rw [e1, ← hL, hp.mem_iff, intKeys_ok h2 h5]
    constructor
    · rintro ⟨d, hd, hS⟩
      have : c = d := by omega
      exact this ▸ hS
    · intro h; exact ⟨c, rfl, h⟩
  · rcases hrow.2 with ⟨rfl, _⟩ | ⟨g, cap, cur, rfl, hg, _⟩
    · cases he
    · cases he; exact hg
end Go.Proofs.Ytpjllppbpnkemaa
