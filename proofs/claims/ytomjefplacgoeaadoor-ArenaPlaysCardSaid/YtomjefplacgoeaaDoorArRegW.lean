/- A region put behind an arena's. -/
import Derived.Test.YtomjefplacgoeaaDoorArPlace
namespace Go.Proofs.YtomjefplacgoeaaDoor
open Go.RowKit

theorem infoReg : (Tryd.prog.info? 43).map (fun i => (i.zero, i.size, i.bytes)) = some (some (.agg #[.string ⟨#[]⟩, .int .i64 0, .int .i64 0]), 3, 32) := by kernel_rfl
theorem rcells_snoc (l : List Reg) (r : Reg) : rcells (l ++ [r]) = rcells l ++ rcell r := by simp [rcells]
theorem rcells_len (l : List Reg) : (rcells l).length = l.length * 3 := by
  induction l with
  | nil => rfl
  | cons a l ih => rw [show rcells (a :: l) = rcell a ++ rcells l from rfl, List.length_append, ih]; simp [rcell]; omega

section
variable {W : World} {base : Nat} {F : List Nat} {A : Nat} {cs : List Nat} {rs : List Reg} {ev : List Ev} {pv rv : Value} {C : Nat} {PL : List Nat} {m : Nat}
theorem ArenaIn.regioned (h : ArenaIn W base F A cs rs ev pv rv C PL m) (hbase : base ≤ W.heap.size) (r : Reg) (hr : rs.length < 64) {o : Obj} {W3 : World} {g cap : Nat}
    (hown : W3.ownsRow base 43 3 (.slice (some ⟨g, 0, none⟩) (rs.length + 1) cap) (rs.length + 1) (rcells rs ++ rcell r))
    (hgrow : (W.alloc o).grownBy W3 rv.ownBlock) (hat : rv.ownBlock = some g ∨ g = W.heap.size + 1) (hlt : g < W3.heap.size) :
    ArenaIn (W3.setCell ⟨A, 3, none⟩ (.slice (some ⟨g, 0, none⟩) (rs.length + 1) cap)) base (F ++ [W.heap.size + 1]) A cs (rs ++ [r]) ev pv (.slice (some ⟨g, 0, none⟩) (rs.length + 1) cap) C PL m ∧
      Fr F W (W3.setCell ⟨A, 3, none⟩ (.slice (some ⟨g, 0, none⟩) (rs.length + 1) cap)) := by
  obtain ⟨hAC, hP, hpv, hrv, hPn⟩ := h.parts
  have hs2 : (W.alloc o).heap.size = W.heap.size + 1 := by simp
  have hs3 : W.heap.size + 1 ≤ W3.heap.size := by have := hgrow.size; rw [hs2] at this; exact this
  have hrvm : ∀ k, rv.ownBlock = some k → k ∈ blockOf rv := fun k e => by simp [blockOf, e]
  have old : ∀ k, k < W.heap.size → k ∉ blockOf rv → W3.heap[k]? = W.heap[k]? := fun k hk hn => by
    rw [hgrow.block k (by rw [hs2]; omega) (fun e => hn (hrvm k e.symm)), Below.heap_alloc _ _ _ hk]
  have far : ∀ k, k < W.heap.size → k ∉ blockOf rv → k ≠ A → (W3.setCell ⟨A, 3, none⟩ (.slice (some ⟨g, 0, none⟩) (rs.length + 1) cap)).heap[k]? = W.heap[k]? := fun k hk hn hA => by
    rw [Below.heap_setCell _ _ _ _ hA]; exact old k hk hn
  have lt : ∀ k ∈ A :: C :: (PL ++ blockOf pv ++ blockOf rv), k < W.heap.size := fun k hk => (h.own k hk).2.2
  have hgA : g ≠ A := fun e => by
    rcases hat with hg | hg
    · exact (hrv g (hrvm g hg)).1 e
    · have := lt A (by simp); omega
  have hArv : A ∉ blockOf rv := fun hm => (hrv A hm).1 rfl
  have hbo : blockOf (.slice (some ⟨g, 0, none⟩) (rs.length + 1) cap) = [g] := rfl
  have hgC : g ≠ C := fun e => by
    rcases hat with hg | hg
    · exact (hrv g (hrvm g hg)).2.1 e
    · have := lt C (by simp); omega
  have hgP : g ∉ PL := fun hm => by
    rcases hat with hg | hg
    · exact (hrv g (hrvm g hg)).2.2.1 hm
    · have := lt g (by simp [hm]); omega
  have hgr : g ∉ blockOf pv := fun hm => by
    rcases hat with hg | hg
    · exact (hrv g (hrvm g hg)).2.2.2 hm
    · have := lt g (by simp [hm]); omega
  have hnr : ∀ k ∈ C :: (PL ++ blockOf pv), k ∉ blockOf rv := fun k hk hm => by
    simp only [List.mem_cons, List.mem_append] at hk
    rcases hk with e | e | e
    · exact (hrv k hm).2.1 e
    · exact (hrv k hm).2.2.1 e
    · exact (hrv k hm).2.2.2 e
  refine ⟨⟨?_, (far C (lt C (by simp)) (hnr C (by simp)) (Ne.symm hAC)).trans h.c, owns_keep h.p (fun k hk => far k (lt k (by simp [hk])) (hnr k (by simp [hk])) (hpv k hk).1), ?_, h.np, fun i p hp => ?_, ?_, fun k hk => ?_, h.lc, h.le, by simp; omega⟩, ?_⟩
  · have e1 := (old A (lt A (by simp)) hArv).trans h.a
    rw [heap_setCell_at _ e1]; simp
  · rw [List.length_append, List.length_singleton, rcells_snoc]
    exact owns_keep hown (fun k hk => by rw [hbo, List.mem_singleton] at hk; subst hk; exact Below.heap_setCell _ _ _ _ hgA)
  · have hm := List.mem_of_getElem? hp
    obtain ⟨c, h1, h2, h3⟩ := h.pg i p hp
    exact ⟨c, (far p (lt p (by simp [hm])) (hnr p (by simp [hm])) (hP p hm).1).trans h1, h2, h3⟩
  · rw [hbo]
    have hnd := h.nd
    rw [List.nodup_cons, List.nodup_cons, List.nodup_append] at hnd ⊢
    obtain ⟨n1, n2, n3, n4, n5⟩ := hnd
    refine ⟨fun hm => ?_, fun hm => ?_, n3, by simp, fun x hx y hy e => ?_⟩
    · simp only [List.mem_cons, List.mem_append, List.mem_singleton, List.not_mem_nil, or_false] at hm n1
      rcases hm with e | (e | e) | e
      · exact hAC e
      · exact n1 (by simp [e])
      · exact n1 (by simp [e])
      · exact hgA e.symm
    · simp only [List.mem_append, List.mem_singleton] at hm n2
      rcases hm with (e | e) | e
      · exact n2 (by simp [e])
      · exact n2 (by simp [e])
      · exact hgC e.symm
    · rw [List.mem_singleton] at hy
      subst hy; subst e
      rcases List.mem_append.1 hx with hx | hx
      · exact hgP hx
      · exact hgr hx
  · rw [hbo] at hk
    have oldk : k ∈ A :: C :: (PL ++ blockOf pv ++ blockOf rv) → k ∈ F ++ [W.heap.size + 1] ∧ base ≤ k ∧ k < (W3.setCell ⟨A, 3, none⟩ (.slice (some ⟨g, 0, none⟩) (rs.length + 1) cap)).heap.size := fun hm => by
      obtain ⟨a1, a2, a3⟩ := h.own k hm
      exact ⟨by simp [a1], a2, by simp [World.size_setCell]; omega⟩
    simp only [List.mem_cons, List.mem_append, List.mem_singleton, List.not_mem_nil, or_false] at hk
    rcases hk with e | e | (e | e) | e
    · exact oldk (by simp [e])
    · exact oldk (by simp [e])
    · exact oldk (by simp [e])
    · exact oldk (by simp [e])
    · subst e
      rcases hat with hg | hg
      · exact oldk (by simp [hrvm _ hg])
      · subst hg; exact ⟨by simp, by omega, by simp [World.size_setCell]; omega⟩
  · refine ⟨hgrow.os, hgrow.tape, hgrow.output, by simp [World.size_setCell]; omega, fun k hk hn => far k hk (fun hm => hn (h.own k (by simp [hm])).1) (fun e => hn (by rw [e]; exact (h.own A (by simp)).1))⟩
end

/-- the end of the last region -/
def endR (rs : List Reg) : Int := match rs.getLast? with
  | some r => r.2.1 + r.2.2
  | none => 0
def RegsOk (n : Nat) (rs : List Reg) : Prop := ∀ r ∈ rs, 0 ≤ r.2.1 ∧ 1 ≤ r.2.2 ∧ r.2.1 + r.2.2 ≤ n
theorem endR_at {rs : List Reg} (h : rs.length - 1 < rs.length) : endR rs = rs[rs.length - 1].2.1 + rs[rs.length - 1].2.2 := by
  unfold endR
  rw [List.getLast?_eq_getElem?, List.getElem?_eq_getElem h]
theorem endR_in {n : Nat} {rs : List Reg} (h : RegsOk n rs) : 0 ≤ endR rs ∧ endR rs ≤ n := by
  unfold endR
  cases e : rs.getLast? with
  | none => simp
  | some r =>
    obtain ⟨h1, h2, h3⟩ := h r (List.mem_of_getLast? e)
    simp only
    omega
def regE (n : Nat) (rs : List Reg) (nm : List UInt8) (k : Int) : Int :=
  if nameB nm = false then 6 else if k < 1 then 7 else if 0 ≤ idxR rs nm then 8 else if rs.length = 64 then 3 else if (n : Int) - endR rs < k then 5 else 0
def regB (n : Nat) (rs : List Reg) (nm : List UInt8) (k : Int) : Int := if regE n rs nm k = 0 then endR rs else 0
def regV (n : Nat) (rs : List Reg) (nm : List UInt8) (k : Int) : List Reg := if regE n rs nm k = 0 then rs ++ [(nm, endR rs, k)] else rs
theorem regB_bad {n : Nat} {rs : List Reg} {nm : List UInt8} {k : Int} (h : regE n rs nm k ≠ 0) : regB n rs nm k = 0 ∧ regV n rs nm k = rs := by
  unfold regB regV; rw [if_neg h, if_neg h]; exact ⟨rfl, rfl⟩
theorem regB_ok {n : Nat} {rs : List Reg} {nm : List UInt8} {k : Int} (h : regE n rs nm k = 0) : regB n rs nm k = endR rs ∧ regV n rs nm k = rs ++ [(nm, endR rs, k)] := by
  unfold regB regV; rw [if_pos h, if_pos h]; exact ⟨rfl, rfl⟩

section
variable {W : World} {base : Nat} {F : List Nat} {A : Nat} {cs : List Nat} {rs : List Reg} {ev : List Ev}
theorem Now.of_below {W' : World} (h : ArenaAt W base F A cs rs ev) (hb : Below W.heap.size W W') : Now W base F A cs rs ev W' := ⟨F, h.below hb, fun _ hj => .inl hj, Fr.of_below _ hb⟩
def RegionP (W : World) (base : Nat) (F : List Nat) (A : Nat) (cs : List Nat) (rs : List Reg) (ev : List Ev) (nm : List UInt8) (k : Int) (e : Ending) (w' : World) : Prop :=
  e = .returned (.tuple #[.int .i64 (regB cs.length rs nm k), .int .i64 (regE cs.length rs nm k)]) ∧ Now W base F A cs (regV cs.length rs nm k) ev w'
theorem RegionP.bad {w' : World} (h : ArenaAt W base F A cs rs ev) (hb : Below W.heap.size W w') {nm : List UInt8} {k E : Int} (he : regE cs.length rs nm k = E) (h0 : E ≠ 0) : RegionP W base F A cs rs ev nm k (.returned (.tuple #[.int .i64 0, .int .i64 E])) w' := by
  obtain ⟨h1, h2⟩ := regB_bad (n := cs.length) (rs := rs) (nm := nm) (k := k) (by rw [he]; exact h0)
  unfold RegionP
  rw [h1, h2, he]
  exact ⟨rfl, Now.of_below h hb⟩
end
end Go.Proofs.YtomjefplacgoeaaDoor
