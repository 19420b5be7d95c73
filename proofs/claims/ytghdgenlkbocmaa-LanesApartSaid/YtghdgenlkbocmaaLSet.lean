/- Layer 17: a row of positions that grows. -/
import Derived.Test.YtghdgenlkbocmaaLBits
import Derived.Deep.RegionLaw
import Derived.Deep.AppendLies
namespace Go.Proofs.Ytghdgenlkbocmaa
open Go.RowKit

theorem infoI64 : (Try.prog.info? 3).map (fun i => (i.zero, i.size, i.bytes)) = some (some (.int .i64 0), 1, 8) := by kernel_rfl
theorem icells_snoc (l : List Int) (x : Int) : icells (l ++ [x]) = icells l ++ [.int .i64 x] := by simp [icells]
theorem icells_one (l : List Int) : ∀ v ∈ icells l, v.oneCell' = true := by
  intro v hv
  obtain ⟨_, _, rfl⟩ := List.mem_map.1 hv
  rfl

/-- block R is a row of positions, which lie in blocks from B on -/
def Ones (R B : Nat) (ns : List Int) (W : World) : Prop := (R < B ∧ B ≤ W.heap.size) ∧ ∃ ov, W.heap[R]? = some (.cells #[ov] 68 (0, 0)) ∧ W.ownsRow B 3 1 ov ns.length (icells ns)
theorem Ones.keep {R B m : Nat} {ns : List Int} {W W' : World} (h : Ones R B ns W) (hb : Below m W W') (hm : m = W.heap.size) : Ones R B ns W' := by
  subst hm
  obtain ⟨⟨h0, hB⟩, ov, h1, h2⟩ := h
  exact ⟨⟨h0, Nat.le_trans hB hb.size⟩, ov, (hb.block R (by omega)).trans h1, ownsRow_below h2 hb⟩
/-- all that lies below B is as it was, but for block R -/
structure ButR (R B : Nat) (W w' : World) : Prop where
  bel : Below R W w'
  rest : ∀ k, k < B → k ≠ R → w'.heap[k]? = W.heap[k]?

set_option maxRecDepth 100000 in
set_option maxHeartbeats 2000000 in
theorem set_p (R B : Nat) (ns : List Int) (a f m i : Int) (W : World) (h : Ones R B ns W) (hn : ns.length ≤ 100000) (h0 : 0 ≤ f + i) (h1 : f + i ≤ 100000) :
    Calls Try.prog 43 #[.pointer (some ⟨R, 0, none⟩), .agg #[.int .i64 a, .int .i64 f, .int .i64 m], .int .i64 i] W fun e w' => e = .returned (.tuple #[]) ∧ Ones R B (ns ++ [f + i]) w' ∧ ButR R B W w' := by
  obtain ⟨i0, hi, hz0, hz1, hz2⟩ := info_parts infoI64
  obtain ⟨⟨hRB, hBW⟩, ov, hb, hown⟩ := h
  have hl : R < W.heap.size := by omega
  have c0 : W.cell? ⟨R, 0, none⟩ = some ov := by simp [World.cell?, hb]
  have HB := Lib.hid hb
  have HO := Lib.hid hown
  have ws : IntKind.i64.wrap (f + i) = f + i := IntWalk.i64_in _ (by omega)
  clear hb hown
  go_enter Try.func43, Try.ntmps43
  go_wp2_with fail
  go_region_law ((refine step_append_lies _ (by rfl) _ _ _ (by rfl) B 3 i0 _ 1 8 Try.underlying66 hi hz0 hz1 hz2 rfl (by omega) ov ns.length (icells ns) (by rfl) (((HO.out.alloc _).alloc _).drew) ⟨W.heap.size + 1, 0, none⟩ 1 1 [.int .i64 (f + i)] (by rfl) (by rfl) (World.news_of_block (cs := #[.int .i64 (f + i)]) (t := 3) (fr := (0, 0)) (by have := heap_alloc_new (W.alloc (.cells #[.int .i64 a, .int .i64 f, .int .i64 m] 55)) (.cells #[.int .i64 (f + i)] 3); rw [World.size_alloc] at this; exact this)) (by simp [Value.oneCell']) (by omega) (by unfold maxLen; omega) (by omega) (by simp; omega) (W.heap.size + 1 + 1) (by simp) ?_; intro gg cap w2 hown1 hgrow hat hlt2; have bg : Below B W w2 := ((((Below.refl _ W).alloc (by omega) _).alloc (by simp; omega) _).drew).grown hgrow (by simp; omega) (fun q e => (HO.out.lt q e).1); have h2 := (bg.block R (by omega)).trans HB.out; have c2 : w2.cell? ⟨R, 0, none⟩ = some ov := (by simp [World.cell?, h2]); have f2 : w2.frozen? ⟨R, 0, none⟩ = false := (by simp [World.frozen?, h2]); have HG := Lib.hid bg; have HO2 := Lib.hid hown1; have HB2 := Lib.hid h2; clear bg hown1 hgrow hat h2))
  all_goals
    refine bodyPost_end (v := .tuple #[]) (by simp [results, Try.results43, go_sem]) rfl ?_
    refine ⟨rfl, ⟨⟨hRB, by have := HG.out.size; rw [World.size_setCell]; omega⟩, .slice (some ⟨gg, 0, none⟩) (ns.length + 1) cap, ?_, ?_⟩, ?_, ?_⟩
    · rw [heap_setCell_at _ HB2.out]
      rfl
    · rw [icells_snoc, List.length_append]
      exact ownsRow_set HO2.out (by simpa using hRB) _
    · exact (HG.out.mono (Nat.le_of_lt hRB)).setCell (p := ⟨R, 0, none⟩) (Nat.le_refl _) _
    · intro k hk hkR
      exact (Below.heap_setCell _ _ _ _ hkR).trans (HG.out.block k hk)
end Go.Proofs.Ytghdgenlkbocmaa
