/- A block that holds bytes: '[]byte(s)', a store, 'string(b)'. -/
import Derived.Test.YtfgfjapjpiilfaaMem
import Derived.Laws.IdiomStrings
import Derived.Tactics
namespace Go.Proofs.Ytfgfjapjpiilfaa
open Go.RowKit

def BytesAt (w : World) (B : Nat) (l : List UInt8) : Prop :=
  ∃ (cur : Array Value) (t : TypeId) (lo hi : Nat), w.heap[B]? = some (.cells cur t (lo, hi)) ∧ cur.toList.take l.length = bcells l ∧ l.length ≤ lo

theorem BytesAt.lt {w : World} {B : Nat} {l : List UInt8} (h : BytesAt w B l) : B < w.heap.size := by
  obtain ⟨_, _, _, _, h, _⟩ := h; exact (Array.getElem?_eq_some_iff.1 h).1
theorem BytesAt.below {w w' : World} {B N : Nat} {l : List UInt8} (h : BytesAt w B l) (hb : Below N w w') (hN : B < N) : BytesAt w' B l := by
  obtain ⟨cur, t, lo, hi, h, h2⟩ := h
  exact ⟨cur, t, lo, hi, (hb.block B hN).trans h, h2⟩
theorem BytesAt.cell {w : World} {B k : Nat} {l : List UInt8} (h : BytesAt w B l) (hk : k < l.length) : w.cell? ⟨B, k, none⟩ = some (.int .u8 (l[k].toNat : Int)) := by
  obtain ⟨cur, t, lo, hi, h, h2, _⟩ := h
  have e : (bcells l)[k]? = some (.int .u8 (l[k].toNat : Int)) := by
    unfold bcells; rw [List.getElem?_map, List.getElem?_eq_getElem hk]; rfl
  rw [← h2, List.getElem?_take_of_lt hk, Array.getElem?_toList] at e
  simp only [World.cell?, h, Option.isSome_none, Bool.false_eq_true, if_false]
  exact e
theorem BytesAt.free {w : World} {B k : Nat} {l : List UInt8} (h : BytesAt w B l) (hk : k < l.length) : w.frozen? ⟨B, k, none⟩ = false := by
  obtain ⟨cur, t, lo, hi, h, h2, h3⟩ := h
  simp only [World.frozen?, h]
  rw [Bool.and_eq_false_iff]; left; simp; omega
theorem BytesAt.set {w : World} {B k : Nat} {l : List UInt8} (h : BytesAt w B l) (hk : k < l.length) (x : UInt8) : BytesAt (w.setCell ⟨B, k, none⟩ (.int .u8 (x.toNat : Int))) B (l.set k x) := by
  obtain ⟨cur, t, lo, hi, h, h2, h3⟩ := h
  refine ⟨_, t, lo, hi, heap_setCell_at _ h, ?_, by simpa using h3⟩
  rw [List.length_set]
  have e : (cur.setIfInBounds k (.int .u8 (x.toNat : Int))).toList = cur.toList.set k (.int .u8 (x.toNat : Int)) := by simp
  first
    | (rw [e, List.take_set, h2]; unfold bcells; rw [List.map_set])
    | (simp only [Array.toList_set!, List.take_set, h2]; unfold bcells; rw [List.map_set])
theorem BytesAt.new (w : World) (s : ByteArray) (c : Nat) (e : TypeId) :
    BytesAt (w.drew.alloc (.cells (bytesRow s c) e ((bytesRow s c).size, (bytesRow s c).size + 1))) w.heap.size s.data.toList := by
  refine ⟨bytesRow s c, e, _, _, heap_alloc_new w.drew _, ?_, ?_⟩
  · unfold bytesRow bcells
    simp
  · unfold bytesRow
    simp
theorem BytesAt.str {P : Program} {w : World} {B : Nat} {l : List UInt8} (h : BytesAt w B l) (src dst e : TypeId) (hs : P.underlying src = some (.slice e)) (he : P.underlying e = some (.int .u8)) (hd : P.underlying dst = some .string) (cap n : Nat) (hn : n = l.length) :
    (convert src dst (.slice (some ⟨B, 0, none⟩) n cap)).run P w = .ok (.string (str l)) w := by
  subst hn
  exact run_convert_bytes_back w src dst e ⟨B, 0, none⟩ cap l hs he hd fun j hj => by
    rw [Addr.add_lit, Nat.zero_add]; exact h.cell hj

end Go.Proofs.Ytfgfjapjpiilfaa
