/- fold.Alike, Key, Compare, Sets. -/
import Derived.Test.YtfgfjapjpiilfaaFoldX
namespace Go.Proofs.Ytfgfjapjpiilfaa
open Go.RowKit Go.Shelf

theorem BytesAt.alloc {w : World} {B : Nat} {l : List UInt8} (h : BytesAt w B l) (o : Obj) : BytesAt (w.alloc o) B l := by
  have hl := h.lt
  obtain ⟨cur, t, lo, hi, h, h2⟩ := h
  exact ⟨cur, t, lo, hi, (Below.heap_alloc w o B hl).trans h, h2⟩
theorem BytesAt.same {W w : World} {B : Nat} {l : List UInt8} (h : BytesAt W B l) (e : W.heap = w.heap) : BytesAt w B l := by
  unfold BytesAt at h ⊢; rw [← e]; exact h
theorem BytesAt.row {w : World} {B : Nat} {l : List UInt8} (h : BytesAt w B l) (hm : l.length ≤ maxLen) (cap : Nat) (_ : l.length ≤ cap ∨ True) : Row w 1 (.slice (some ⟨B, 0, none⟩) l.length cap) l.length (bcells l) :=
  ⟨by rw [length_bcells, Nat.mul_one], hm, _, cap, rfl, (by intro e; cases e), .inr ⟨B, 0, rfl, fun j hj => by
    rw [Nat.zero_add, h.cell (by omega)]
    unfold bcells; rw [List.getElem?_map, List.getElem?_eq_getElem (by omega)]; rfl⟩⟩

set_option maxRecDepth 100000 in
set_option maxHeartbeats 1000000 in
theorem alike_p (a b : List UInt8) (w : World) (ha : a.length ≤ maxLen) (hb : b.length ≤ maxLen) :
    Calls Try.prog 18 #[.string (str a), .string (str b)] w fun e w' => e = .returned (.bool (alikeL a b)) ∧ Below w.heap.size w w' := by
  have HA := Lib.hid ha
  have HB := Lib.hid hb
  have hsa := size_str a
  have hsb := size_str b
  clear ha hb
  have hcv := fun w s => run_bytes_of_string (P := Try.prog) w 9 39 5 s Try.underlying9 Try.underlying39 Try.underlying5
  have hn1 := fun c => BytesAt.new w (str a) c 5
  rw [toList_str] at hn1
  have HN1 := Lib.hid hn1
  have hn2 := fun w c => BytesAt.new w (str b) c 5
  rw [toList_str] at hn2
  have HN2 := Lib.hid hn2
  clear hn1 hn2
  go_enter Try.func18, Try.ntmps18
  go_wp2_with fail
  refine (pairs_p _ _ a b _ ?_ ?_).mono ?_
  · exact BytesAt.row (BytesAt.same ((HN1.out _).alloc _) rfl) HA.out _ (.inr trivial)
  · have k := HN2.out (w.alloc (.cells (bytesRow (str a) (grownCap w a.length 0 5)) 5 ((bytesRow (str a) (grownCap w a.length 0 5)).size, (bytesRow (str a) (grownCap w a.length 0 5)).size + 1)))
    rw [World.size_alloc] at k
    exact BytesAt.row (BytesAt.same (k _) rfl) HB.out _ (.inr trivial)
  · rintro e w1 ⟨rfl, hb1⟩
    have HB1 := Lib.hid hb1
    clear hb1
    go_wp2_with fail
    go_ret
    refine ⟨rfl, Below.trans ?_ (HB1.out.mono (by simp; omega))⟩
    first
      | exact (((Below.refl _ _).alloc (Nat.le_refl _) _).alloc (by simp) _).drew.drew
      | exact ((((Below.refl _ _).drew).alloc (Nat.le_refl _) _).drew).alloc (by simp) _

end Go.Proofs.Ytfgfjapjpiilfaa
