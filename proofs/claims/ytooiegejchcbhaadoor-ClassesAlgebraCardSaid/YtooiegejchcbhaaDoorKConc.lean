/- the values of `shown`; a byte's text, read back. -/
import Derived.Test.YtooiegejchcbhaaDoorKParse
import Derived.Test.YtooiegejchcbhaaDoorKPrint
namespace Go.Proofs.YtooiegejchcbhaaDoor
open Go.RowKit

theorem sh1 : printV (ofL [99, 97, 98, 48, 120]) = [91, 48, 97, 45, 99, 120, 93] := by decide +kernel
theorem sh2 : parseV [91, 120, 97, 45, 99, 98, 97, 93] = ((parseV [91, 120, 97, 45, 99, 98, 97, 93]).1, 0, 0) := by decide +kernel
theorem sh2p : printV (parseV [91, 120, 97, 45, 99, 98, 97, 93]).1 = [91, 97, 45, 99, 120, 93] := by decide +kernel
theorem sh3 : parseV [91, 99, 45, 97, 97, 93] = (0#256, 3, 6) := by decide +kernel
theorem sh4 : ((prefixV [91, 94, 97, 45, 122, 93, 43]).2) = (6, 0) := by decide +kernel
theorem sh5 : rangeE 5 4 = 7 := by decide +kernel

theorem read_text : ∀ n : Fin 256, readV (textB n.1) 0 = (n.1, (textB n.1).length, true) := by decide +kernel
theorem byt_pre (pre u : List UInt8) (i : Nat) : byt (pre ++ u) (pre.length + i) = byt u i := by
  unfold byt
  rw [List.getD_eq_getElem?_getD, List.getD_eq_getElem?_getD, List.getElem?_append_right (by omega)]
  congr 3
  omega
theorem byt_post (u rest : List UInt8) (i : Nat) (h : i < u.length) : byt (u ++ rest) i = byt u i := by
  unfold byt
  rw [List.getD_eq_getElem?_getD, List.getD_eq_getElem?_getD, List.getElem?_append_left h]
theorem read_shift (pre u : List UInt8) (i : Nat) : readV (pre ++ u) (pre.length + i) = ((readV u i).1, pre.length + (readV u i).2.1, (readV u i).2.2) := by
  have h0 := byt_pre pre u i
  have h1 := byt_pre pre u (i + 1)
  have h2 := byt_pre pre u (i + 2)
  have h3 := byt_pre pre u (i + 3)
  have hl : (pre ++ u).length = pre.length + u.length := List.length_append
  simp only [← Nat.add_assoc] at h1 h2 h3
  unfold readV
  rw [h0, h1, h2, h3, hl]
  simp only [show (pre.length + u.length ≤ pre.length + i) ↔ u.length ≤ i by omega, show (pre.length + u.length ≤ pre.length + i + 1) ↔ u.length ≤ i + 1 by omega, show (pre.length + u.length ≤ pre.length + i + 2) ↔ u.length ≤ i + 2 by omega, show (pre.length + u.length ≤ pre.length + i + 3) ↔ u.length ≤ i + 3 by omega]
  repeat' split
  all_goals first | rfl | (simp only [Nat.add_assoc])
theorem read_post (u rest : List UInt8) (i : Nat) (h : (readV u i).2.2 = true) : readV (u ++ rest) i = readV u i := by
  have hl : (u ++ rest).length = u.length + rest.length := List.length_append
  have p0 := byt_post u rest i
  have p1 := byt_post u rest (i + 1)
  have p2 := byt_post u rest (i + 2)
  have p3 := byt_post u rest (i + 3)
  unfold readV at h ⊢
  split at h
  · simp at h
  · rename_i c1
    rw [p0 (by omega), if_neg (show ¬ (u ++ rest).length ≤ i by omega), if_neg c1]
    split at h
    · rename_i c2
      rw [if_pos c2, if_pos c2]
    · rename_i c2
      rw [if_neg c2, if_neg c2]
      split at h
      · simp at h
      · rename_i c3
        rw [p1 (by omega), if_neg (show ¬ (u ++ rest).length ≤ i + 1 by omega), if_neg c3]
        split at h
        · rename_i c4
          rw [if_pos c4, if_pos c4]
        · rename_i c4
          rw [if_neg c4, if_neg c4]
          split at h
          · simp at h
          · rename_i c5
            rw [if_neg c5, if_neg c5]
            split at h
            · simp at h
            · rename_i c6
              rw [p2 (by omega), if_neg (show ¬ (u ++ rest).length ≤ i + 2 by omega), if_neg c6]
              split at h
              · simp at h
              · rename_i c7
                rw [if_neg c7, if_neg c7]
                split at h
                · simp at h
                · rename_i c8
                  rw [p3 (by omega), if_neg (show ¬ (u ++ rest).length ≤ i + 3 by omega), if_neg c8]
/-- a byte's text amid others, read back -/
theorem read_amid (pre rest : List UInt8) (n : Nat) (h : n < 256) : readV (pre ++ textB n ++ rest) pre.length = (n, pre.length + (textB n).length, true) := by
  have e := read_text ⟨n, h⟩
  simp only at e
  have e2 := read_post (textB n) rest 0 (by rw [e])
  have e3 := read_shift pre (textB n ++ rest) 0
  rw [Nat.add_zero, ← List.append_assoc, e2, e] at e3
  exact e3
end Go.Proofs.YtooiegejchcbhaaDoor
