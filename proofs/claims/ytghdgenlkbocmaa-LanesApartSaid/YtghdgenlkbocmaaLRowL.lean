/- Layer 17: the lanes that Pack makes, and the positions of a row: plain laws. -/
import Derived.Test.YtghdgenlkbocmaaLPk
import Derived.Test.YtghdgenlkbocmaaLStartP
namespace Go.Proofs.Ytghdgenlkbocmaa
open Go.RowKit

def lanesL (i : Int) : List (List CSet) → Int → List Ln
  | [], _ => []
  | l :: t, n => (i, n, (l.length : Int)) :: lanesL i t (n + (l.length : Int))
def lanesG : List (List (List CSet)) → Int → Int → List Ln
  | [], _, _ => []
  | L :: t, i, n => lanesL i L n ++ lanesG t (i + 1) (n + (L.flatten.length : Int))
theorem length_lanesL (i : Int) : ∀ (L : List (List CSet)) (n : Int), (lanesL i L n).length = L.length
  | [], _ => rfl
  | l :: t, n => by simp [lanesL, length_lanesL i t]
theorem length_lanesG : ∀ (R : List (List (List CSet))) (i n : Int), (lanesG R i n).length = R.flatten.length
  | [], _, _ => rfl
  | L :: t, i, n => by simp [lanesG, length_lanesL, length_lanesG t]
theorem lanesL_append (i : Int) : ∀ (A B : List (List CSet)) (n : Int), lanesL i (A ++ B) n = lanesL i A n ++ lanesL i B (n + (A.flatten.length : Int))
  | [], B, n => by simp [lanesL]
  | l :: t, B, n => by
    simp only [List.cons_append, lanesL, lanesL_append i t B, List.flatten_cons, List.length_append]
    rw [show n + (l.length : Int) + (t.flatten.length : Int) = n + ((l.length + t.flatten.length : Nat) : Int) by push_cast; omega]
theorem lanesG_append : ∀ (A B : List (List (List CSet))) (i n : Int), lanesG (A ++ B) i n = lanesG A i n ++ lanesG B (i + (A.length : Int)) (n + (A.flatten.flatten.length : Int))
  | [], B, i, n => by simp [lanesG]
  | L :: t, B, i, n => by
    simp only [List.cons_append, lanesG, lanesG_append t B, List.flatten_cons, List.length_append, List.append_assoc, List.flatten_append, List.length_cons]
    rw [show i + 1 + (t.length : Int) = i + ((t.length + 1 : Nat) : Int) by push_cast; omega, show n + (L.flatten.length : Int) + (t.flatten.flatten.length : Int) = n + ((L.flatten.length + t.flatten.flatten.length : Nat) : Int) by push_cast; omega]
theorem packLine_is (i : Int) : ∀ (L : List (List CSet)) (n : Int) (acc : List Ln) (n' : Int) (acc' : List Ln), packLine i L n acc = some (n', acc') → n' = n + (L.flatten.length : Int) ∧ acc' = acc ++ lanesL i L n
  | [], n, acc, n', acc', h => by
    simp only [packLine, Option.some.injEq, Prod.mk.injEq] at h
    simp [lanesL, h.1, h.2]
  | l :: t, n, acc, n', acc', h => by
    unfold packLine at h
    split at h
    · cases h
    · obtain ⟨h1, h2⟩ := packLine_is i t _ _ _ _ h
      refine ⟨by rw [h1, List.flatten_cons, List.length_append]; push_cast; omega, ?_⟩
      rw [h2]
      simp [lanesL]
theorem packG_is : ∀ (R : List (List (List CSet))) (i n : Int) (acc : List Ln), (packG R i n acc).2.2.2 = 0 → packG R i n acc = (wordsV (n + (R.flatten.flatten.length : Int)), acc ++ lanesG R i n, 0, 0)
  | [], i, n, acc, _ => by simp [packG, lanesG]
  | L :: t, i, n, acc, h => by
    unfold packG at h ⊢
    split at h
    · exact absurd h (show ¬ (6 : Int) = 0 by decide)
    · rename_i a1
      rw [if_neg a1]
      split at h
      · exact absurd h (show ¬ (3 : Int) = 0 by decide)
      · rename_i a2
        rw [if_neg a2]
        cases hp : packLine i L n acc with
        | none => rw [hp] at h; exact absurd h (show ¬ (3 : Int) = 0 by decide)
        | some x =>
          obtain ⟨n', acc'⟩ := x
          rw [hp] at h
          obtain ⟨h1, h2⟩ := packLine_is i L n acc n' acc' hp
          have := packG_is t (i + 1) n' acc' h
          simp only
          rw [this, h1, h2]
          simp only [List.flatten_cons, List.flatten_append, List.length_append, lanesG, List.append_assoc]
          rw [show n + (L.flatten.length : Int) + (t.flatten.flatten.length : Int) = n + ((L.flatten.length + t.flatten.flatten.length : Nat) : Int) by push_cast; omega]
theorem packV_is {R : List (List (List CSet))} (h : (packV R).2.2.2 = 0) : packV R = (wordsV (R.flatten.flatten.length : Int), lanesG R 0 0, 0, 0) ∧ R.length ≤ 16 := by
  unfold packV at h ⊢
  split at h
  · exact absurd h (show ¬ (6 : Int) = 0 by decide)
  · split at h
    · exact absurd h (show ¬ (3 : Int) = 0 by decide)
    · rename_i a1 a2
      rw [if_neg a1, if_neg a2, packG_is R 0 0 [] h]
      exact ⟨by simp, by omega⟩

/-- the classes one behind the other -/
theorem flat_at {R : List (List (List CSet))} {i k m : Nat} (hi : i < R.length) (hk : k < R[i].length) (hm : m < R[i][k].length) :
    R.flatten.flatten[(R.take i).flatten.flatten.length + ((R[i].take k).flatten.length + m)]? = some R[i][k][m] := by
  have e1 : R = R.take i ++ (R[i] :: R.drop (i + 1)) := by rw [← List.drop_eq_getElem_cons hi, List.take_append_drop]
  have e2 : R[i] = R[i].take k ++ (R[i][k] :: R[i].drop (k + 1)) := by rw [← List.drop_eq_getElem_cons hk, List.take_append_drop]
  have e3 : R.flatten.flatten = (R.take i).flatten.flatten ++ ((R[i].take k).flatten ++ (R[i][k] ++ ((R[i].drop (k + 1)).flatten ++ (R.drop (i + 1)).flatten.flatten))) := by
    calc R.flatten.flatten = (R.take i ++ (R[i] :: R.drop (i + 1))).flatten.flatten := by rw [← e1]
      _ = (R.take i).flatten.flatten ++ (R[i].flatten ++ (R.drop (i + 1)).flatten.flatten) := by rw [List.flatten_append, List.flatten_cons, List.flatten_append, List.flatten_append]
      _ = _ := by
        congr 1
        rw [show R[i].flatten = (R[i].take k ++ (R[i][k] :: R[i].drop (k + 1))).flatten by rw [← e2], List.flatten_append, List.flatten_cons, List.append_assoc, List.append_assoc]
  rw [e3, List.getElem?_append_right (by omega), show (R.take i).flatten.flatten.length + ((R[i].take k).flatten.length + m) - (R.take i).flatten.flatten.length = (R[i].take k).flatten.length + m by omega,
    List.getElem?_append_right (by omega), show (R[i].take k).flatten.length + m - (R[i].take k).flatten.length = m by omega, List.getElem?_append_left hm, List.getElem?_eq_getElem hm]
/-- the lane of a line -/
theorem lane_at {R : List (List (List CSet))} {i k : Nat} (hi : i < R.length) (hk : k < R[i].length) :
    (lanesG R 0 0)[(R.take i).flatten.length + k]? = some ((i : Int), (((R.take i).flatten.flatten.length + (R[i].take k).flatten.length : Nat) : Int), (R[i][k].length : Int)) := by
  have e1 : R = R.take i ++ (R[i] :: R.drop (i + 1)) := by rw [← List.drop_eq_getElem_cons hi, List.take_append_drop]
  have e2 : R[i] = R[i].take k ++ (R[i][k] :: R[i].drop (k + 1)) := by rw [← List.drop_eq_getElem_cons hk, List.take_append_drop]
  have hlt : (R.take i).length = i := by rw [List.length_take]; omega
  have hlk : (R[i].take k).length = k := by rw [List.length_take]; omega
  have e3 : lanesG R 0 0 = lanesG (R.take i) 0 0 ++ (lanesL (0 + (i : Int)) R[i] (0 + ((R.take i).flatten.flatten.length : Int)) ++ lanesG (R.drop (i + 1)) (0 + (i : Int) + 1) (0 + ((R.take i).flatten.flatten.length : Int) + (R[i].flatten.length : Int))) := by
    calc lanesG R 0 0 = lanesG (R.take i ++ (R[i] :: R.drop (i + 1))) 0 0 := by rw [← e1]
      _ = _ := by rw [lanesG_append, hlt]; rfl
  have e4 : lanesL (0 + (i : Int)) R[i] (0 + ((R.take i).flatten.flatten.length : Int)) = lanesL (0 + (i : Int)) (R[i].take k) (0 + ((R.take i).flatten.flatten.length : Int)) ++ ((0 + (i : Int), 0 + ((R.take i).flatten.flatten.length : Int) + ((R[i].take k).flatten.length : Int), (R[i][k].length : Int)) :: lanesL (0 + (i : Int)) (R[i].drop (k + 1)) (0 + ((R.take i).flatten.flatten.length : Int) + ((R[i].take k).flatten.length : Int) + (R[i][k].length : Int))) := by
    calc lanesL (0 + (i : Int)) R[i] (0 + ((R.take i).flatten.flatten.length : Int)) = lanesL (0 + (i : Int)) (R[i].take k ++ (R[i][k] :: R[i].drop (k + 1))) (0 + ((R.take i).flatten.flatten.length : Int)) := by rw [← e2]
      _ = _ := by rw [lanesL_append]; rfl
  rw [e3, List.getElem?_append_right (by rw [length_lanesG]; omega), length_lanesG, show (R.take i).flatten.length + k - (R.take i).flatten.length = k by omega, e4, List.append_assoc,
    List.getElem?_append_right (by rw [length_lanesL, hlk]; exact Nat.le_refl _), length_lanesL, hlk, Nat.sub_self, List.cons_append, List.getElem?_cons_zero]
  simp

/-- the positions before one whose classes have a byte -/
def spotsTo (F : List CSet) (b n : Nat) : List Int := ((List.range n).filter fun i => hasB (F.getD i 0#256) b).map fun i : Nat => (i : Int)
theorem spotsTo_yes {F : List CSet} {b n : Nat} {s : CSet} (hs : F[n]? = some s) (h : hasB s b = true) : spotsTo F b (n + 1) = spotsTo F b n ++ [(n : Int)] := by
  have : hasB (F.getD n 0#256) b = true := by rw [List.getD_eq_getElem?_getD, hs]; exact h
  unfold spotsTo
  rw [List.range_succ, List.filter_append, List.map_append, List.filter_cons, if_pos this]
  rfl
theorem spotsTo_no {F : List CSet} {b n : Nat} {s : CSet} (hs : F[n]? = some s) (h : hasB s b = false) : spotsTo F b (n + 1) = spotsTo F b n := by
  have : hasB (F.getD n 0#256) b = false := by rw [List.getD_eq_getElem?_getD, hs]; exact h
  unfold spotsTo
  rw [List.range_succ, List.filter_append, List.map_append, List.filter_cons, if_neg (by rw [this]; decide)]
  exact List.append_nil _
theorem spotsTo_len (F : List CSet) (b n : Nat) : (spotsTo F b n).length ≤ n := by
  unfold spotsTo
  rw [List.length_map]
  exact Nat.le_trans (List.length_filter_le _ _) (by simp)
theorem spotsTo_in {F : List CSet} {b n k : Nat} (h : n ≤ 64 * k) : Within k (spotsTo F b n) := by
  intro i hi
  have hm : (spotsTo F b n)[i] ∈ spotsTo F b n := List.getElem_mem hi
  unfold spotsTo at hm
  obtain ⟨x, hx, e⟩ := List.mem_map.1 hm
  have hx2 := (List.mem_filter.1 hx).1
  rw [List.mem_range] at hx2
  rw [show (spotsTo F b n)[i] = (x : Int) from e.symm]
  omega
theorem pre_step {R : List (List (List CSet))} {i : Nat} (hi : i < R.length) : (R.take (i + 1)).flatten.flatten.length = (R.take i).flatten.flatten.length + R[i].flatten.length ∧ (R.take (i + 1)).flatten.length = (R.take i).flatten.length + R[i].length := by
  rw [List.take_succ_eq_append_getElem hi, List.flatten_append, List.flatten_append, List.length_append, List.length_append]
  refine ⟨?_, ?_⟩
  · rw [List.flatten_cons, List.flatten_nil, List.append_nil]
  · rw [List.flatten_cons, List.flatten_nil, List.append_nil]
theorem pre_step2 {L : List (List CSet)} {k : Nat} (hk : k < L.length) : (L.take (k + 1)).flatten.length = (L.take k).flatten.length + L[k].length := by
  rw [List.take_succ_eq_append_getElem hk, List.flatten_append, List.length_append, List.flatten_cons, List.flatten_nil, List.append_nil]
theorem pre_le {R : List (List (List CSet))} {i : Nat} : (R.take i).flatten.flatten.length ≤ R.flatten.flatten.length := by
  conv => rhs; rw [← List.take_append_drop i R]
  rw [List.flatten_append, List.flatten_append, List.length_append]
  omega

def rowV (W : Int) (l : List Ln) (R : List (List (List CSet))) (b : Nat) : Nat × CSet × Int :=
  if (checkV W l).2 ≠ 0 then (0, 0#256, (checkV W l).2) else if (packV R).2.2.2 ≠ 0 ∨ ¬ ((packV R).1 = W ∧ (packV R).2.1 = l) then (0, 0#256, 6) else (W.toNat, ofI (spotsTo R.flatten.flatten b R.flatten.flatten.length), 0)
end Go.Proofs.Ytghdgenlkbocmaa
