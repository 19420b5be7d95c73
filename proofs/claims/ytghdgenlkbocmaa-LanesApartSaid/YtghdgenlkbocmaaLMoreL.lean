/- Layer 17: one byte more in a class: plain laws. -/
import Derived.Test.YtghdgenlkbocmaaLRowL
namespace Go.Proofs.Ytghdgenlkbocmaa
open Go.RowKit

/-- rules, with another class at a place -/
def chg (R : List (List (List CSet))) (i k m : Nat) (s : CSet) : List (List (List CSet)) := R.set i ((R.getD i []).set k (((R.getD i []).getD k []).set m s))
theorem getD_at {α : Type} {l : List α} {i : Nat} (h : i < l.length) (d : α) : l.getD i d = l[i] := by rw [List.getD_eq_getElem?_getD, List.getElem?_eq_getElem h]; rfl
theorem chg_len (R : List (List (List CSet))) (i k m : Nat) (s : CSet) : (chg R i k m s).length = R.length := by unfold chg; rw [List.length_set]
theorem chg_row {R : List (List (List CSet))} {i k m : Nat} {s : CSet} {x : Nat} (hx : x < R.length) (hx' : x < (chg R i k m s).length) :
    (chg R i k m s)[x] = if x = i then R[x].set k ((R[x].getD k []).set m s) else R[x] := by
  simp only [chg, List.getElem_set]
  by_cases e : i = x
  · subst e; rw [if_pos rfl, if_pos rfl, getD_at hx]
  · rw [if_neg e, if_neg (fun h => e h.symm)]
theorem chg_line {L : List (List CSet)} {k m : Nat} {s : CSet} {y : Nat} (hy : y < L.length) (hy' : y < (L.set k ((L.getD k []).set m s)).length) :
    (L.set k ((L.getD k []).set m s))[y] = if y = k then L[y].set m s else L[y] := by
  rw [List.getElem_set]
  by_cases e : k = y
  · subst e; rw [if_pos rfl, if_pos rfl, getD_at hy]
  · rw [if_neg e, if_neg (fun h => e h.symm)]

def shape (R : List (List (List CSet))) : List (List Nat) := R.map fun L => L.map List.length
theorem packLine_shape (i : Int) : ∀ (L M : List (List CSet)) (n : Int) (acc : List Ln), L.map List.length = M.map List.length → packLine i L n acc = packLine i M n acc
  | [], [], _, _, _ => rfl
  | [], _ :: _, _, _, h => by simp at h
  | _ :: _, [], _, _, h => by simp at h
  | l :: t, l' :: t', n, acc, h => by
    simp only [List.map_cons, List.cons.injEq] at h
    unfold packLine
    rw [h.1]
    split
    · rfl
    · exact packLine_shape i t t' _ _ h.2
theorem hasNone_shape {L M : List (List CSet)} (h : L.map List.length = M.map List.length) : hasNone L = hasNone M := by
  have key : ∀ L : List (List CSet), hasNone L = (L.map List.length).any (· == 0) := fun L => by
    unfold hasNone
    rw [List.any_map]
    congr 1
    funext l
    cases l <;> rfl
  rw [key, key, h]
theorem packG_shape : ∀ (R S : List (List (List CSet))) (i n : Int) (acc : List Ln), shape R = shape S → packG R i n acc = packG S i n acc
  | [], [], _, _, _, _ => rfl
  | [], _ :: _, _, _, _, h => by simp [shape] at h
  | _ :: _, [], _, _, _, h => by simp [shape] at h
  | L :: t, M :: t', i, n, acc, h => by
    simp only [shape, List.map_cons, List.cons.injEq] at h
    have hl : L.length = M.length := by have := congrArg List.length h.1; simpa using this
    unfold packG
    rw [hl, hasNone_shape h.1, packLine_shape i L M n acc h.1]
    split
    · rfl
    · split
      · rfl
      · cases packLine i M n acc with
        | none => rfl
        | some x => exact packG_shape t t' _ _ _ h.2
theorem packV_shape {R S : List (List (List CSet))} (h : shape R = shape S) : packV R = packV S := by
  have hl : R.length = S.length := by have := congrArg List.length h; simpa [shape] using this
  unfold packV
  rw [hl, packG_shape R S 0 0 [] h]
theorem chg_shape (R : List (List (List CSet))) (i k m : Nat) (s : CSet) : shape (chg R i k m s) = shape R := by
  apply List.ext_getElem
  · simp [shape, chg_len]
  · intro x h1 h2
    have hx : x < R.length := by simpa [shape] using h2
    simp only [shape, List.getElem_map]
    rw [chg_row hx]
    split
    · apply List.ext_getElem
      · simp
      · intro y h3 h4
        have hy : y < R[x].length := by simpa using h4
        simp only [List.getElem_map]
        rw [chg_line hy]
        split <;> simp
    · rfl
theorem narrow_shape {R S : List (List (List CSet))} (h : shape R = shape S) (hn : Narrow R) : Narrow S := by
  have hl : R.length = S.length := by have := congrArg List.length h; simpa [shape] using this
  refine ⟨by have := hn.1; omega, fun i hi => ?_⟩
  have hi' : i < R.length := by omega
  have e : (shape R)[i]'(by simpa [shape] using hi') = (shape S)[i]'(by simpa [shape] using hi) := by simp only [h]
  simp only [shape, List.getElem_map] at e
  have hl2 : R[i].length = S[i].length := by have := congrArg List.length e; simpa using this
  obtain ⟨h1, h2⟩ := hn.2 i hi'
  refine ⟨by omega, fun k hk => ?_⟩
  have e2 : (R[i].map List.length)[k]'(by simpa [hl2] using hk) = (S[i].map List.length)[k]'(by simpa using hk) := by simp only [e]
  simp only [List.getElem_map] at e2
  have := h2 k (by omega)
  omega

theorem set_mid {α : Type} (A B l C : List α) (m : Nat) (s : α) (h : m < l.length) : A ++ (B ++ (l.set m s ++ C)) = (A ++ (B ++ (l ++ C))).set (A.length + (B.length + m)) s := by
  rw [List.set_append_right _ _ (by omega), show A.length + (B.length + m) - A.length = B.length + m by omega, List.set_append_right _ _ (by omega), show B.length + m - B.length = m by omega, List.set_append_left _ _ h]
theorem flat_parts {R : List (List (List CSet))} {i k : Nat} (hi : i < R.length) (hk : k < R[i].length) :
    R.flatten.flatten = (R.take i).flatten.flatten ++ ((R[i].take k).flatten ++ (R[i][k] ++ ((R[i].drop (k + 1)).flatten ++ (R.drop (i + 1)).flatten.flatten))) := by
  have e1 : R = R.take i ++ (R[i] :: R.drop (i + 1)) := by rw [← List.drop_eq_getElem_cons hi, List.take_append_drop]
  have e2 : R[i] = R[i].take k ++ (R[i][k] :: R[i].drop (k + 1)) := by rw [← List.drop_eq_getElem_cons hk, List.take_append_drop]
  calc R.flatten.flatten = (R.take i ++ (R[i] :: R.drop (i + 1))).flatten.flatten := by rw [← e1]
    _ = (R.take i).flatten.flatten ++ (R[i].flatten ++ (R.drop (i + 1)).flatten.flatten) := by rw [List.flatten_append, List.flatten_cons, List.flatten_append, List.flatten_append]
    _ = _ := by
      congr 1
      rw [show R[i].flatten = (R[i].take k ++ (R[i][k] :: R[i].drop (k + 1))).flatten by rw [← e2], List.flatten_append, List.flatten_cons, List.append_assoc, List.append_assoc]
theorem chg_flat {R : List (List (List CSet))} {i k m : Nat} (hi : i < R.length) (hk : k < R[i].length) (hm : m < R[i][k].length) (s : CSet) :
    (chg R i k m s).flatten.flatten = R.flatten.flatten.set ((R.take i).flatten.flatten.length + ((R[i].take k).flatten.length + m)) s := by
  have hi' : i < (chg R i k m s).length := by rw [chg_len]; exact hi
  have hrow := chg_row (k := k) (m := m) (s := s) hi hi'
  rw [if_pos rfl, getD_at hk] at hrow
  have hk' : k < (chg R i k m s)[i].length := by rw [hrow, List.length_set]; exact hk
  rw [flat_parts hi' hk', flat_parts hi hk, ← set_mid _ _ _ _ _ _ hm]
  have e1 : (chg R i k m s).take i = R.take i := by unfold chg; rw [List.take_set_of_le (Nat.le_refl _)]
  have e2 : (chg R i k m s).drop (i + 1) = R.drop (i + 1) := by unfold chg; rw [List.drop_set_of_lt (by omega)]
  rw [e1, e2]
  congr 2
  · rw [hrow, List.take_set_of_le (Nat.le_refl _)]
  · congr 1
    · simp only [hrow, List.getElem_set_self]
    · rw [hrow, List.drop_set_of_lt (by omega)]

theorem hasB_ofI {l : List Int} (h : ∀ x ∈ l, x.toNat < 256) (c : Nat) : hasB (ofI l) c = l.any fun x => x.toNat == c := by
  unfold ofI
  have key : ∀ (l : List Int) (s : CSet), (∀ x ∈ l, x.toNat < 256) → hasB (l.foldl (fun s i => s ||| bit i.toNat) s) c = (hasB s c || l.any fun x => x.toNat == c) := by
    intro l
    induction l with
    | nil => intro s _; simp
    | cons x t ih =>
      intro s h
      rw [List.foldl_cons, ih _ (fun y hy => h y (List.mem_cons_of_mem _ hy)), hasB_or, hasB_bit _ _ (h x (List.mem_cons_self ..)), List.any_cons, Bool.or_assoc]
      rfl
  rw [key l _ h]
  simp [hasB]
theorem hasB_spots (F : List CSet) (b n c : Nat) (hn : n ≤ 256) : hasB (ofI (spotsTo F b n)) c = (decide (c < n) && hasB (F.getD c 0#256) b) := by
  rw [hasB_ofI]
  · rw [Bool.eq_iff_iff]
    simp only [List.any_eq_true, Bool.and_eq_true, decide_eq_true_eq, spotsTo, List.mem_map, List.mem_filter, List.mem_range]
    constructor
    · rintro ⟨x, ⟨y, ⟨h1, h2⟩, rfl⟩, h3⟩
      have : y = c := by simpa using h3
      subst this
      exact ⟨h1, h2⟩
    · rintro ⟨h1, h2⟩
      exact ⟨(c : Int), ⟨c, ⟨h1, h2⟩, rfl⟩, by simp⟩
  · intro x hx
    simp only [spotsTo, List.mem_map, List.mem_filter, List.mem_range] at hx
    obtain ⟨y, ⟨h1, _⟩, rfl⟩ := hx
    simp
    omega
theorem spots_more {F : List CSet} {b pos : Nat} (hp : pos < F.length) (hF : F.length ≤ 256) (hb : b < 256) :
    ofI (spotsTo (F.set pos (F[pos] ||| bit b)) b (F.set pos (F[pos] ||| bit b)).length) = ofI (spotsTo F b F.length) ||| bit pos := by
  apply set_ext
  intro c hc
  rw [List.length_set, hasB_spots _ _ _ _ hF, hasB_or, hasB_spots _ _ _ _ hF, hasB_bit pos c (by omega)]
  by_cases e : pos = c
  · subst e
    rw [getD_at (by rw [List.length_set]; exact hp), List.getElem_set_self, hasB_or, hasB_bit b b hb]
    simp [hp]
  · have : (F.set pos (F[pos] ||| bit b)).getD c 0#256 = F.getD c 0#256 := by
      rw [List.getD_eq_getElem?_getD, List.getD_eq_getElem?_getD, List.getElem?_set_ne e]
    rw [this]
    simp [e]
end Go.Proofs.Ytghdgenlkbocmaa
