/- Texts that the claims share, part 7. -/
import Derived.Test.YtpjllppbpnkemaaMg6

/- The reversed pattern's lines, plainly. -/
namespace Go.Proofs.Ytpjllppbpnkemaa
open Go.RowKit Go.Sort

theorem okP_mkS {p : List El} (h0 : 0 < p.length) (h1 : p.length ≤ 512) (h2 : ∀ i (hi : i < p.length), p[i].gap = false → p[i].low = 0 ∧ p[i].high = 0)
    (h3 : ∀ i (hi : i < p.length), p[i].gap = true → p[i].cls = 0#256 ∧ 0 ≤ p[i].low ∧ p[i].low ≤ p[i].high ∧ p[i].high ≤ 16 ∧ i ≠ 0 ∧ i + 1 < p.length ∧ ∀ h' : i - 1 < p.length, p[i - 1].gap = false) : OkP p := by
  refine ⟨h0, h1, fun i hi => ?_⟩
  rw [elemE_at hi]
  cases hg : p[i].gap
  · obtain ⟨a, b⟩ := h2 i hi hg
    rw [if_pos rfl, if_neg (by simp [a, b])]
  · obtain ⟨a, b, c, d, e, f, g⟩ := h3 i hi hg
    rw [if_neg (by decide), if_neg (by simp [a]), if_neg (by omega)]
    have hp := g (by omega)
    rw [if_neg]
    simp only [not_or]
    refine ⟨e, by omega, ?_⟩
    rw [List.getElem?_eq_getElem (show i - 1 < p.length by omega)]
    simp [hp]
theorem okP_rev {p : List El} (h : OkP p) : OkP p.reverse := by
  have hl : p.reverse.length = p.length := List.length_reverse
  refine okP_mkS (by rw [hl]; exact h.pos) (by rw [hl]; exact h.le) (fun i hi hg => ?_) (fun i hi hg => ?_)
  · rw [List.getElem_reverse] at hg ⊢
    exact h.plain (by omega) hg
  · have hi' : i < p.length := by omega
    have hj : p.length - 1 - i < p.length := by omega
    rw [List.getElem_reverse] at hg
    obtain ⟨a, b, c, d, e, f, g⟩ := h.gap hj hg
    rw [List.getElem_reverse]
    refine ⟨a, b, c, d, by omega, by omega, fun h' => ?_⟩
    rw [List.getElem_reverse]
    have e2 : p.length - 1 - (i - 1) = p.length - 1 - i + 1 := by omega
    simp only [e2]
    cases hn : p[p.length - 1 - i + 1].gap with
    | false => rfl
    | true =>
      obtain ⟨_, _, _, _, _, _, g2⟩ := h.gap f hn
      have g3 := g2 (by omega)
      simp only [Nat.add_sub_cancel] at g3
      rw [hg] at g3
      cases g3
theorem gaps_rev (p : List El) : gapsV p.reverse = (gapsV p).reverse := by unfold gapsV; rw [List.filter_reverse]
/-- before, in the order of the numbers -/
def lexLt : List Int → List Int → Bool
  | x :: a, y :: b => decide (x < y) || (decide (x = y) && lexLt a b)
  | _, _ => false
theorem lexLt_irrefl : ∀ a, lexLt a a = false
  | [] => rfl
  | x :: a => by simp [lexLt, lexLt_irrefl a]
theorem lexLt_pre : ∀ (c a b : List Int), lexLt (c ++ a) (c ++ b) = lexLt a b
  | [], a, b => rfl
  | x :: c, a, b => by simp [lexLt, lexLt_pre c a b]
theorem range_asc (x : El) (n : Nat) : (rangeI x n).Pairwise (· < ·) := by
  unfold rangeI
  rw [List.pairwise_map]
  exact List.pairwise_lt_range.imp fun h => by omega
theorem lexN_pre : ∀ {g : List El} {c d : List Int}, d ∈ lexN g c → ∃ s, d = c ++ s := fun h => by
  obtain ⟨s, h1, _⟩ := lexN_mem h
  exact ⟨s, h1⟩
theorem lexN_asc : ∀ (g : List El) (c : List Int), (lexN g c).Pairwise fun a b => lexLt a b = true
  | [], c => by simp [lexN]
  | x :: g, c => by
    show ((rangeI x (widthN x)).flatMap fun n => lexN g (c ++ [n])).Pairwise _
    rw [List.pairwise_flatMap]
    refine ⟨fun n _ => lexN_asc g (c ++ [n]), (range_asc x _).imp fun {n m} hnm a ha b hb => ?_⟩
    obtain ⟨s, rfl⟩ := lexN_pre ha
    obtain ⟨t, rfl⟩ := lexN_pre hb
    rw [List.append_assoc, List.append_assoc, lexLt_pre]
    simp [lexLt, hnm]
theorem lexN_nodup (g : List El) : (lexN g []).Nodup := (lexN_asc g []).imp fun {a b} h e => by
  subst e
  rw [lexLt_irrefl] at h
  cases h
theorem lexN_iff (g : List El) (c : List Int) : c ∈ lexN g [] ↔ g.length = c.length ∧ rngOk g c = true :=
  ⟨lexN_rng, fun ⟨h1, h2⟩ => by simpa using lexN_of g [] c h1.symm h2⟩
theorem rng_rev {g : List El} {c : List Int} (h : g.length = c.length) (hr : rngOk g c = true) : rngOk g.reverse c.reverse = true := by
  refine rngOk_of fun i h1 h2 => ?_
  rw [List.getElem_reverse, List.getElem_reverse]
  have e : c.length - 1 - i = g.length - 1 - i := by rw [h]
  simp only [e]
  exact rngOk_at hr _ _ _
theorem lexN_rev (g : List El) : (lexN g.reverse []).Perm ((lexN g []).map List.reverse) := by
  rw [List.perm_ext_iff_of_nodup (lexN_nodup _) (List.pairwise_map.2 ((lexN_nodup g).imp fun {a b} h e => h (List.reverse_inj.1 e)))]
  intro c
  rw [lexN_iff, List.mem_map]
  constructor
  · rintro ⟨h1, h2⟩
    refine ⟨c.reverse, (lexN_iff _ _).2 ⟨by simpa using h1, ?_⟩, List.reverse_reverse _⟩
    have := rng_rev h1 h2
    rwa [List.reverse_reverse] at this
  · rintro ⟨d, hd, rfl⟩
    obtain ⟨h1, h2⟩ := lexN_rng hd
    exact ⟨by simpa using h1, rng_rev h1 h2⟩
theorem sum_rev (c : List Int) : c.reverse.sum = c.sum := sumI_perm (List.reverse_perm c)
theorem sumTo_rev (k : Int) (l : List (List Int)) : sumTo k (l.map List.reverse) = sumTo k l := by
  unfold sumTo
  rw [List.map_map]
  congr 1
  exact List.map_congr_left fun c _ => by simp
theorem own_rev (p : List El) : ownOf p.reverse = ownOf p := by unfold ownOf; rw [gaps_rev, List.length_reverse, List.length_reverse]
theorem posE_rev {p : List El} (h : posE p = 0) : posE p.reverse = 0 := by
  obtain ⟨h1, h2⟩ := posE_ok h
  obtain ⟨hok, h3⟩ := cntE_ok h1
  have hr := okP_rev hok
  have hc : cntE p.reverse = 0 := by
    unfold cntE
    rw [if_neg (by rw [hr.check]; simp), if_neg]
    rw [← lexN_count hr.gaps, gaps_rev, (lexN_rev _).length_eq, List.length_map, lexN_count hok.gaps]
    omega
  have hs : posSum p.reverse = posSum p := by
    unfold posSum
    rw [own_rev, gaps_rev, sumTo_perm (lexN_rev _), sumTo_rev]
  unfold posE
  rw [if_neg (by rw [hc]; simp), if_neg (by rw [hs]; omega)]
theorem lineL_more : ∀ (p : List El) (c d : List Int), (gapsV p).length = c.length → lineL p (c ++ d) = lineL p c
  | [], c, d, _ => rfl
  | x :: p, c, d, h => by
    cases hx : x.gap
    · have e : gapsV (x :: p) = gapsV p := by unfold gapsV; rw [List.filter_cons_of_neg (by simp [hx])]
      rw [e] at h
      simp only [lineL, hx, Bool.false_eq_true, if_false, lineL_more p c d h]
    · have e : gapsV (x :: p) = x :: gapsV p := by unfold gapsV; rw [List.filter_cons_of_pos hx]
      rw [e] at h
      cases c with
      | nil => simp at h
      | cons n c =>
        simp only [List.cons_append, lineL, hx, if_true, List.headD_cons, List.tail_cons, lineL_more p c d (by simpa using h)]
theorem lineL_rev : ∀ (p : List El) (c : List Int), (gapsV p).length = c.length → lineL p.reverse c.reverse = (lineL p c).reverse
  | [], c, _ => by simp [lineL]
  | x :: p, c, h => by
    cases hx : x.gap
    · have e : gapsV (x :: p) = gapsV p := by unfold gapsV; rw [List.filter_cons_of_neg (by simp [hx])]
      rw [e] at h
      rw [List.reverse_cons, lineL_append, lineL_rev p c h]
      simp only [lineL, hx, Bool.false_eq_true, if_false, List.reverse_cons]
    · have e : gapsV (x :: p) = x :: gapsV p := by unfold gapsV; rw [List.filter_cons_of_pos hx]
      rw [e] at h
      cases c with
      | nil => simp at h
      | cons n c =>
        have h' : (gapsV p).length = c.length := by simpa using h
        rw [List.reverse_cons, List.reverse_cons, lineL_append, lineL_more _ _ _ (by rw [gaps_rev, List.length_reverse, List.length_reverse]; exact h'), lineL_rev p c h']
        rw [gaps_rev, List.length_reverse, h', show c.length = c.reverse.length by simp, List.drop_left]
        simp only [lineL, hx, if_true, List.headD_cons, List.tail_cons, List.reverse_append, List.reverse_replicate, List.append_nil]
theorem turned_perm {p : List El} (h : posE p = 0) : (linesV p.reverse).Perm ((linesV p).map List.reverse) := by
  have h1 : (chosL p.reverse).Perm ((chosL p).map List.reverse) := by
    rw [chosL_ok h, chosL_ok (posE_rev h), gaps_rev]
    exact (sortL_perm _).trans ((lexN_rev _).trans ((sortL_perm _).symm.map _))
  unfold linesV
  refine (h1.map _).trans (List.Perm.of_eq ?_)
  rw [List.map_map, List.map_map]
  refine List.map_congr_left fun c hc => ?_
  exact lineL_rev p c (chosL_each h hc).2.1
/-- what is not used -/
def leftF {α : Type} : (Nat → Bool) → List α → List α
  | _, [] => []
  | f, t :: T => if f 0 then leftF (fun k => f (k + 1)) T else t :: leftF (fun k => f (k + 1)) T
theorem leftF_cons {α : Type} (f : Nat → Bool) (t : α) (T : List α) : leftF f (t :: T) = if f 0 then leftF (fun k => f (k + 1)) T else t :: leftF (fun k => f (k + 1)) T := rfl
theorem leftF_none {α : Type} : ∀ (T : List α) (f : Nat → Bool), (∀ k, f k = false) → leftF f T = T
  | [], _, _ => rfl
  | t :: T, f, h => by simp [leftF, h 0, leftF_none T (fun k => f (k + 1)) fun k => h (k + 1)]
theorem leftF_mem {α : Type} {x : α} : ∀ {T : List α} {f : Nat → Bool}, x ∈ leftF f T → ∃ k, ∃ h : k < T.length, f k = false ∧ T[k] = x
  | t :: T, f, h => by
    unfold leftF at h
    cases h0 : f 0 with
    | true =>
      rw [h0, if_pos rfl] at h
      obtain ⟨k, hk, h1, h2⟩ := leftF_mem h
      exact ⟨k + 1, by simpa using hk, h1, h2⟩
    | false =>
      rw [h0, if_neg (by decide)] at h
      rcases List.mem_cons.1 h with rfl | h
      · exact ⟨0, by simp, h0, rfl⟩
      · obtain ⟨k, hk, h1, h2⟩ := leftF_mem h
        exact ⟨k + 1, by simpa using hk, h1, h2⟩
theorem leftF_congr {α : Type} : ∀ (T : List α) {f f' : Nat → Bool}, (∀ k, k < T.length → f k = f' k) → leftF f T = leftF f' T
  | [], _, _, _ => rfl
  | t :: T, f, f', h => by
    unfold leftF
    rw [h 0 (by simp), leftF_congr T (f := fun k => f (k + 1)) (f' := fun k => f' (k + 1)) fun k hk => h (k + 1) (by simpa using hk)]
theorem leftF_set {α : Type} : ∀ {T : List α} {f : Nat → Bool} {k : Nat} (h : k < T.length), f k = false → (leftF f T).Perm (T[k] :: leftF (fun j => decide (j = k) || f j) T)
  | t :: T, f, 0, _, h0 => by
    have e : leftF (fun j => decide (j = 0) || f j) (t :: T) = leftF (fun k => f (k + 1)) T := by
      rw [leftF_cons]
      simp
    rw [e, leftF_cons, h0]
    exact List.Perm.refl _
  | t :: T, f, k + 1, h, h0 => by
    have ih := leftF_set (T := T) (f := fun k => f (k + 1)) (k := k) (by simpa using h) h0
    have e : leftF (fun j => decide (j = k + 1) || f j) (t :: T) = if f 0 then leftF (fun j => decide (j = k) || f (j + 1)) T else t :: leftF (fun j => decide (j = k) || f (j + 1)) T := by
      show (if (decide (0 = k + 1) || f 0) = true then _ else _) = _
      simp
    rw [e]
    have e2 : (t :: T)[k + 1] = T[k]'(by simpa using h) := rfl
    rw [e2, leftF_cons]
    cases f 0 with
    | true => simpa using ih
    | false =>
      simp only [Bool.false_eq_true, if_false]
      exact (ih.cons t).trans (List.Perm.swap _ _ _)
/-- the round of a line: it is found among those that are left, and those behind it are what is left then -/
theorem left_round {α : Type} {T R : List α} {f : Nat → Bool} {i : Nat} (hi : i < R.length) (h : (leftF f T).Perm (R.drop i)) : (∃ k, ∃ hk : k < T.length, f k = false ∧ T[k] = R[i]) ∧
    ∀ k (hk : k < T.length), f k = false → T[k] = R[i] → (leftF (fun j => decide (j = k) || f j) T).Perm (R.drop (i + 1)) := by
  rw [List.drop_eq_getElem_cons hi] at h
  refine ⟨leftF_mem (h.mem_iff.2 List.mem_cons_self), fun k hk h0 h1 => ?_⟩
  have h2 := (leftF_set hk h0).symm.trans h
  rw [h1] at h2
  exact h2.cons_inv
theorem lines_short {p : List El} (h : posE p = 0) : ∀ l ∈ linesV p, l.length ≤ 10000 := fun l hl => by
  obtain ⟨c, hc, rfl⟩ := List.mem_map.1 hl
  have h1 := (chosL_each h hc).1
  have hs := chosL_small h c hc
  have h2 := (hs.sum_in c.length (Nat.le_refl _)).2
  rw [List.take_length] at h2
  have h3 := (ownOf_in (cntE_ok (posE_ok h).1).1).2
  have h4 := hs.1
  omega
end Go.Proofs.Ytpjllppbpnkemaa
