/- Layer 17: lanes lie apart: plain laws. -/
import Derived.Test.YtghdgenlkbocmaaLMoreL
import Derived.Test.YtghdgenlkbocmaaLPlan
import Derived.Test.YtghdgenlkbocmaaLShift
import Derived.Test.YtghdgenlkbocmaaLEndsP
namespace Go.Proofs.Ytghdgenlkbocmaa
open Go.RowKit

theorem cntB_succ (s : CSet) (n : Nat) : cntB s (n + 1) = cntB s n + (if hasB s n = true then 1 else 0) := by
  unfold cntB
  rw [List.range_succ, List.countP_append, List.countP_singleton]
theorem cntB_bit (s : CSet) (X : Nat) (hX : X < 256) (h : hasB s X = false) : ∀ n : Nat, cntB (s ||| bit X) n = cntB s n + (if X < n then 1 else 0)
  | 0 => by simp [cntB]
  | n + 1 => by
    rw [cntB_succ, cntB_succ, cntB_bit s X hX h n, hasB_or, hasB_bit X n hX]
    by_cases e : X = n
    · subst e
      rw [h]
      simp
    · rw [decide_eq_false e, Bool.or_false]
      by_cases e2 : X < n
      · simp only [e2, show X < n + 1 by omega, if_true]
        omega
      · simp only [e2, show ¬ X < n + 1 by omega, if_false]
        omega
theorem cntB_zero : ∀ n : Nat, cntB 0#256 n = 0
  | 0 => rfl
  | n + 1 => by
    rw [cntB_succ, cntB_zero n]
    have : hasB 0#256 n = false := by simp [hasB]
    rw [this]
    rfl
theorem cntB_foldl (N : Nat) (hN : N ≤ 256) : ∀ (ns : List Int) (s : CSet), (∀ x ∈ ns, 0 ≤ x ∧ x < (N : Int) ∧ hasB s x.toNat = false) → ns.Nodup → cntB (ns.foldl (fun s i => s ||| bit i.toNat) s) N = cntB s N + ns.length
  | [], s, _, _ => rfl
  | x :: t, s, h, hd => by
    obtain ⟨x0, x1, x2⟩ := h x (List.mem_cons_self ..)
    obtain ⟨hd1, hd2⟩ := List.nodup_cons.1 hd
    rw [List.foldl_cons, cntB_foldl N hN t _ (fun y hy => ?_) hd2, cntB_bit s x.toNat (by omega) x2, if_pos (by omega), List.length_cons]
    · omega
    · obtain ⟨y0, y1, y2⟩ := h y (List.mem_cons_of_mem _ hy)
      refine ⟨y0, y1, ?_⟩
      rw [hasB_or, y2, hasB_bit _ _ (by omega), Bool.false_or]
      refine decide_eq_false (fun e => hd1 ?_)
      have : x = y := by omega
      rw [this]
      exact hy
theorem cntB_ofI {ns : List Int} {N : Nat} (hN : N ≤ 256) (h : ∀ x ∈ ns, 0 ≤ x ∧ x < (N : Int)) (hd : ns.Nodup) : cntB (ofI ns) N = ns.length := by
  unfold ofI
  rw [cntB_foldl N hN ns 0#256 (fun x hx => ⟨(h x hx).1, (h x hx).2, by simp [hasB]⟩) hd, cntB_zero, Nat.zero_add]

/-- the last position of a lane -/
def endL (x : Ln) : Int := x.2.1 + x.2.2 - 1
theorem Good.end_at {W : Int} {l : List Ln} (h : Good W l) {i : Nat} (hi : i < l.length) : FindAt l (endL l[i]) i := by
  have := h.chain.all i hi
  exact ⟨hi, by unfold endL; omega, by unfold endL; omega⟩
theorem Good.end_inj {W : Int} {l : List Ln} (h : Good W l) {i j : Nat} (hi : i < l.length) (hj : j < l.length) (e : endL l[i] = endL l[j]) : i = j := FindAt.uniq h (h.end_at hi) (by rw [e]; exact h.end_at hj)
theorem Good.first_at {W : Int} {l : List Ln} (h : Good W l) {i : Nat} (hi : i < l.length) : FindAt l l[i].2.1 i := by
  have := h.chain.all i hi
  exact ⟨hi, by omega, by omega⟩
theorem nodup_map {α : Type} {l : List α} {f : α → Int} (h : ∀ (i j : Nat) (hi : i < l.length) (hj : j < l.length), f l[i] = f l[j] → i = j) : (l.map f).Nodup := by
  unfold List.Nodup
  rw [List.pairwise_iff_getElem]
  intro i j hi hj hij e
  rw [List.getElem_map, List.getElem_map] at e
  have := h i j (by simpa using hi) (by simpa using hj) e
  omega
theorem Good.ends_nodup {W : Int} {l : List Ln} (h : Good W l) : (l.map endL).Nodup := nodup_map (fun _ _ hi hj e => h.end_inj hi hj e)
theorem Good.starts_nodup {W : Int} {l : List Ln} (h : Good W l) : (l.map (·.2.1)).Nodup := nodup_map (fun i j hi hj e => FindAt.uniq h (h.first_at hi) (by have e' : l[i].2.1 = l[j].2.1 := e; rw [e']; exact h.first_at hj))
theorem endsL_eq (l : List Ln) (r : Int) : endsL l r = (l.filter fun x => x.1 == r).map endL := rfl
theorem Good.endsL_nodup {W : Int} {l : List Ln} (h : Good W l) (r : Int) : (endsL l r).Nodup := by
  rw [endsL_eq]
  exact List.Nodup.sublist (List.Sublist.map _ List.filter_sublist) h.ends_nodup
theorem Good.end_bd {W : Int} {l : List Ln} (h : Good W l) {x : Ln} (hx : x ∈ l) : 0 ≤ endL x ∧ endL x < (lastL l).2.1 + (lastL l).2.2 := by
  obtain ⟨i, hi, rfl⟩ := List.mem_iff_getElem.1 hx
  have h1 := h.chain.all i hi
  have h2 := h.ends hi
  unfold endL
  omega
theorem Good.first_bd {W : Int} {l : List Ln} (h : Good W l) {x : Ln} (hx : x ∈ l) : 0 ≤ x.2.1 ∧ x.2.1 < (lastL l).2.1 + (lastL l).2.2 := by
  obtain ⟨i, hi, rfl⟩ := List.mem_iff_getElem.1 hx
  have h1 := h.chain.all i hi
  have h2 := h.ends hi
  omega
/-- the ends of the lanes of the first rules -/
def allS (l : List Ln) (i : Int) : CSet := ofI ((l.filter fun x => decide (x.1 < i)).map endL)
theorem any_ends {l : List Ln} {p : Ln → Bool} {c : Nat} : ((l.filter p).map endL).any (fun x => x.toNat == c) = l.any fun x => p x && (endL x).toNat == c := by
  rw [List.any_map, List.any_filter]
  rfl
theorem hasB_allS {W : Int} {l : List Ln} (h : Good W l) (i : Int) (c : Nat) : hasB (allS l i) c = l.any fun x => decide (x.1 < i) && (endL x).toNat == c := by
  unfold allS
  rw [hasB_ofI, any_ends]
  intro x hx
  obtain ⟨y, hy, rfl⟩ := List.mem_map.1 hx
  have := h.end_bd (List.mem_filter.1 hy).1
  have := h.last
  omega
theorem hasB_endsL {W : Int} {l : List Ln} (h : Good W l) (r : Int) (c : Nat) : hasB (ofI (endsL l r)) c = l.any fun x => x.1 == r && (endL x).toNat == c := by
  rw [endsL_eq, hasB_ofI, any_ends]
  intro x hx
  obtain ⟨y, hy, rfl⟩ := List.mem_map.1 hx
  have := h.end_bd (List.mem_filter.1 hy).1
  have := h.last
  omega
theorem allS_zero {W : Int} {l : List Ln} (h : Good W l) : allS l 0 = 0#256 := by
  apply set_ext
  intro c hc
  rw [hasB_allS h]
  rw [show hasB 0#256 c = false by simp [hasB], List.any_eq_false]
  intro x hx
  obtain ⟨i, hi, rfl⟩ := List.mem_iff_getElem.1 hx
  have := (h.chain.all i hi).2.1
  simp
  omega
theorem allS_step {W : Int} {l : List Ln} (h : Good W l) (i : Int) : allS l (i + 1) = allS l i ||| ofI (endsL l i) := by
  apply set_ext
  intro c hc
  rw [hasB_or, hasB_allS h, hasB_allS h, hasB_endsL h, Bool.eq_iff_iff]
  simp only [List.any_eq_true, Bool.or_eq_true, Bool.and_eq_true, decide_eq_true_eq, beq_iff_eq]
  constructor
  · rintro ⟨x, hx, h1, h2⟩
    by_cases e : x.1 = i
    · exact .inr ⟨x, hx, e, h2⟩
    · exact .inl ⟨x, hx, by omega, h2⟩
  · rintro (⟨x, hx, h1, h2⟩ | ⟨x, hx, h1, h2⟩)
    · exact ⟨x, hx, by omega, h2⟩
    · exact ⟨x, hx, by omega, h2⟩
theorem allS_apart {W : Int} {l : List Ln} (h : Good W l) (i : Int) : allS l i &&& ofI (endsL l i) = 0#256 := by
  apply set_ext
  intro c hc
  rw [show hasB 0#256 c = false by simp [hasB]]
  have hand : hasB (allS l i &&& ofI (endsL l i)) c = (hasB (allS l i) c && hasB (ofI (endsL l i)) c) := by simp [hasB]
  rw [hand, Bool.eq_false_iff]
  intro hh
  rw [hasB_allS h, hasB_endsL h] at hh
  simp only [List.any_eq_true, Bool.and_eq_true, decide_eq_true_eq, beq_iff_eq] at hh
  obtain ⟨⟨x, hx, h1, h2⟩, ⟨y, hy, h3, h4⟩⟩ := hh
  have b1 := h.end_bd hx
  have b2 := h.end_bd hy
  obtain ⟨a, ha, rfl⟩ := List.mem_iff_getElem.1 hx
  obtain ⟨b, hb, rfl⟩ := List.mem_iff_getElem.1 hy
  have := h.end_inj ha hb (by omega)
  subst this
  omega

theorem filter_lanesL (i r : Int) : ∀ (L : List (List CSet)) (n : Int), ((lanesL i L n).filter fun x => x.1 == r).length = if i = r then L.length else 0
  | [], n => by simp [lanesL]
  | l :: t, n => by
    have ih := filter_lanesL i r t (n + (l.length : Int))
    rw [lanesL, List.filter_cons]
    by_cases e : i = r
    · rw [if_pos e] at ih ⊢
      simp only [e, beq_self_eq_true, if_true, List.length_cons]
      rw [e] at ih
      rw [ih]
    · rw [if_neg e] at ih ⊢
      have : (i == r) = false := beq_eq_false_iff_ne.2 e
      simp only [this]
      exact ih
theorem filter_lanesG : ∀ (R : List (List (List CSet))) (i n : Int) (j : Nat) (r : Int), r = i + (j : Int) → ((lanesG R i n).filter fun x => x.1 == r).length = (R.getD j []).length
  | [], i, n, j, r, _ => by simp [lanesG]
  | L :: t, i, n, j, r, hr => by
    rw [lanesG, List.filter_append, List.length_append, filter_lanesL]
    match j with
    | 0 =>
      rw [if_pos (by omega)]
      have : ((lanesG t (i + 1) (n + (L.flatten.length : Int))).filter fun x => x.1 == r) = [] := by
        rw [List.filter_eq_nil_iff]
        intro x hx
        have := lanesG_ge t (i + 1) (n + (L.flatten.length : Int)) x hx
        simp
        omega
      rw [this]
      simp
    | j + 1 =>
      rw [if_neg (by omega), filter_lanesG t (i + 1) _ j r (by omega)]
      simp
where
  lanesL_rule (i : Int) : ∀ (L : List (List CSet)) (n : Int) (x : Ln), x ∈ lanesL i L n → x.1 = i
    | [], n, x, h => by simp [lanesL] at h
    | l :: t, n, x, h => by
      rw [lanesL, List.mem_cons] at h
      rcases h with rfl | h
      · rfl
      · exact lanesL_rule i t _ x h
  lanesG_ge : ∀ (R : List (List (List CSet))) (i n : Int) (x : Ln), x ∈ lanesG R i n → i ≤ x.1
    | [], i, n, x, h => by simp [lanesG] at h
    | L :: t, i, n, x, h => by
      rw [lanesG, List.mem_append] at h
      rcases h with h | h
      · rw [lanesL_rule i L n x h]; exact Int.le_refl _
      · have := lanesG_ge t (i + 1) _ x h; omega
theorem endsL_count (R : List (List (List CSet))) {j : Nat} (hj : j < R.length) : (endsL (lanesG R 0 0) (j : Int)).length = R[j].length := by
  rw [endsL_eq, List.length_map, filter_lanesG R 0 0 j (j : Int) (by omega), getD_at hj]
theorem last_lane {R : List (List (List CSet))} (hF : Full R) (hR : 0 < R.length) : (lastL (lanesG R 0 0)).1 + 1 = (R.length : Int) ∧ (lastL (lanesG R 0 0)).2.1 + (lastL (lanesG R 0 0)).2.2 = (R.flatten.flatten.length : Int) := by
  obtain ⟨q, hq⟩ : ∃ q, R.length = q + 1 := ⟨R.length - 1, by omega⟩
  have hqR : q < R.length := by omega
  have hne : 0 < R[q].length := List.length_pos_iff.2 (hF _ (List.getElem_mem hqR)).1
  obtain ⟨k, hk⟩ : ∃ k, R[q].length = k + 1 := ⟨R[q].length - 1, by omega⟩
  have hl := lane_at (R := R) (i := q) (k := k) hqR (by omega)
  have hs := pre_step hqR
  rw [show q + 1 = R.length by omega, List.take_length] at hs
  have hk2 := pre_step2 (L := R[q]) (k := k) (by omega)
  rw [show k + 1 = R[q].length by omega, List.take_length] at hk2
  have hlen : (lanesG R 0 0).length = (R.take q).flatten.length + k + 1 := by rw [length_lanesG]; omega
  have hlast := lastL_at hlen
  have hget := (List.getElem?_eq_some_iff.1 hl).2
  rw [hlast, hget]
  simp only
  omega

theorem hasB_up (s : CSet) (c : Nat) (hc : c < 256) : hasB (upS s) c = (decide (c = 0) || hasB s (c - 1)) := by
  unfold upS
  rw [hasB_or, hasB_bit 0 c (by omega)]
  unfold hasB
  rw [BitVec.getLsbD_shiftLeft]
  by_cases e : c = 0
  · subst e; simp
  · have h1 : ¬ 0 = c := by omega
    have h2 : ¬ c < 1 := by omega
    simp [e, h1, hc]
theorem hasB_set (s : CSet) (X : Nat) (b : Bool) (hX : X < 256) (c : Nat) : hasB (setBit s X b) c = if c = X then b else hasB s c := by
  unfold setBit
  split
  · rename_i h
    split
    · rename_i e; rw [e, h]
    · rfl
  · rename_i h
    have hx : hasB (s ^^^ bit X) c = (hasB s c ^^ hasB (bit X) c) := by simp [hasB]
    rw [hx, hasB_bit X c hX]
    split
    · rename_i e
      subst e
      cases hh : hasB s c <;> cases b <;> simp_all
    · rename_i e
      simp [show ¬ X = c from fun h => e h.symm]
/-- the ends, moved by one, are the starts, but for the end -/
theorem moved_at {W : Int} {l : List Ln} (h : Good W l) {many : Int} (hm : (lastL l).1 < many) {N : Nat} (hN : (N : Int) = (lastL l).2.1 + (lastL l).2.2) (c : Nat) (hc : c < 256) :
    hasB (upS (allS l many)) c = (hasB (ofI (l.map (·.2.1))) c || decide (c = N)) ∧ (N ≤ c → hasB (ofI (l.map (·.2.1))) c = false) := by
  have hlast := h.last
  have hp := h.pos
  obtain ⟨q, hq⟩ : ∃ q, l.length = q + 1 := ⟨l.length - 1, by omega⟩
  have hqe := lastL_at hq
  have hall : ∀ x ∈ l, x.1 < many := by
    intro x hx
    obtain ⟨i, hi, rfl⟩ := List.mem_iff_getElem.1 hx
    have mono : ∀ (d : Nat) (hd : i + d < l.length), l[i].1 ≤ l[i + d].1 := by
      intro d
      induction d with
      | zero => intro _; exact Int.le_refl _
      | succ d ih =>
        intro hd
        have h1 := ih (by omega)
        have h2 := (h.chain.next (i + d) (by omega)).2
        have e : l[i + (d + 1)] = l[i + d + 1] := rfl
        rw [e]
        omega
    have h1 := mono (q - i) (by omega)
    have e : i + (q - i) = q := by omega
    simp only [e] at h1
    rw [hqe] at hm
    omega
  have hS : ∀ c, hasB (ofI (l.map (·.2.1))) c = l.any fun x => x.2.1.toNat == c := by
    intro c
    rw [hasB_ofI, List.any_map]
    · rfl
    · intro x hx
      obtain ⟨y, hy, rfl⟩ := List.mem_map.1 hx
      have := h.first_bd hy
      omega
  refine ⟨?_, ?_⟩
  · rw [hasB_up _ _ hc, hasB_allS h, hS, Bool.eq_iff_iff]
    simp only [List.any_eq_true, Bool.or_eq_true, Bool.and_eq_true, decide_eq_true_eq, beq_iff_eq]
    constructor
    · rintro (rfl | ⟨x, hx, h1, h2⟩)
      · left
        refine ⟨l[0], List.getElem_mem hp, ?_⟩
        have := (h.chain.first hp).1
        rw [this]; rfl
      · have hb := h.end_bd hx
        by_cases e0 : c = 0
        · subst e0
          left
          refine ⟨l[0], List.getElem_mem hp, ?_⟩
          have := (h.chain.first hp).1
          rw [this]; rfl
        · obtain ⟨i, hi, rfl⟩ := List.mem_iff_getElem.1 hx
          by_cases ei : i = q
          · subst ei
            right
            rw [hqe] at hN
            unfold endL at h2 hb
            omega
          · left
            have h3 := (h.chain.next i (by omega)).1
            refine ⟨l[i + 1], List.getElem_mem _, ?_⟩
            unfold endL at h2 hb
            omega
    · rintro (⟨x, hx, h1⟩ | rfl)
      · have hb := h.first_bd hx
        obtain ⟨i, hi, rfl⟩ := List.mem_iff_getElem.1 hx
        match i, hi with
        | 0, hi =>
          left
          have := (h.chain.first hp).1
          rw [this] at h1
          omega
        | i + 1, hi =>
          right
          refine ⟨l[i], List.getElem_mem _, hall _ (List.getElem_mem _), ?_⟩
          have h3 := (h.chain.next i hi).1
          have h4 := h.end_bd (List.getElem_mem (show i < l.length by omega))
          unfold endL at h4 ⊢
          omega
      · by_cases e0 : c = 0
        · exact .inl e0
        · right
          refine ⟨l[q], List.getElem_mem _, hall _ (List.getElem_mem _), ?_⟩
          have h4 := h.end_bd (List.getElem_mem (show q < l.length by omega))
          rw [hqe] at hN
          unfold endL at h4 ⊢
          omega
  · intro hle
    rw [hS, List.any_eq_false]
    intro x hx
    have := h.first_bd hx
    simp only [beq_iff_eq]
    omega
theorem moved_set {W : Int} {l : List Ln} (h : Good W l) {many : Int} (hm : (lastL l).1 < many) {N : Nat} (hN : (N : Int) = (lastL l).2.1 + (lastL l).2.2) (hN2 : N < 256) : setBit (upS (allS l many)) N false = ofI (l.map (·.2.1)) := by
  apply set_ext
  intro c hc
  obtain ⟨h1, h2⟩ := moved_at h hm hN c hc
  rw [hasB_set _ _ _ hN2, h1]
  split
  · rename_i e; rw [h2 (by omega)]
  · rename_i e; simp [e]
theorem moved_full {W : Int} {l : List Ln} (h : Good W l) {many : Int} (hm : (lastL l).1 < many) {N k : Nat} (hN : (N : Int) = (lastL l).2.1 + (lastL l).2.2) (hk : N = 64 * k) (hk4 : k ≤ 4) : rcells (upS (allS l many)) k = rcells (ofI (l.map (·.2.1))) k := by
  unfold rcells
  apply List.map_congr_left
  intro i hi
  have hi := List.mem_range.1 hi
  congr 2
  apply eq_word (word_lt _ _)
  intro j hj
  rw [word_testBit _ _ _ hj]
  have h1 := (moved_at h hm hN (64 * i + j) (by omega)).1
  unfold hasB at h1
  rw [h1]
  simp
  omega
end Go.Proofs.Ytghdgenlkbocmaa
