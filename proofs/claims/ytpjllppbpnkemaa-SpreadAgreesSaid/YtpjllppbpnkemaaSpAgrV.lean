/- What lines match is what their pattern matches: plainly. -/
import Derived.Test.YtpjllppbpnkemaaMg7
namespace Go.Proofs.Ytpjllppbpnkemaa
open Go.RowKit Go.Sort

/-- does a line match bytes? -/
def lineM : List CSet → List UInt8 → Bool
  | [], [] => true
  | s :: l, y :: b => hasB s y.toNat && lineM l b
  | _, _ => false
theorem lineM_len : ∀ {l : List CSet} {b : List UInt8}, lineM l b = true → l.length = b.length
  | [], [], _ => rfl
  | [], _ :: _, h => by simp [lineM] at h
  | _ :: _, [], h => by simp [lineM] at h
  | s :: l, y :: b, h => by
    simp only [lineM, Bool.and_eq_true] at h
    simp [lineM_len h.2]
def elC (s : CSet) : El := ⟨false, s, 0, 0⟩
theorem fit1_class {b : List UInt8} {x : El} (h : x.gap = false) {i k : Nat} : Fit1 b x i k ↔ k = i + 1 ∧ ∃ y, b[i]? = some y ∧ hasB x.cls y.toNat = true := by
  unfold Fit1
  rw [if_neg (by rw [h]; decide)]
theorem fitsC_len {b : List UInt8} : ∀ {l : List CSet} {i j : Nat}, Fits b (l.map elC) i j → j = i + l.length
  | [], i, j, h => by have : i = j := h; simp [this]
  | s :: l, i, j, h => by
    obtain ⟨k, h1, h2⟩ := fits_cons.1 h
    obtain ⟨rfl, _⟩ := (fit1_class rfl).1 h1
    have := fitsC_len h2
    simp; omega
theorem lineM_fits {b : List UInt8} : ∀ (l : List CSet) (i j : Nat), j ≤ b.length → (Fits b (l.map elC) i j ↔ i ≤ j ∧ lineM l ((b.take j).drop i) = true)
  | [], i, j, hj => by
    show i = j ↔ _
    constructor
    · rintro rfl
      refine ⟨Nat.le_refl _, ?_⟩
      rw [List.drop_eq_nil_of_le (by rw [List.length_take]; omega)]
      rfl
    · rintro ⟨h1, h2⟩
      have := lineM_len h2
      rw [List.length_drop, List.length_take, Nat.min_eq_left hj] at this
      simp at this; omega
  | s :: l, i, j, hj => by
    rw [List.map_cons, fits_cons]
    constructor
    · rintro ⟨k, h1, h2⟩
      obtain ⟨rfl, y, hy, hs⟩ := (fit1_class rfl).1 h1
      obtain ⟨h3, h4⟩ := (lineM_fits l (i + 1) j hj).1 h2
      refine ⟨by omega, ?_⟩
      have hi : i < (b.take j).length := by rw [List.length_take]; omega
      rw [List.drop_eq_getElem_cons hi, List.getElem_take]
      have e : b[i]'(by omega) = y := by
        rw [List.getElem?_eq_getElem (by omega)] at hy
        simpa using hy
      simp only [lineM, Bool.and_eq_true]
      exact ⟨by rw [e]; exact hs, h4⟩
    · rintro ⟨h1, h2⟩
      have hl := lineM_len h2
      rw [List.length_drop, List.length_take, Nat.min_eq_left hj] at hl
      simp only [List.length_cons] at hl
      have hi : i < (b.take j).length := by rw [List.length_take]; omega
      rw [List.drop_eq_getElem_cons hi, List.getElem_take] at h2
      simp only [lineM, Bool.and_eq_true] at h2
      refine ⟨i + 1, (fit1_class rfl).2 ⟨rfl, b[i]'(by omega), List.getElem?_eq_getElem _, h2.1⟩, (lineM_fits l (i + 1) j hj).2 ⟨by omega, h2.2⟩⟩
theorem fits_full {b : List UInt8} : ∀ (n i k : Nat), k ≤ b.length → (Fits b ((List.replicate n fullS).map elC) i k ↔ k = i + n)
  | 0, i, k, _ => by
    show i = k ↔ _
    omega
  | n + 1, i, k, hk => by
    rw [List.replicate_succ, List.map_cons, fits_cons]
    constructor
    · rintro ⟨m, h1, h2⟩
      obtain ⟨rfl, _⟩ := (fit1_class rfl).1 h1
      have := (fits_full n (i + 1) k hk).1 h2
      omega
    · rintro rfl
      refine ⟨i + 1, (fit1_class rfl).2 ⟨rfl, b[i]'(by omega), List.getElem?_eq_getElem _, hasB_full _ (UInt8.toNat_lt _)⟩, (fits_full n (i + 1) _ hk).2 (by omega)⟩
theorem fits_lines {b : List UInt8} : ∀ (p : List El), (∀ x ∈ gapsV p, 0 ≤ x.low ∧ x.low ≤ x.high) → ∀ (i j : Nat), j ≤ b.length →
    (Fits b p i j ↔ ∃ c : List Int, (gapsV p).length = c.length ∧ rngOk (gapsV p) c = true ∧ Fits b ((lineL p c).map elC) i j)
  | [], _, i, j, _ => by
    constructor
    · intro h
      exact ⟨[], rfl, rfl, h⟩
    · rintro ⟨c, _, _, h⟩
      exact h
  | x :: p, hg, i, j, hj => by
    cases hx : x.gap
    · have e : gapsV (x :: p) = gapsV p := by unfold gapsV; rw [List.filter_cons_of_neg (by simp [hx])]
      rw [e] at hg ⊢
      have ih := fun k => fits_lines p hg k j hj
      have hl : ∀ c, lineL (x :: p) c = x.cls :: lineL p c := fun c => by simp only [lineL, hx, Bool.false_eq_true, if_false]
      simp only [hl, List.map_cons, fits_cons]
      constructor
      · rintro ⟨k, h1, h2⟩
        obtain ⟨c, h3, h4, h5⟩ := (ih k).1 h2
        exact ⟨c, h3, h4, k, (fit1_class rfl).2 ((fit1_class hx).1 h1), h5⟩
      · rintro ⟨c, h3, h4, k, h1, h5⟩
        exact ⟨k, (fit1_class hx).2 ((fit1_class (x := elC x.cls) rfl).1 h1), (ih k).2 ⟨c, h3, h4, h5⟩⟩
    · have e : gapsV (x :: p) = x :: gapsV p := by unfold gapsV; rw [List.filter_cons_of_pos hx]
      rw [e] at hg ⊢
      obtain ⟨x0, x1⟩ := hg x (by simp)
      have ih := fun k => fits_lines p (fun y hy => hg y (List.mem_cons_of_mem _ hy)) k j hj
      rw [fits_cons]
      constructor
      · rintro ⟨k, h1, h2⟩
        unfold Fit1 at h1
        rw [if_pos hx] at h1
        obtain ⟨n, n1, n2, rfl⟩ := h1
        obtain ⟨c, h3, h4, h5⟩ := (ih (i + n)).1 h2
        have hk := fits_le h2
        refine ⟨(n : Int) :: c, by simp [h3], ?_, ?_⟩
        · simp only [rngOk, Bool.and_eq_true, inR, decide_eq_true_eq]
          exact ⟨⟨n1, by omega⟩, h4⟩
        · simp only [lineL, hx, if_true, List.headD_cons, List.tail_cons, Int.toNat_natCast, List.map_append]
          exact fits_append.2 ⟨i + n, (fits_full n i (i + n) (by omega)).2 rfl, h5⟩
      · rintro ⟨c, h3, h4, h5⟩
        cases c with
        | nil => simp at h3
        | cons n c =>
          simp only [rngOk, Bool.and_eq_true, inR, decide_eq_true_eq] at h4
          simp only [lineL, hx, if_true, List.headD_cons, List.tail_cons, List.map_append] at h5
          obtain ⟨k, h6, h7⟩ := fits_append.1 h5
          have hk := fits_le h7
          have h8 := (fits_full _ i k (by omega)).1 h6
          refine ⟨k, ?_, (ih k).2 ⟨c, by simpa using h3, h4.2, h7⟩⟩
          unfold Fit1
          rw [if_pos hx]
          exact ⟨n.toNat, by omega, by omega, h8⟩
theorem fits_some {p : List El} {b : List UInt8} (h : posE p = 0) {i j : Nat} (hj : j ≤ b.length) : Fits b p i j ↔ ∃ l ∈ linesV p, Fits b (l.map elC) i j := by
  obtain ⟨hok, _⟩ := cntE_ok (posE_ok h).1
  rw [fits_lines p (fun x hx => ⟨(hok.gaps.2 x hx).2.1, (hok.gaps.2 x hx).2.2.1⟩) i j hj]
  constructor
  · rintro ⟨c, h1, h2, h3⟩
    exact ⟨lineL p c, List.mem_map.2 ⟨c, in_chosL h h1.symm h2, rfl⟩, h3⟩
  · rintro ⟨l, hl, h3⟩
    obtain ⟨c, hc, rfl⟩ := List.mem_map.1 hl
    exact ⟨c, (chosL_each h hc).2.1, (chosL_each h hc).2.2, h3⟩
/-- some line matches -/
theorem lines_match {p : List El} {b : List UInt8} (h : posE p = 0) : (linesV p).any (fun l => lineM l b) = matchV p b := by
  rw [Bool.eq_iff_iff, matchV_fits, fits_some h (Nat.le_refl _), List.any_eq_true]
  constructor
  · rintro ⟨l, hl, hm⟩
    refine ⟨l, hl, (lineM_fits l 0 _ (Nat.le_refl _)).2 ⟨by omega, ?_⟩⟩
    rw [List.take_length, List.drop_zero]
    exact hm
  · rintro ⟨l, hl, hf⟩
    have := ((lineM_fits l 0 _ (Nat.le_refl _)).1 hf).2
    rw [List.take_length, List.drop_zero] at this
    exact ⟨l, hl, this⟩
/-- does a line match bytes that end at n? -/
def endM (b : List UInt8) (n : Nat) (l : List CSet) : Bool := decide (l.length ≤ n) && lineM l ((b.take n).drop (n - l.length))
def linesEnds (L : List (List CSet)) (b : List UInt8) : List Nat := (List.range (b.length + 1)).filter fun n => L.any (endM b n)
theorem endM_fits {b : List UInt8} {n : Nat} (hn : n ≤ b.length) (l : List CSet) : endM b n l = true ↔ ∃ i, Fits b (l.map elC) i n := by
  unfold endM
  simp only [Bool.and_eq_true, decide_eq_true_eq]
  constructor
  · rintro ⟨h1, h2⟩
    exact ⟨n - l.length, (lineM_fits l _ n hn).2 ⟨by omega, h2⟩⟩
  · rintro ⟨i, h⟩
    have h1 := fitsC_len h
    have h2 := ((lineM_fits l i n hn).1 h).2
    refine ⟨by omega, ?_⟩
    rw [show n - l.length = i by omega]
    exact h2
theorem lines_endsV {p : List El} {b : List UInt8} (h : posE p = 0) : linesEnds (linesV p) b = endsV p b := by
  have e : endsV p b = (List.range (b.length + 1)).filter fun n => reachP b p (fun _ => true) n := rfl
  rw [e]
  unfold linesEnds
  refine List.filter_congr fun n hn => ?_
  have hn2 : n ≤ b.length := by have := List.mem_range.1 hn; omega
  rw [Bool.eq_iff_iff, reachP_fits, List.any_eq_true]
  constructor
  · rintro ⟨l, hl, hm⟩
    obtain ⟨i, hi⟩ := (endM_fits hn2 l).1 hm
    exact ⟨i, rfl, (fits_some h hn2).2 ⟨l, hl, hi⟩⟩
  · rintro ⟨i, _, hf⟩
    obtain ⟨l, hl, hi⟩ := (fits_some h hn2).1 hf
    exact ⟨l, hl, (endM_fits hn2 l).2 ⟨i, hi⟩⟩
theorem lines_pos {p : List El} (h : posE p = 0) : ∀ l ∈ linesV p, 0 < l.length := fun l hl => by
  obtain ⟨c, hc, rfl⟩ := List.mem_map.1 hl
  obtain ⟨hok, _⟩ := cntE_ok (posE_ok h).1
  have hp := hok.pos
  cases p with
  | nil => simp at hp
  | cons x p =>
    have hg : x.gap = false := by
      cases hx : x.gap with
      | false => rfl
      | true => exact absurd rfl (hok.gap (i := 0) hp hx).2.2.2.2.1
    simp [lineL, hg]
end Go.Proofs.Ytpjllppbpnkemaa
