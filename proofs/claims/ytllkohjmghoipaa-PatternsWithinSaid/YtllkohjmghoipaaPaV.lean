/- Patterns, plainly: what is wrong with them, their lengths, what they match, where it ends. -/
import Derived.Test.YtllkohjmghoipaaSet
namespace Go.Proofs.Ytllkohjmghoipaa
open Go.RowKit

/-- an element: a gap, its class, its bounds -/
structure El where
  gap : Bool
  cls : CSet
  low : Int
  high : Int
  deriving DecidableEq

def elemE (p : List El) (i : Nat) : Int :=
  match p[i]? with
  | none => 0
  | some x =>
    if x.gap = false then (if x.low ≠ 0 ∨ x.high ≠ 0 then 6 else 0)
    else if x.cls ≠ 0#256 then 6
    else if x.low < 0 ∨ x.high < x.low ∨ 16 < x.high then 7
    else if i = 0 ∨ i + 1 = p.length ∨ (p[i - 1]?.map El.gap) = some true then 6 else 0
/-- the first of the numbers from i on, n of them, at which an error stands -/
def firstE (p : List El) : Nat → Nat → Int × Int
  | _, 0 => (0, 0)
  | i, n + 1 => if elemE p i ≠ 0 then ((i : Int), elemE p i) else firstE p (i + 1) n
def checkV (p : List El) : Int × Int := if p.length = 0 then (0, 6) else if 512 < p.length then (0, 3) else firstE p 0 p.length
theorem firstE_step {p : List El} {i n : Nat} (h : elemE p i = 0) : firstE p i (n + 1) = firstE p (i + 1) n := by
  show (if elemE p i ≠ 0 then _ else _) = _
  rw [if_neg (by rw [h]; simp)]
theorem firstE_hit {p : List El} {i n : Nat} (h : elemE p i ≠ 0) : firstE p i (n + 1) = ((i : Int), elemE p i) := by
  show (if elemE p i ≠ 0 then _ else _) = _
  rw [if_pos h]
theorem firstE_zero {p : List El} : ∀ n i, (firstE p i n).2 = 0 → ∀ j, i ≤ j → j < i + n → elemE p j = 0
  | 0, i, _, j, h1, h2 => by omega
  | n + 1, i, h, j, h1, h2 => by
    by_cases h0 : elemE p i = 0
    · rw [firstE_step h0] at h
      by_cases hj : j = i
      · subst hj; exact h0
      · exact firstE_zero n (i + 1) h j (by omega) (by omega)
    · rw [firstE_hit h0] at h
      exact absurd h h0
theorem firstE_fst {p : List El} : ∀ n i, (firstE p i n).2 = 0 → firstE p i n = (0, 0)
  | 0, i, _ => rfl
  | n + 1, i, h => by
    by_cases h0 : elemE p i = 0
    · rw [firstE_step h0] at h ⊢
      exact firstE_fst n (i + 1) h
    · rw [firstE_hit h0] at h
      exact absurd h h0
/-- a pattern with which nothing is wrong -/
structure OkP (p : List El) : Prop where
  pos : 0 < p.length
  le : p.length ≤ 512
  el : ∀ i, i < p.length → elemE p i = 0
theorem okP_of {p : List El} (h : (checkV p).2 = 0) : OkP p := by
  unfold checkV at h
  by_cases h1 : p.length = 0
  · rw [if_pos h1] at h; exact absurd h (by decide)
  · rw [if_neg h1] at h
    by_cases h2 : 512 < p.length
    · rw [if_pos h2] at h; exact absurd h (by decide)
    · rw [if_neg h2] at h
      exact ⟨by omega, by omega, fun i hi => firstE_zero _ 0 h i (by omega) (by omega)⟩
theorem checkV_ok {p : List El} (h : (checkV p).2 = 0) : checkV p = (0, 0) := by
  have hk := okP_of h
  unfold checkV at h ⊢
  rw [if_neg (by have := hk.pos; omega), if_neg (by have := hk.le; omega)] at h ⊢
  exact firstE_fst _ _ h
theorem firstE_none {p : List El} : ∀ n i, (∀ j, i ≤ j → j < i + n → elemE p j = 0) → firstE p i n = (0, 0)
  | 0, _, _ => rfl
  | n + 1, i, h => by
    rw [firstE_step (h i (by omega) (by omega))]
    exact firstE_none n (i + 1) fun j h1 h2 => h j (by omega) (by omega)
theorem OkP.check {p : List El} (h : OkP p) : checkV p = (0, 0) := by
  unfold checkV
  rw [if_neg (by have := h.pos; omega), if_neg (by have := h.le; omega)]
  exact firstE_none _ _ fun j _ hj => h.el j (by omega)
theorem elemE_at {p : List El} {i : Nat} (h : i < p.length) : elemE p i = (if p[i].gap = false then (if p[i].low ≠ 0 ∨ p[i].high ≠ 0 then 6 else 0)
    else if p[i].cls ≠ 0#256 then 6
    else if p[i].low < 0 ∨ p[i].high < p[i].low ∨ 16 < p[i].high then 7
    else if i = 0 ∨ i + 1 = p.length ∨ (p[i - 1]?.map El.gap) = some true then 6 else 0) := by
  unfold elemE
  rw [List.getElem?_eq_getElem h]
theorem OkP.plain {p : List El} (h : OkP p) {i : Nat} (hi : i < p.length) (hg : p[i].gap = false) : p[i].low = 0 ∧ p[i].high = 0 := by
  have e := h.el i hi
  rw [elemE_at hi, if_pos hg] at e
  by_cases h1 : p[i].low ≠ 0 ∨ p[i].high ≠ 0
  · rw [if_pos h1] at e; exact absurd e (by decide)
  · omega
theorem OkP.gap {p : List El} (h : OkP p) {i : Nat} (hi : i < p.length) (hg : p[i].gap = true) :
    p[i].cls = 0#256 ∧ 0 ≤ p[i].low ∧ p[i].low ≤ p[i].high ∧ p[i].high ≤ 16 ∧ i ≠ 0 ∧ i + 1 < p.length ∧ ∀ h' : i - 1 < p.length, p[i - 1].gap = false := by
  have e := h.el i hi
  rw [elemE_at hi, if_neg (by rw [hg]; decide)] at e
  by_cases h1 : p[i].cls ≠ 0#256
  · rw [if_pos h1] at e; exact absurd e (by decide)
  · rw [if_neg h1] at e
    by_cases h2 : p[i].low < 0 ∨ p[i].high < p[i].low ∨ 16 < p[i].high
    · rw [if_pos h2] at e; exact absurd e (by decide)
    · rw [if_neg h2] at e
      by_cases h3 : i = 0 ∨ i + 1 = p.length ∨ (p[i - 1]?.map El.gap) = some true
      · rw [if_pos h3] at e; exact absurd e (by decide)
      · simp only [not_or] at h3
        refine ⟨by simpa using h1, by omega, by omega, by omega, h3.1, by omega, fun h' => ?_⟩
        have h4 := h3.2.2
        rw [List.getElem?_eq_getElem h'] at h4
        simpa using h4

def lowOf (x : El) : Int := if x.gap then x.low else 1
def highOf (x : El) : Int := if x.gap then x.high else 1
def leastV (p : List El) : Int := (p.map lowOf).sum
def mostV (p : List El) : Int := (p.map highOf).sum

/-- the places that an element reaches, from those at which it may begin -/
def stepP (b : List UInt8) (x : El) (at' : Nat → Bool) (m : Nat) : Bool :=
  if x.gap then (List.range (x.high.toNat + 1)).any fun c => decide (x.low ≤ (c : Int)) && decide (c ≤ m) && at' (m - c)
  else decide (1 ≤ m) && at' (m - 1) && (match b[m - 1]? with | some y => hasB x.cls y.toNat | none => false)
def reachP (b : List UInt8) (p : List El) (at' : Nat → Bool) : Nat → Bool := p.foldl (fun a x => stepP b x a) at'
def matchV (p : List El) (b : List UInt8) : Bool := reachP b p (fun m => decide (m = 0)) b.length
def endsV (p : List El) (b : List UInt8) : List Nat := (List.range (b.length + 1)).filter (reachP b p fun _ => true)
theorem reachP_snoc (b : List UInt8) (p : List El) (x : El) (at' : Nat → Bool) : reachP b (p ++ [x]) at' = stepP b x (reachP b p at') := by simp [reachP]
theorem reachP_append (b : List UInt8) (p q : List El) (at' : Nat → Bool) : reachP b (p ++ q) at' = reachP b q (reachP b p at') := by simp [reachP]

theorem stepP_gap {b : List UInt8} {x : El} {at' : Nat → Bool} {m : Nat} (hg : x.gap = true) : stepP b x at' m = true ↔ ∃ c : Nat, x.low ≤ (c : Int) ∧ (c : Int) ≤ max x.high 0 ∧ c ≤ m ∧ at' (m - c) = true := by
  unfold stepP
  rw [if_pos hg, List.any_eq_true]
  constructor
  · rintro ⟨c, hc, h⟩
    rw [List.mem_range] at hc
    simp only [Bool.and_eq_true, decide_eq_true_eq] at h
    exact ⟨c, h.1.1, by omega, h.1.2, h.2⟩
  · rintro ⟨c, h1, h2, h3, h4⟩
    refine ⟨c, by rw [List.mem_range]; omega, ?_⟩
    simp [h1, h3, h4]
theorem stepP_byte {b : List UInt8} {x : El} {at' : Nat → Bool} {m : Nat} (hg : x.gap = false) : stepP b x at' m = true ↔ 1 ≤ m ∧ at' (m - 1) = true ∧ ∃ y, b[m - 1]? = some y ∧ hasB x.cls y.toNat = true := by
  unfold stepP
  rw [if_neg (by rw [hg]; decide)]
  simp only [Bool.and_eq_true, decide_eq_true_eq]
  cases b[m - 1]? with
  | none => simp
  | some y => simp [and_assoc]

/-- the elements match the bytes from one place to another -/
def Fits (b : List UInt8) : List El → Nat → Nat → Prop
  | [], i, j => i = j
  | x :: p, i, j => ∃ k, (if x.gap then ∃ c : Nat, x.low ≤ (c : Int) ∧ (c : Int) ≤ max x.high 0 ∧ k = i + c else k = i + 1 ∧ ∃ y, b[i]? = some y ∧ hasB x.cls y.toNat = true) ∧ Fits b p k j
def Fit1 (b : List UInt8) (x : El) (i k : Nat) : Prop := if x.gap then ∃ c : Nat, x.low ≤ (c : Int) ∧ (c : Int) ≤ max x.high 0 ∧ k = i + c else k = i + 1 ∧ ∃ y, b[i]? = some y ∧ hasB x.cls y.toNat = true
theorem fits_cons {b : List UInt8} {x : El} {p : List El} {i j : Nat} : Fits b (x :: p) i j ↔ ∃ k, Fit1 b x i k ∧ Fits b p k j := Iff.rfl
theorem fits_append {b : List UInt8} : ∀ {p q : List El} {i j : Nat}, Fits b (p ++ q) i j ↔ ∃ k, Fits b p i k ∧ Fits b q k j
  | [], q, i, j => by simp [Fits]
  | x :: p, q, i, j => by
    rw [List.cons_append, fits_cons]
    constructor
    · rintro ⟨k, h1, h2⟩
      obtain ⟨l, h3, h4⟩ := fits_append.1 h2
      exact ⟨l, ⟨k, h1, h3⟩, h4⟩
    · rintro ⟨l, ⟨k, h1, h3⟩, h4⟩
      exact ⟨k, h1, fits_append.2 ⟨l, h3, h4⟩⟩
theorem fit1_le {b : List UInt8} {x : El} {i k : Nat} (h : Fit1 b x i k) : i ≤ k := by
  unfold Fit1 at h
  split at h
  · obtain ⟨c, _, _, rfl⟩ := h; omega
  · omega
theorem fits_le {b : List UInt8} : ∀ {p : List El} {i j : Nat}, Fits b p i j → i ≤ j
  | [], i, j, h => Nat.le_of_eq h
  | x :: p, i, j, h => by
    obtain ⟨k, h1, h2⟩ := fits_cons.1 h
    exact Nat.le_trans (fit1_le h1) (fits_le h2)
theorem stepP_fit {b : List UInt8} {x : El} {at' : Nat → Bool} {m : Nat} : stepP b x at' m = true ↔ ∃ i, at' i = true ∧ Fit1 b x i m := by
  cases hg : x.gap
  · rw [stepP_byte hg]
    unfold Fit1
    simp only [hg, Bool.false_eq_true, if_false]
    constructor
    · rintro ⟨h1, h2, h3⟩
      exact ⟨m - 1, h2, by omega, h3⟩
    · rintro ⟨i, h1, rfl, h3⟩
      exact ⟨by omega, h1, h3⟩
  · rw [stepP_gap hg]
    unfold Fit1
    simp only [hg, if_true]
    constructor
    · rintro ⟨c, h1, h2, h3, h4⟩
      exact ⟨m - c, h4, c, h1, h2, by omega⟩
    · rintro ⟨i, h4, c, h1, h2, rfl⟩
      exact ⟨c, h1, h2, by omega, by rwa [Nat.add_sub_cancel]⟩
theorem reachP_fits {b : List UInt8} : ∀ {p : List El} {at' : Nat → Bool} {m : Nat}, reachP b p at' m = true ↔ ∃ i, at' i = true ∧ Fits b p i m
  | [], at', m => by simp [reachP, Fits]
  | x :: p, at', m => by
    show reachP b p (stepP b x at') m = true ↔ _
    rw [reachP_fits]
    constructor
    · rintro ⟨k, h1, h2⟩
      obtain ⟨i, h3, h4⟩ := stepP_fit.1 h1
      exact ⟨i, h3, k, h4, h2⟩
    · rintro ⟨i, h3, k, h4, h2⟩
      exact ⟨k, stepP_fit.2 ⟨i, h3, h4⟩, h2⟩
theorem matchV_fits {p : List El} {b : List UInt8} : matchV p b = true ↔ Fits b p 0 b.length := by
  unfold matchV
  rw [reachP_fits]
  constructor
  · rintro ⟨i, h1, h2⟩
    have : i = 0 := by simpa using h1
    subst this; exact h2
  · intro h
    exact ⟨0, by simp, h⟩
theorem endsV_mem {p : List El} {b : List UInt8} {n : Nat} : n ∈ endsV p b ↔ n ≤ b.length ∧ ∃ i, Fits b p i n := by
  unfold endsV
  rw [List.mem_filter, List.mem_range, reachP_fits]
  constructor
  · rintro ⟨h1, i, _, h2⟩
    exact ⟨by omega, i, h2⟩
  · rintro ⟨h1, i, h2⟩
    exact ⟨by omega, i, rfl, h2⟩

/-! ### what a pattern that is read byte by byte remembers -/
/-- the places that the first i elements reach -/
def pre (b : List UInt8) (p : List El) (st : Nat → Bool) (i : Nat) : Nat → Bool := reachP b (p.take i) st
/-- behind k bytes: c bytes of the gap i were read (0 where there is none) -/
def sees (b : List UInt8) (p : List El) (st : Nat → Bool) (k i c : Nat) : Bool :=
  match p[i]? with
  | some x => if x.gap then decide ((c : Int) ≤ max x.high 0) && decide (c ≤ k) && pre b p st i (k - c) else decide (c = 0) && pre b p st i k
  | none => decide (c = 0) && pre b p st i k
theorem pre_succ {b : List UInt8} {p : List El} {st : Nat → Bool} {i : Nat} (h : i < p.length) : pre b p st (i + 1) = stepP b p[i] (pre b p st i) := by
  unfold pre
  rw [List.take_succ_eq_append_getElem h, reachP_snoc]
end Go.Proofs.Ytllkohjmghoipaa
