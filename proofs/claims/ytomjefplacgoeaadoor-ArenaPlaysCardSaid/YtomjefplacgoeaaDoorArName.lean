/- Names. -/
import Derived.Test.YtomjefplacgoeaaDoorTrimL
import Derived.Test.YtomjefplacgoeaaDoorArSame
namespace Go.Proofs.YtomjefplacgoeaaDoor
open Go.RowKit Go.Shelf

def byt (t : List UInt8) (i : Nat) : Nat := (t.getD i 0).toNat
theorem byt_lt (t : List UInt8) (i : Nat) : byt t i < 256 := UInt8.toNat_lt _
theorem byt_at {t : List UInt8} {i : Nat} (h : i < (str t).size) : ((str t)[i]'h).toNat = byt t i := by
  have hl : i < t.length := by rw [size_str] at h; exact h
  unfold byt
  rw [List.getD_eq_getElem?_getD, List.getElem?_eq_getElem hl]
  rfl
def lowC (n : Nat) : Bool := decide (97 ≤ n) && decide (n ≤ 122)
def digC (n : Nat) : Bool := decide (48 ≤ n) && decide (n ≤ 57)
def nameC (n : Nat) : Bool := lowC n || digC n || decide (n = 45)
def nameB (t : List UInt8) : Bool := decide (1 ≤ t.length) && decide (t.length ≤ 16) && lowC (byt t 0) && t.all fun b => nameC b.toNat

abbrev nameSet : List UInt8 := [97, 98, 99, 100, 101, 102, 103, 104, 105, 106, 107, 108, 109, 110, 111, 112, 113, 114, 115, 116, 117, 118, 119, 120, 121, 122, 48, 49, 50, 51, 52, 53, 54, 55, 56, 57, 45]
theorem nameSet_at : ∀ n : Fin 256, nameSet.contains (n.1.toUInt8) = nameC n.1 := by decide +kernel
theorem nameSet_c (b : UInt8) : nameSet.contains b = nameC b.toNat := by
  have h := nameSet_at ⟨b.toNat, UInt8.toNat_lt b⟩
  simp only [Nat.toUInt8, UInt8.ofNat_toNat] at h
  exact h
theorem dropWhile_nil {α : Type} (p : α → Bool) : ∀ l : List α, (l.dropWhile p = [] ↔ l.all p = true)
  | [] => by simp
  | a :: l => by
    rw [List.dropWhile_cons]
    cases h : p a with
    | true => simp [h, dropWhile_nil p l]
    | false => simp [h]
theorem dropWhile_head {α : Type} (p : α → Bool) : ∀ (l : List α) (a : α) (r : List α), l.dropWhile p = a :: r → p a = false
  | [], a, r, h => by simp at h
  | b :: l, a, r, h => by
    rw [List.dropWhile_cons] at h
    cases hb : p b with
    | true => rw [hb, if_pos rfl] at h; exact dropWhile_head p l a r h
    | false => rw [hb, if_neg (by decide)] at h; injection h with h1 h2; rw [← h1]; exact hb
theorem trimS_nil (l cs : List UInt8) : Lib.trimS l cs = [] ↔ l.all (cs.contains ·) = true := by
  unfold Lib.trimS Lib.trimLeftS Lib.trimRightS
  rw [dropWhile_nil]
  constructor
  · intro h
    cases hr : l.reverse.dropWhile (cs.contains ·) with
    | nil => rw [dropWhile_nil, List.all_reverse] at hr; exact hr
    | cons a r =>
      have h1 := dropWhile_head _ _ _ _ hr
      rw [hr, List.all_reverse] at h
      rw [List.all_cons, h1] at h
      simp at h
  · intro h
    have : l.reverse.dropWhile (cs.contains ·) = [] := by rw [dropWhile_nil, List.all_reverse]; exact h
    rw [this]; rfl

theorem trimS_dec (t : List UInt8) : decide (Lib.trimS t nameSet = []) = t.all fun b => nameC b.toNat := by
  have e : (fun b : UInt8 => nameSet.contains b) = fun b => nameC b.toNat := funext nameSet_c
  rw [← e]
  cases h : t.all fun b => nameSet.contains b with
  | true => exact decide_eq_true ((trimS_nil _ _).2 h)
  | false => exact decide_eq_false (fun h2 => by rw [trimS_nil] at h2; rw [h2] at h; exact absurd h (by decide))
theorem toL_str (t : List UInt8) : (str t).toList = t := by rw [ByteArray.toList_eq]; rfl
theorem trim_p (t : List UInt8) (ht : t.length ≤ 16) (w : World) :
    Calls Tryd.prog 53 #[.string (str t), .string { data := #[97, 98, 99, 100, 101, 102, 103, 104, 105, 106, 107, 108, 109, 110, 111, 112, 113, 114, 115, 116, 117, 118, 119, 120, 121, 122, 48, 49, 50, 51, 52, 53, 54, 55, 56, 57, 45] }] w fun e w' => e = .returned (.string (str (Lib.trimS t nameSet))) ∧ Below w.heap.size w w' := by
  have h := Any.strings_Trim_laid lays160 (by kernel_rfl) (str t) ⟨#[97, 98, 99, 100, 101, 102, 103, 104, 105, 106, 107, 108, 109, 110, 111, 112, 113, 114, 115, 116, 117, 118, 119, 120, 121, 122, 48, 49, 50, 51, 52, 53, 54, 55, 56, 57, 45]⟩ w (by rw [size_str]; omega) (by decide) (ascii_of_all (by decide))
  exact h

set_option maxRecDepth 100000 in
set_option maxHeartbeats 2000000 in
theorem name_p (t : List UInt8) (ht : t.length ≤ 1000000000) (w : World) :
    Calls Tryd.prog 38 #[.string (str t)] w fun e w' => e = .returned (.bool (nameB t)) ∧ Below w.heap.size w w' := by
  have hst := size_str t
  have hg := fun (h : 0 < (str t).size) => byt_at (t := t) h
  have hx := byt_lt t 0
  by_cases h1 : t.length = 0
  · have e : nameB t = false := by unfold nameB; rw [h1]; rfl
    have e2 : t = [] := List.length_eq_zero_iff.1 h1
    rw [e]; clear e
    have t1 : ((str t).toList == []) = true := by rw [toL_str, e2]; rfl
    have j0 : t.length = 0 := h1
    clear hg hx h1 ht e2
    go_enter Tryd.func38, Tryd.ntmps38
    go_wp2_with fail
    go_ret
    exact ⟨rfl, Below.refl _ _⟩
  · have t1 : ((str t).toList == []) = false := by
      rw [toL_str, beq_eq_false_iff_ne]; intro e; rw [e] at h1; exact h1 rfl
    by_cases h2 : 16 < t.length
    · have e : nameB t = false := by unfold nameB; rw [decide_eq_false (p := t.length ≤ 16) (by omega)]; simp
      rw [e]; clear e
      have j2 : (16 : Int) < (t.length : Int) := by omega
      clear hg hx h1 h2
      go_enter Tryd.func38, Tryd.ntmps38
      go_wp2_with fail
      go_ret
      exact ⟨rfl, Below.refl _ _⟩
    · have j2 : ¬ (16 : Int) < (t.length : Int) := by omega
      have j3 : (0 : Int) < (t.length : Int) := by omega
      have KT := Lib.hid (trim_p t (by omega))
      have hN : nameB t = (lowC (byt t 0) && decide (Lib.trimS t nameSet = [])) := by
        unfold nameB
        rw [decide_eq_true (p := 1 ≤ t.length) (by omega), decide_eq_true (p := t.length ≤ 16) (by omega), trimS_dec]
        rfl
      rw [hN]
      clear hN
      obtain ⟨x, hxe⟩ : ∃ x, x = byt t 0 := ⟨_, rfl⟩
      rw [← hxe] at hx ⊢
      simp only [← hxe] at hg
      have g0 := hg (by omega)
      clear hxe hg
      by_cases h3 : x < 97
      · have e : lowC x = false := by unfold lowC; rw [decide_eq_false (by omega)]; rfl
        rw [e, Bool.false_and]
        have q1 : (x : Int) < 97 := by omega
        clear e KT
        go_enter Tryd.func38, Tryd.ntmps38
        go_wp2_with fail
        go_ret
        exact ⟨rfl, Below.refl _ _⟩
      · have q1 : ¬ (x : Int) < 97 := by omega
        by_cases h4 : 122 < x
        · have e : lowC x = false := by unfold lowC; rw [decide_eq_false (p := x ≤ 122) (by omega), Bool.and_false]
          rw [e, Bool.false_and]
          have q2 : (122 : Int) < (x : Int) := by omega
          clear e KT
          go_enter Tryd.func38, Tryd.ntmps38
          go_wp2_with fail
          go_ret
          exact ⟨rfl, Below.refl _ _⟩
        · have q2 : ¬ (122 : Int) < (x : Int) := by omega
          have e : lowC x = true := by unfold lowC; rw [decide_eq_true (p := 97 ≤ x) (by omega), decide_eq_true (p := x ≤ 122) (by omega)]; rfl
          rw [e, Bool.true_and]
          clear e
          generalize Lib.trimS t nameSet = r at *
          have HR : ((str r).toList == []) = decide (r = []) := by rw [toL_str]; cases r <;> rfl
          go_enter Tryd.func38, Tryd.ntmps38
          go_wp2_with fail
          refine (KT.out _).mono ?_
          rintro e w1 ⟨rfl, hb⟩
          have HB := Lib.hid hb
          clear hb g0 t1
          go_wp2_with fail
          go_ret
          exact ⟨by first | rw [HR] | rfl, HB.out⟩
end Go.Proofs.YtomjefplacgoeaaDoor
