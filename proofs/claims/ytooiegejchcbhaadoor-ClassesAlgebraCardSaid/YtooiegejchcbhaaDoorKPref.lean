/- strings.HasPrefix, CutPrefix, at a prefix of one byte; what Prefix computes. -/
import Derived.Test.YtooiegejchcbhaaDoorKRead
namespace Go.Proofs.YtooiegejchcbhaaDoor
open Go.RowKit

def headB (t : List UInt8) (c : UInt8) : Bool := t.head? == some c
theorem str1_toList (x : UInt8) : (str [x]).toList = [x] := by rw [ByteArray.toList_eq]; rfl
set_option maxHeartbeats 1000000 in
theorem slHas_p (t : List UInt8) (c : UInt8) (ht : t.length ≤ 1000000000) (w : World) :
    Calls Tryd.prog 59 #[.string (str t), .string ⟨#[c]⟩] w fun e w' => e = .returned (.bool (headB t c)) ∧ w = w' := by
  have hst := size_str t
  have hs1 : (⟨#[c]⟩ : ByteArray).size = 1 := rfl
  cases t with
  | nil =>
    go_enter Tryd.func59, Tryd.ntmps59
    go_wp2_with fail
    go_ret
    exact ⟨rfl, rfl⟩
  | cons x r =>
    have q1 : (1 : Int) ≤ ((x :: r).length : Int) := by simp; omega
    have hex := extract_str (x :: r) 0 1
    have HB := Lib.hid (show headB (x :: r) c = ((str [x]).toList == [c]) by rw [str1_toList]; simp [headB])
    go_enter Tryd.func59, Tryd.ntmps59
    go_wp2_with fail
    go_ret
    exact ⟨by rw [HB.out]; rfl, rfl⟩
theorem has1_p (t : List UInt8) (c : UInt8) (ht : t.length ≤ 1000000000) (w : World) :
    Calls Tryd.prog 44 #[.string (str t), .string ⟨#[c]⟩] w fun e w' => e = .returned (.bool (headB t c)) ∧ w = w' := by
  have K := Lib.hid (fun w => slHas_p t c ht w)
  go_enter Tryd.func44, Tryd.ntmps44
  go_wp2_with fail
  refine (K.out _).mono ?_
  rintro e w1 ⟨rfl, rfl⟩
  go_wp2_with fail
  go_ret
  exact ⟨rfl, rfl⟩
def cutV (t : List UInt8) (c : UInt8) : List UInt8 := if headB t c = true then t.tail else t
set_option maxHeartbeats 1000000 in
theorem slCut_p (t : List UInt8) (c : UInt8) (ht : t.length ≤ 1000000000) (w : World) :
    Calls Tryd.prog 58 #[.string (str t), .string ⟨#[c]⟩] w fun e w' => e = .returned (.tuple #[.string (str (cutV t c)), .bool (headB t c)]) ∧ w = w' := by
  have hst := size_str t
  have hs1 : (⟨#[c]⟩ : ByteArray).size = 1 := rfl
  have K := Lib.hid (fun w => slHas_p t c ht w)
  cases hh : headB t c with
  | true =>
    rw [hh] at K
    have hv : cutV t c = t.tail := by unfold cutV; rw [if_pos hh]
    rw [hv]
    have h1 : 1 ≤ t.length := by
      cases t with
      | nil => simp [headB] at hh
      | cons _ _ => simp
    have q1 : (1 : Int) ≤ (t.length : Int) := by omega
    have hex := str_drop t 1 t.length (Nat.le_refl _)
    clear hv hh
    go_enter Tryd.func58, Tryd.ntmps58
    go_wp2_with fail
    refine (K.out _).mono ?_
    rintro e w1 ⟨rfl, rfl⟩
    go_wp2_with fail
    go_ret2
    exact ⟨rfl, rfl⟩
  | false =>
    rw [hh] at K
    have hv : cutV t c = t := by unfold cutV; rw [if_neg (by rw [hh]; decide)]
    rw [hv]
    clear hv hh
    go_enter Tryd.func58, Tryd.ntmps58
    go_wp2_with fail
    refine (K.out _).mono ?_
    rintro e w1 ⟨rfl, rfl⟩
    go_wp2_with fail
    go_ret2
    exact ⟨rfl, rfl⟩
theorem cut1_p (t : List UInt8) (c : UInt8) (ht : t.length ≤ 1000000000) (w : World) :
    Calls Tryd.prog 43 #[.string (str t), .string ⟨#[c]⟩] w fun e w' => e = .returned (.tuple #[.string (str (cutV t c)), .bool (headB t c)]) ∧ w = w' := by
  have K := Lib.hid (fun w => slCut_p t c ht w)
  go_enter Tryd.func43, Tryd.ntmps43
  go_wp2_with fail
  refine (K.out _).mono ?_
  rintro e w1 ⟨rfl, rfl⟩
  go_wp2_with fail
  go_ret2
  exact ⟨rfl, rfl⟩

theorem read_next {t : List UInt8} {i : Nat} (hi : i < t.length) (h : (readV t i).2.2 = true) : i < (readV t i).2.1 ∧ (readV t i).2.1 ≤ t.length ∧ (readV t i).1 < 256 := by
  have b0 := byt_lt t i
  have b1 := byt_lt t (i + 1)
  unfold readV at h ⊢
  split at h
  · simp at h
  · rename_i h1
    rw [if_neg h1]
    split at h
    · rename_i h2
      rw [if_pos h2]
      split at h
      · simp at h
      · rename_i h3
        rw [if_neg h3]
        exact ⟨by simp only; omega, by simp only; omega, b0⟩
    · rename_i h2
      rw [if_neg h2]
      split at h
      · simp at h
      · rename_i h3
        rw [if_neg h3]
        split at h
        · rename_i h4
          rw [if_pos h4]
          exact ⟨by simp only; omega, by simp only; omega, b1⟩
        · rename_i h4
          rw [if_neg h4]
          split at h
          · simp at h
          · rename_i h5
            rw [if_neg h5]
            split at h
            · simp at h
            · rename_i h6
              rw [if_neg h6]
              split at h
              · simp at h
              · rename_i h7
                rw [if_neg h7]
                split at h
                · simp at h
                · rename_i h8
                  rw [if_neg h8]
                  split at h
                  · simp at h
                  · rename_i h9
                    rw [if_neg h9]
                    have v2 := hexVal_n _ (byt_lt t (i + 2)) (by simpa using h7)
                    have v3 := hexVal_n _ (byt_lt t (i + 3)) (by simpa using h9)
                    exact ⟨by simp only; omega, by simp only; omega, by simp only; omega⟩

/-- the items of a text, from a place on -/
def prefV (t : List UInt8) (no : Bool) : Nat → Nat → CSet → CSet × Nat × Int
  | 0, _, _ => (0#256, 0, 0)
  | f + 1, i, s =>
    if i < t.length ∧ byt t i ≠ 93 then
      if (readV t i).2.2 = false then (0#256, (readV t i).2.1, 6)
      else if (readV t i).2.1 < t.length ∧ byt t (readV t i).2.1 = 45 then
        if (readV t ((readV t i).2.1 + 1)).2.2 = false then (0#256, (readV t ((readV t i).2.1 + 1)).2.1, 6)
        else if (readV t ((readV t i).2.1 + 1)).1 < (readV t i).1 then (0#256, (readV t i).2.1 + 1, 6)
        else prefV t no f (readV t ((readV t i).2.1 + 1)).2.1 (s ||| rangeS ((readV t i).1 : Int) ((readV t ((readV t i).2.1 + 1)).1 : Int))
      else prefV t no f (readV t i).2.1 (s ||| rangeS ((readV t i).1 : Int) ((readV t i).1 : Int))
    else if t.length ≤ i then (0#256, t.length, 6)
    else (if no then ~~~s else s, i + 1, 0)
def prefixV (t : List UInt8) : CSet × Nat × Int :=
  if headB t 91 = false then (0#256, 0, 6)
  else prefV t (headB t.tail 94) (t.length + 1) (if headB t.tail 94 = true then 2 else 1) 0#256
def parseV (t : List UInt8) : CSet × Nat × Int :=
  if (prefixV t).2.2 ≠ 0 then (0#256, (prefixV t).2.1, (prefixV t).2.2) else if (prefixV t).2.1 < t.length then (0#256, (prefixV t).2.1, 6) else ((prefixV t).1, 0, 0)
end Go.Proofs.YtooiegejchcbhaaDoor
