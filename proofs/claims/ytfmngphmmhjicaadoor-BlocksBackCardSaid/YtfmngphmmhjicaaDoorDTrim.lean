/- strings.Trim at one zero byte. -/
import Derived.Test.YtfmngphmmhjicaaDoorProg
import Derived.Test.YtfmngphmmhjicaaDoorRow
import Derived.Deep.QuietTactic
import Derived.BigQuiet
import Derived.Lib.QuietBelow
namespace Go.Proofs.YtfmngphmmhjicaaDoor
open Go.RowKit

def trimR (l : List UInt8) : List UInt8 := (l.reverse.dropWhile (· == 0)).reverse
def trimL (l : List UInt8) : List UInt8 := l.dropWhile (· == 0)
theorem trimR_zero (m : List UInt8) : trimR (m ++ [0]) = trimR m := by simp [trimR]
theorem trimR_other (m : List UInt8) {x : UInt8} (h : x ≠ 0) : trimR (m ++ [x]) = m ++ [x] := by
  unfold trimR
  rw [List.reverse_append, List.reverse_singleton, List.singleton_append, List.dropWhile_cons, if_neg (by simpa using h)]
  simp
theorem trimL_nil (l : List UInt8) : trimL l = [] ↔ l.all (· == 0) = true := by
  induction l with
  | nil => simp [trimL]
  | cons x l ih =>
    unfold trimL at *
    rw [List.dropWhile_cons, List.all_cons]
    by_cases h : x = 0
    · subst h; simpa using ih
    · have : (x == 0) = false := beq_eq_false_iff_ne.2 h
      simp [this]
theorem trim_nil (l : List UInt8) : trimL (trimR l) = [] ↔ l.all (· == 0) = true := by
  rw [trimL_nil]
  obtain ⟨r, rfl⟩ : ∃ r : List UInt8, l = r.reverse := ⟨l.reverse, by simp⟩
  induction r with
  | nil => simp [trimR]
  | cons x r ih =>
    rw [List.reverse_cons]
    by_cases h : x = 0
    · subst h; rw [trimR_zero, ih]; simp
    · rw [trimR_other _ h]
def lenV : Value → Nat
  | .string s => s.size
  | _ => 0
theorem last_at {m : List UInt8} {k : Nat} (h : m.length = k + 1) : m = m.take k ++ [m.getD k 0] := by
  have hk : k < m.length := by omega
  have e := List.take_succ_eq_append_getElem hk
  rw [List.take_of_length_le (by omega)] at e
  rw [List.getD_eq_getElem?_getD, List.getElem?_eq_getElem hk]
  exact e
theorem str_at {m : List UInt8} {k : Nat} (h : k < (str m).size) : ((str m)[k]'h) = m.getD k 0 := by
  have hk : k < m.length := by rwa [size_str] at h
  rw [List.getD_eq_getElem?_getD, List.getElem?_eq_getElem hk]
  rfl

set_option maxRecDepth 100000 in
set_option maxHeartbeats 1000000 in
theorem trimRight_p (l : List UInt8) (hl : l.length ≤ 1000) (w : World) :
    Calls Tryd.prog 27 #[.string (str l), .int .u8 0] w fun e w' => e = .returned (.string (str (trimR l))) ∧ w = w' := by
  go_enter Tryd.func27, Tryd.ntmps27
  go_wp2_with fail
  go_loopw [0] (fun v wr => ∃ m : List UInt8, m.length ≤ l.length ∧ v = .string (str m) ∧ trimR m = trimR l ∧ w = wr) (fun v _ => lenV v)
  case atStart => exact ⟨l, by omega, rfl, rfl, rfl⟩
  case round =>
    obtain ⟨m, hm, rfl, hmt, rfl⟩ := hrel
    have hst := size_str m
    by_cases h0 : m.length = 0
    · obtain rfl := List.length_eq_zero_iff.1 h0
      have HT := Lib.hid hmt
      have z0 : (str []).size = 0 := rfl
      clear h0 hst hmt
      go_wp2_with fail
      go_ret
      exact ⟨by rw [← HT.out]; rfl, rfl⟩
    · obtain ⟨k, hk⟩ : ∃ k, m.length = k + 1 := ⟨m.length - 1, by omega⟩
      have hla := last_at hk
      have g0 := fun (h : k < (str m).size) => str_at (m := m) (k := k) h
      have hex := extract_str m 0 k
      rw [List.drop_zero] at hex
      have HL := Lib.hid hla
      have HT := Lib.hid hmt
      have wk : IntKind.i64.wrap ((k : Int) + 1 - 1) = (k : Int) := (IntWalk.i64_in _ (by omega)).trans (by omega)
      have k0 : (0 : Int) ≤ (k : Int) := by omega
      have k1 : (k : Int) < (k : Int) + 1 := by omega
      have k2 : (k : Int) ≤ (k : Int) + 1 := by omega
      generalize m.getD k 0 = x at *
      rw [hk] at hst
      by_cases hx : x = 0
      · have t1 : ((x.toNat : Int) == 0) = true := by rw [hx]; rfl
        have HX := Lib.hid hx
        clear hx hla hmt h0
        go_wp2_with fail
        have hs2 := size_str (m.take k)
        exact ⟨⟨m.take k, by rw [List.length_take]; omega, rfl, by rw [← HT.out, HL.out, HX.out, trimR_zero, List.take_left' (by rw [List.length_take]; omega)], by trivial⟩, by simp [lenV, size_str]; omega⟩
      · have t1 : ((x.toNat : Int) == 0) = false := beq_eq_false_iff_ne.2 (fun h => hx (UInt8.toNat_inj.1 (by simpa using h)))
        have HX := Lib.hid hx
        clear hx hla hmt h0
        go_wp2_with fail
        go_ret
        have e9 := trimR_other (m.take k) HX.out
        rw [← HL.out] at e9
        exact ⟨by rw [← HT.out, e9]; rfl, rfl⟩

theorem trimL_zero (m : List UInt8) : trimL (0 :: m) = trimL m := by simp [trimL]
theorem trimL_other (m : List UInt8) {x : UInt8} (h : x ≠ 0) : trimL (x :: m) = x :: m := by simp [trimL, List.dropWhile_cons, h]

set_option maxRecDepth 100000 in
set_option maxHeartbeats 1000000 in
theorem trimLeft_p (l : List UInt8) (hl : l.length ≤ 1000) (w : World) :
    Calls Tryd.prog 26 #[.string (str l), .int .u8 0] w fun e w' => e = .returned (.string (str (trimL l))) ∧ w = w' := by
  go_enter Tryd.func26, Tryd.ntmps26
  go_wp2_with fail
  go_loopw [0] (fun v wr => ∃ m : List UInt8, m.length ≤ l.length ∧ v = .string (str m) ∧ trimL m = trimL l ∧ w = wr) (fun v _ => lenV v)
  case atStart => exact ⟨l, by omega, rfl, rfl, rfl⟩
  case round =>
    obtain ⟨m, hm, rfl, hmt, rfl⟩ := hrel
    have hst := size_str m
    by_cases h0 : m.length = 0
    · obtain rfl := List.length_eq_zero_iff.1 h0
      have HT := Lib.hid hmt
      have z0 : (str []).size = 0 := rfl
      clear h0 hst hmt
      go_wp2_with fail
      go_ret
      exact ⟨by rw [← HT.out]; rfl, rfl⟩
    · obtain ⟨x, t, rfl⟩ : ∃ x t, m = x :: t := by cases m with
        | nil => exact absurd rfl h0
        | cons x t => exact ⟨x, t, rfl⟩
      have g0 := fun (h : 0 < (str (x :: t)).size) => str_at (m := x :: t) (k := 0) h
      simp only [List.getD_cons_zero] at g0
      have hex := str_drop (x :: t) 1 (t.length + 1) (by simp)
      rw [List.drop_succ_cons, List.drop_zero] at hex
      have HT := Lib.hid hmt
      rw [List.length_cons] at hst
      have k0 : (0 : Int) < (t.length : Int) + 1 := by omega
      have k1 : (1 : Int) ≤ (t.length : Int) + 1 := by omega
      have HM := Lib.hid hm
      by_cases hx : x = 0
      · have t1 : ((x.toNat : Int) == 0) = true := by rw [hx]; rfl
        have HX := Lib.hid hx
        clear hx hmt h0 hm
        go_wp2_with fail
        exact ⟨⟨t, by have := HM.out; simp at this; omega, rfl, by rw [← HT.out, HX.out, trimL_zero], by trivial⟩, by simp [lenV, size_str]⟩
      · have t1 : ((x.toNat : Int) == 0) = false := beq_eq_false_iff_ne.2 (fun h => hx (UInt8.toNat_inj.1 (by simpa using h)))
        have HX := Lib.hid hx
        clear hx hmt h0 hm
        go_wp2_with fail
        go_ret
        exact ⟨by rw [← HT.out, trimL_other _ HX.out]; rfl, rfl⟩

theorem trimR_len (l : List UInt8) : (trimR l).length ≤ l.length := by
  unfold trimR
  rw [List.length_reverse]
  exact Nat.le_trans (List.Sublist.length_le (List.dropWhile_sublist _)) (by simp)

set_option maxRecDepth 100000 in
set_option maxHeartbeats 1000000 in
theorem trim_p (l : List UInt8) (hl : l.length ≤ 1000) (w : World) :
    Calls Tryd.prog 24 #[.string (str l), .string ⟨#[0]⟩] w fun e w' => e = .returned (.string (str (trimL (trimR l)))) ∧ Below w.heap.size w w' := by
  have hst := size_str l
  have C1 := Lib.hid (fun w => trimRight_p l hl w)
  have C2 := Lib.hid (fun w => trimLeft_p (trimR l) (Nat.le_trans (trimR_len l) hl) w)
  by_cases h0 : l = []
  · subst h0
    have e1 : str [] = ⟨#[]⟩ := rfl
    have e2 : trimL (trimR []) = [] := rfl
    rw [e2]
    clear C1 C2 hst
    rw [e1]
    go_enter Tryd.func24, Tryd.ntmps24
    go_wp2_with fail
    go_ret
    exact ⟨rfl, Below.refl _ _⟩
  · have e1 : (str l).toList = l := by rw [ByteArray.toList_eq]; rfl
    have t1 : ((str l).toList == []) = false := by rw [e1, beq_eq_false_iff_ne]; exact h0
    clear e1
    clear h0
    generalize trimR l = m at *
    generalize trimL m = q at *
    go_enter Tryd.func24, Tryd.ntmps24
    go_wp2_with fail
    go_region_with (first
      | (go_at_call 27; refine (C1.out _).mono ?_; rintro e w1 ⟨rfl, rfl⟩)
      | (go_at_call 26; refine (C2.out _).mono ?_; rintro e w1 ⟨rfl, rfl⟩))
    all_goals
      go_wp2_with fail
      go_ret
      exact ⟨rfl, (Below.refl _ _).drew⟩
end Go.Proofs.YtfmngphmmhjicaaDoor
