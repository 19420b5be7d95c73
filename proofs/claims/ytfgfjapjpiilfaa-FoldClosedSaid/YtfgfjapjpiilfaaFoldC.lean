/- Layer 4: Compare, the reference's and Go's own; the reference's Sets. -/
import Derived.Test.YtfgfjapjpiilfaaFoldK
import Derived.Lib.Bytealg
import Derived.Lib.Strings
import Derived.Lib.Slices
import Derived.Lib.Walk
namespace Go.Proofs.Ytfgfjapjpiilfaa
open Go.RowKit

theorem str_toList (a : List UInt8) : (str a).toList = a := by
  rw [ByteArray.toList_eq]; rfl
theorem less_turn : ∀ x y : List UInt8, (!Op.bytesLess x y && !x == y) = Op.bytesLess y x
  | [], [] => rfl
  | [], _ :: _ => rfl
  | _ :: _, [] => rfl
  | a :: xs, b :: ys => by
    have ih := less_turn xs ys
    simp only [Op.bytesLess]
    rw [← ih]
    by_cases h1 : a < b
    · have h2 : ¬ b < a := fun h => UInt8.lt_asymm h1 h
      have hne : ¬ b = a := fun e => by subst e; exact h2 h1
      simp [h1, h2, hne]
    · by_cases h2 : b < a
      · have hne : ¬ a = b := fun e => by subst e; exact h1 h2
        simp [h1, h2, hne]
      · have e : a = b := UInt8.le_antisymm (UInt8.not_lt.1 h2) (UInt8.not_lt.1 h1)
        subst e
        simp [h1]
theorem run_gtr (w : World) (x y : List UInt8) : (binOp .gtr 9 (.string (str x)) (.string (str y))).run Try.prog w = .ok (.bool (Op.bytesLess y x)) w := by
  simp [binOp, Op.stringOp, str_toList, less_turn]
def cmpB (x y : List UInt8) : Int := if Op.bytesLess x y = true then -1 else if Op.bytesLess y x = true then 1 else 0
theorem compare_cmp : ∀ x y : List UInt8, Lib.compareBytes x y = cmpB x y
  | [], [] => rfl
  | [], _ :: _ => rfl
  | _ :: _, [] => rfl
  | a :: xs, b :: ys => by
    have ih := compare_cmp xs ys
    unfold Lib.compareBytes
    rw [ih]
    unfold cmpB
    simp only [Op.bytesLess]
    by_cases h1 : a < b
    · simp [h1]
    · by_cases h2 : b < a
      · have hne : ¬ a = b := fun e => by subst e; exact h1 h2
        simp [h1, h2, hne]
      · have e : a = b := UInt8.le_antisymm (UInt8.not_lt.1 h2) (UInt8.not_lt.1 h1)
        subst e
        simp [h1]

set_option maxRecDepth 100000 in
set_option maxHeartbeats 1000000 in
theorem cmpString_p (a b : ByteArray) (w : World) :
    Calls Try.prog 65 #[.string a, .string b] w fun e w' => e = .returned (.int .i64 (cmpB a.data.toList b.data.toList)) ∧ w = w' := by
  rw [← compare_cmp]
  go_enter Try.func65, Try.ntmps65
  go_wp2_with fail
  rw [run_callFunc_extern Try.func66 (by kernel_rfl) (by kernel_rfl) (by kernel_rfl) (e := Extern.BytealgCompare.compare) (by kernel_rfl), Lib.run_compareString]
  simp only [Result.andThen]
  rw [Oper.upon_value]
  go_wp2
  go_ret
  exact ⟨rfl, rfl⟩
theorem strCompare_p (a b : ByteArray) (w : World) :
    Calls Try.prog 58 #[.string a, .string b] w fun e w' => e = .returned (.int .i64 (cmpB a.data.toList b.data.toList)) ∧ w = w' := by
  go_enter Try.func58, Try.ntmps58
  go_wp2_with fail
  refine (cmpString_p a b _).mono ?_
  rintro e w1 ⟨rfl, rfl⟩
  go_wp2_with fail
  go_ret
  exact ⟨rfl, rfl⟩

theorem compare4 (a b : List UInt8) (w : World) (ha : a.length ≤ maxLen) (hb : b.length ≤ maxLen) :
    Calls Try.prog 41 #[.string (str a), .string (str b)] w fun e w' => e = .returned (.int .i64 (cmpB (keyL a) (keyL b))) ∧ Below w.heap.size w w' := by
  have HA := Lib.hid ha
  have HB := Lib.hid hb
  clear ha hb
  go_enter Try.func41, Try.ntmps41
  go_wp2_with fail
  refine (key4 a _ HA.out).mono ?_
  rintro e w1 ⟨rfl, hb1⟩
  have HB1 := Lib.hid hb1
  clear hb1
  go_wp2_with fail
  refine (key4 b _ HB.out).mono ?_
  rintro e w2 ⟨rfl, hb2⟩
  have HB2 := Lib.hid (next HB1.out hb2)
  clear hb2
  have hx := str_toList (keyL a)
  have hy := str_toList (keyL b)
  have hg := run_gtr w2 (keyL a) (keyL b)
  by_cases h1 : Op.bytesLess (keyL a) (keyL b) = true
  · have e : cmpB (keyL a) (keyL b) = -1 := by unfold cmpB; rw [if_pos h1]
    go_wp2_with fail
    go_ret
    exact ⟨by rw [e]; rfl, HB2.out⟩
  · have h1' : Op.bytesLess (keyL a) (keyL b) = false := by simpa using h1
    by_cases h2 : Op.bytesLess (keyL b) (keyL a) = true
    · have e : cmpB (keyL a) (keyL b) = 1 := by unfold cmpB; rw [if_neg h1, if_pos h2]
      clear h1
      go_wp2_with fail
      go_ret
      exact ⟨by rw [e]; rfl, HB2.out⟩
    · have h2' : Op.bytesLess (keyL b) (keyL a) = false := by simpa using h2
      have e : cmpB (keyL a) (keyL b) = 0 := by unfold cmpB; rw [if_neg h1, if_neg h2]
      clear h1 h2
      go_wp2_with fail
      go_ret
      exact ⟨by rw [e]; rfl, HB2.out⟩

def scells (l : List CSet) : List Value := l.flatMap fun s => (setC s).toList
theorem scells_snoc (l : List CSet) (s : CSet) : scells (l ++ [s]) = scells l ++ (setC s).toList := by simp [scells]
theorem length_scells (l : List CSet) : (scells l).length = l.length * 4 := by
  induction l with
  | nil => rfl
  | cons s l ih => simp only [scells, List.flatMap_cons, List.length_append] at ih ⊢; rw [ih]; simp [setC]; omega
def bothL (l : List UInt8) : List CSet := l.map fun b => bothS b.toNat
theorem bothL_take {l : List UInt8} {k : Nat} (hk : k < l.length) : bothL (l.take (k + 1)) = bothL (l.take k) ++ [bothS l[k].toNat] := by
  rw [List.take_succ_eq_append_getElem hk]; unfold bothL; rw [List.map_append]; rfl
theorem infoSet : (Try.prog.info? 36).map (fun i => (i.zero, i.size, i.bytes)) = some (some (setV 0#256), 4, 32) := by kernel_rfl
def setsE (l : List UInt8) : Int := if 512 < l.length then 3 else 0
def setsL (l : List UInt8) : List CSet := if 512 < l.length then [] else bothL l

set_option maxRecDepth 100000 in
set_option maxHeartbeats 1000000 in
theorem sets4 (l : List UInt8) (w : World) (hm : l.length ≤ maxLen) :
    Calls Try.prog 37 #[.string (str l)] w fun e w' => ∃ v, e = .returned (.tuple #[v, .int .i64 (setsE l)]) ∧ w'.ownsRow w.heap.size 36 4 v (setsL l).length (scells (setsL l)) ∧ Below w.heap.size w w' := by
  have hss := size_str l
  unfold maxLen at hm
  by_cases h : 512 < l.length
  · have e1 : setsE l = 3 := if_pos h
    have e2 : setsL l = [] := if_pos h
    rw [e1, e2]; clear e1 e2
    go_enter Try.func37, Try.ntmps37
    go_wp2_with fail
    go_ret2
    exact ⟨_, rfl, World.ownsRow_nil _ _ _ _, Below.refl _ _⟩
  · have e1 : setsE l = 0 := if_neg h
    have e2 : setsL l = bothL l := if_neg h
    rw [e1, e2]; clear e1 e2
    have t1 : ¬ (512 : Int) < (l.length : Int) := by omega
    obtain ⟨i0, hi0, hz0, hz1, hz2⟩ := info_parts infoSet
    go_enter Try.func37, Try.ntmps37
    go_wp2_with fail
    go_loopw [4, 5] (fun ov iv wr => ∃ k : Nat, k ≤ l.length ∧ iv = .int .i64 (k : Nat) ∧ wr.ownsRow w.heap.size 36 4 ov k (scells (bothL (l.take k))) ∧ Below w.heap.size w wr) (fun _ iv _ => l.length - (intOf iv).toNat)
    case atStart => exact ⟨0, by omega, rfl, World.ownsRow_nil _ _ _ _, Below.refl _ _⟩
    case round =>
      obtain ⟨k, hk, rfl, hown, hB⟩ := hrel
      by_cases hlt : k < l.length
      · have i1 : (0 : Int) ≤ (k : Int) := by omega
        have i2 : (k : Int) < (l.length : Int) := by omega
        have lb : l[k].toNat < 256 := l[k].toNat_lt
        have g1 : k < (str l).size := by omega
        have hc : ∀ w, Calls Try.prog 31 #[.int .u8 (((str l)[k]'g1).toNat : Int)] w _ := fun w => both4 l[k].toNat lb w
        have HTK := Lib.hid (bothL_take hlt)
        go_wp2_with fail
        refine (hc _).mono ?_
        rintro e w1 ⟨rfl, hb1⟩
        have hown1 := ownsRow_below hown hb1
        have hB1 := next hB hb1
        have hz := hB1.size
        have hHc := Lib.hid hc
        clear hc
        generalize bothS l[k].toNat = s at *
        unfold setV setC
        go_wp2_with (at_builtin; refine wpList_append_own _ rfl _ _ 46 rfl w.heap.size 36 i0 _ 4 32 Try.underlying46 hi0 hz0 hz1 hz2 rfl (by decide) _ _ _ rfl (hown1.alloc _) ⟨w1.heap.size, 0, none⟩ 1 1 (setC s).toList rfl rfl (cells_new _ _ _) (by simp [Value.oneCell', setC]) (by unfold maxLen; omega) (by omega) (by simp; omega) ?_; intro v' w2 hown' hgrow _)
        refine ⟨⟨k + 1, by omega, by go_num, by rw [HTK.out, scells_snoc]; exact hown', ?_⟩, by simp [intOf]; omega⟩
        exact hB1.trans (((Below.refl _ w1).alloc (by omega) _).grown hgrow (by simp; omega) fun q e => (hown1.lt q e).1)
      · obtain rfl : l.length = k := by omega
        rw [List.take_length] at hown
        go_wp2_with fail
        go_ret2
        exact ⟨_, rfl, by simpa [bothL] using hown, hB⟩

end Go.Proofs.Ytfgfjapjpiilfaa
