/- classes.write: the text of a byte. -/
import Derived.Test.YtooiegejchcbhaaDoorKBuild
import Derived.Test.YtooiegejchcbhaaDoorHasP
namespace Go.Proofs.YtooiegejchcbhaaDoor
open Go.RowKit

def hexN (k : Nat) : Nat := if k < 10 then 48 + k else 87 + k
def specN (n : Nat) : Bool := n == 91 || n == 93 || n == 92 || n == 94 || n == 45
def textB (n : Nat) : List UInt8 :=
  if specN n = true then [92, UInt8.ofNat n] else if 32 < n ∧ n < 127 then [UInt8.ofNat n] else [92, 120, UInt8.ofNat (hexN (n / 16)), UInt8.ofNat (hexN (n % 16))]
theorem textB_len (n : Nat) : (textB n).length ≤ 4 := by
  unfold textB
  split
  · simp
  · split <;> simp
def signs16 : ByteArray := ⟨#[48, 49, 50, 51, 52, 53, 54, 55, 56, 57, 97, 98, 99, 100, 101, 102]⟩
def marks5 : ByteArray := ⟨#[91, 93, 92, 94, 45]⟩
theorem marks_at : ∀ n : Fin 256, decide (0 ≤ Lib.indexByte [91, 93, 92, 94, 45] ((n.1 : Int).toNat.toUInt8)) = specN n.1 := by decide +kernel
theorem u8_and15_all : ∀ n : Fin 256, bits .and .u8 (n.1 : Int) 15 = ((n.1 % 16 : Nat) : Int) := by decide +kernel
theorem sign0 (w : World) : (Instr.index 9 (.string ⟨#[48, 49, 50, 51, 52, 53, 54, 55, 56, 57, 97, 98, 99, 100, 101, 102]⟩) (.int .u8 0)).run Tryd.prog w = .ok (.int .u8 48) w := by kernel_rfl
theorem sign1 (w : World) : (Instr.index 9 (.string ⟨#[48, 49, 50, 51, 52, 53, 54, 55, 56, 57, 97, 98, 99, 100, 101, 102]⟩) (.int .u8 1)).run Tryd.prog w = .ok (.int .u8 49) w := by kernel_rfl
theorem sign2 (w : World) : (Instr.index 9 (.string ⟨#[48, 49, 50, 51, 52, 53, 54, 55, 56, 57, 97, 98, 99, 100, 101, 102]⟩) (.int .u8 2)).run Tryd.prog w = .ok (.int .u8 50) w := by kernel_rfl
theorem sign3 (w : World) : (Instr.index 9 (.string ⟨#[48, 49, 50, 51, 52, 53, 54, 55, 56, 57, 97, 98, 99, 100, 101, 102]⟩) (.int .u8 3)).run Tryd.prog w = .ok (.int .u8 51) w := by kernel_rfl
theorem sign4 (w : World) : (Instr.index 9 (.string ⟨#[48, 49, 50, 51, 52, 53, 54, 55, 56, 57, 97, 98, 99, 100, 101, 102]⟩) (.int .u8 4)).run Tryd.prog w = .ok (.int .u8 52) w := by kernel_rfl
theorem sign5 (w : World) : (Instr.index 9 (.string ⟨#[48, 49, 50, 51, 52, 53, 54, 55, 56, 57, 97, 98, 99, 100, 101, 102]⟩) (.int .u8 5)).run Tryd.prog w = .ok (.int .u8 53) w := by kernel_rfl
theorem sign6 (w : World) : (Instr.index 9 (.string ⟨#[48, 49, 50, 51, 52, 53, 54, 55, 56, 57, 97, 98, 99, 100, 101, 102]⟩) (.int .u8 6)).run Tryd.prog w = .ok (.int .u8 54) w := by kernel_rfl
theorem sign7 (w : World) : (Instr.index 9 (.string ⟨#[48, 49, 50, 51, 52, 53, 54, 55, 56, 57, 97, 98, 99, 100, 101, 102]⟩) (.int .u8 7)).run Tryd.prog w = .ok (.int .u8 55) w := by kernel_rfl
theorem sign8 (w : World) : (Instr.index 9 (.string ⟨#[48, 49, 50, 51, 52, 53, 54, 55, 56, 57, 97, 98, 99, 100, 101, 102]⟩) (.int .u8 8)).run Tryd.prog w = .ok (.int .u8 56) w := by kernel_rfl
theorem sign9 (w : World) : (Instr.index 9 (.string ⟨#[48, 49, 50, 51, 52, 53, 54, 55, 56, 57, 97, 98, 99, 100, 101, 102]⟩) (.int .u8 9)).run Tryd.prog w = .ok (.int .u8 57) w := by kernel_rfl
theorem sign10 (w : World) : (Instr.index 9 (.string ⟨#[48, 49, 50, 51, 52, 53, 54, 55, 56, 57, 97, 98, 99, 100, 101, 102]⟩) (.int .u8 10)).run Tryd.prog w = .ok (.int .u8 97) w := by kernel_rfl
theorem sign11 (w : World) : (Instr.index 9 (.string ⟨#[48, 49, 50, 51, 52, 53, 54, 55, 56, 57, 97, 98, 99, 100, 101, 102]⟩) (.int .u8 11)).run Tryd.prog w = .ok (.int .u8 98) w := by kernel_rfl
theorem sign12 (w : World) : (Instr.index 9 (.string ⟨#[48, 49, 50, 51, 52, 53, 54, 55, 56, 57, 97, 98, 99, 100, 101, 102]⟩) (.int .u8 12)).run Tryd.prog w = .ok (.int .u8 99) w := by kernel_rfl
theorem sign13 (w : World) : (Instr.index 9 (.string ⟨#[48, 49, 50, 51, 52, 53, 54, 55, 56, 57, 97, 98, 99, 100, 101, 102]⟩) (.int .u8 13)).run Tryd.prog w = .ok (.int .u8 100) w := by kernel_rfl
theorem sign14 (w : World) : (Instr.index 9 (.string ⟨#[48, 49, 50, 51, 52, 53, 54, 55, 56, 57, 97, 98, 99, 100, 101, 102]⟩) (.int .u8 14)).run Tryd.prog w = .ok (.int .u8 101) w := by kernel_rfl
theorem sign15 (w : World) : (Instr.index 9 (.string ⟨#[48, 49, 50, 51, 52, 53, 54, 55, 56, 57, 97, 98, 99, 100, 101, 102]⟩) (.int .u8 15)).run Tryd.prog w = .ok (.int .u8 102) w := by kernel_rfl
theorem sign_at (w : World) (k : Nat) (hk : k < 16) : (Instr.index 9 (.string ⟨#[48, 49, 50, 51, 52, 53, 54, 55, 56, 57, 97, 98, 99, 100, 101, 102]⟩) (.int .u8 (k : Int))).run Tryd.prog w = .ok (.int .u8 (hexN k : Int)) w := by
  have hc : k = 0 ∨ k = 1 ∨ k = 2 ∨ k = 3 ∨ k = 4 ∨ k = 5 ∨ k = 6 ∨ k = 7 ∨ k = 8 ∨ k = 9 ∨ k = 10 ∨ k = 11 ∨ k = 12 ∨ k = 13 ∨ k = 14 ∨ k = 15 := by omega
  rcases hc with rfl | rfl | rfl | rfl | rfl | rfl | rfl | rfl | rfl | rfl | rfl | rfl | rfl | rfl | rfl | rfl
  · exact sign0 w
  · exact sign1 w
  · exact sign2 w
  · exact sign3 w
  · exact sign4 w
  · exact sign5 w
  · exact sign6 w
  · exact sign7 w
  · exact sign8 w
  · exact sign9 w
  · exact sign10 w
  · exact sign11 w
  · exact sign12 w
  · exact sign13 w
  · exact sign14 w
  · exact sign15 w
theorem sign_get (k : Nat) (hk : k < 16) (h : k < (⟨#[48, 49, 50, 51, 52, 53, 54, 55, 56, 57, 97, 98, 99, 100, 101, 102]⟩ : ByteArray).size) : ((⟨#[48, 49, 50, 51, 52, 53, 54, 55, 56, 57, 97, 98, 99, 100, 101, 102]⟩ : ByteArray)[k]'h).toNat = hexN k := by
  have hc : k = 0 ∨ k = 1 ∨ k = 2 ∨ k = 3 ∨ k = 4 ∨ k = 5 ∨ k = 6 ∨ k = 7 ∨ k = 8 ∨ k = 9 ∨ k = 10 ∨ k = 11 ∨ k = 12 ∨ k = 13 ∨ k = 14 ∨ k = 15 := by omega
  rcases hc with rfl | rfl | rfl | rfl | rfl | rfl | rfl | rfl | rfl | rfl | rfl | rfl | rfl | rfl | rfl | rfl <;> rfl
theorem cellsB (n : Nat) (h : n < 256) (l : List UInt8) : Lib.byteCells l ++ [.int .u8 (n : Int)] = Lib.byteCells (l ++ [UInt8.ofNat n]) := by
  unfold Lib.byteCells
  rw [List.map_append]
  simp only [List.map_cons, List.map_nil]
  rw [UInt8.toNat_ofNat_of_lt' (by simpa using h)]
theorem byteCells_append (a b : List UInt8) : Lib.byteCells (a ++ b) = Lib.byteCells a ++ Lib.byteCells b := by unfold Lib.byteCells; rw [List.map_append]
theorem hexN_lt (k : Nat) (h : k < 16) : hexN k < 256 := by unfold hexN; split <;> omega
theorem strCells_x : Lib.strCells ⟨#[92, 120]⟩ = Lib.byteCells [92, 120] := rfl
theorem BldP.trans {b : Nat} {bs cs : List Value} {w w1 w2 : World} (h1 : BldP b bs w w1) (h2 : BldP b cs w1 w2) : BldP b cs w w2 := ⟨h2.1, h1.2.1.trans h2.2.1, h1.2.2.trans h2.2.2⟩

set_option maxHeartbeats 2000000 in
set_option maxRecDepth 100000 in
theorem write_p (b n : Nat) (hn : n < 256) (l : List UInt8) (w : World) (h : Bld b (Lib.byteCells l) w) (hlen : l.length ≤ 900000) :
    Calls Tryd.prog 41 #[.pointer (some ⟨b, 0, none⟩), .int .u8 (n : Int)] w fun e w' => e = .returned (.tuple #[]) ∧ BldP b (Lib.byteCells (l ++ textB n)) w w' := by
  have hm := marks_at ⟨n, hn⟩
  simp only at hm
  have n0 : (0 : Int) ≤ (n : Int) := by omega
  have n1 : (n : Int) ≤ 255 := by omega
  have H := Lib.hid h
  have K1 := Lib.hid (fun bs c w h hl => writeByte_p b bs c w h hl)
  have KI := Lib.hid (fun w => indexByte_p ⟨#[91, 93, 92, 94, 45]⟩ (n : Int) w)
  have hbl : ∀ l : List UInt8, (Lib.byteCells l).length = l.length := fun l => Lib.byteCells_length l
  have HBL := Lib.hid hbl
  have HT : Hid (textB n = if specN n = true then [92, UInt8.ofNat n] else if 32 < n ∧ n < 127 then [UInt8.ofNat n] else [92, 120, UInt8.ofNat (hexN (n / 16)), UInt8.ofNat (hexN (n % 16))]) := Lib.hid rfl
  clear h hbl
  go_enter Tryd.func41, Tryd.ntmps41
  go_wp2_with fail
  refine (KI.out _).mono ?_
  rintro e w1 ⟨rfl, rfl⟩
  simp only at *
  generalize Lib.indexByte _ _ = z at *
  cases hs : specN n with
  | true =>
    rw [hs] at hm
    have hm' : 0 ≤ z := of_decide_eq_true hm
    have HS := Lib.hid hs
    clear hm hs
    go_wp2_with fail
    refine (K1.out _ _ _ H.out (by rw [HBL.out]; omega)).mono ?_
    rintro e w1 ⟨rfl, h1⟩
    have H1 := Lib.hid h1
    clear h1
    go_wp2_with fail
    refine (K1.out _ _ _ H1.out.1 (by rw [List.length_append, HBL.out]; simp; omega)).mono ?_
    rintro e w2 ⟨rfl, h2⟩
    have H2 := Lib.hid (H1.out.trans h2)
    clear h2
    go_wp2_with fail
    go_end0
    refine ⟨rfl, ?_⟩
    have h9 := H2.out
    rw [show (Value.int .u8 92) = .int .u8 ((92 : Nat) : Int) from rfl, cellsB 92 (by decide), cellsB n hn, List.append_assoc] at h9
    rw [HT.out, if_pos HS.out]
    exact h9
  | false =>
    rw [hs] at hm
    have hm' : ¬ 0 ≤ z := of_decide_eq_false hm
    have HS := Lib.hid (show ¬ specN n = true by rw [hs]; decide)
    clear hm hs
    by_cases hp : 32 < n ∧ n < 127
    · obtain ⟨p1, p2⟩ := hp
      have q1 : (32 : Int) < (n : Int) := by omega
      have q2 : (n : Int) < 127 := by omega
      have HP := Lib.hid (show 32 < n ∧ n < 127 from ⟨p1, p2⟩)
      clear p1 p2
      go_wp2_with fail
      refine (K1.out _ _ _ H.out (by rw [HBL.out]; omega)).mono ?_
      rintro e w1 ⟨rfl, h1⟩
      have H1 := Lib.hid h1
      clear h1
      go_wp2_with fail
      go_end0
      refine ⟨rfl, ?_⟩
      have h9 := H1.out
      rw [cellsB n hn] at h9
      rw [HT.out, if_neg HS.out, if_pos HP.out]
      exact h9
    · have HP := Lib.hid hp
      have q1 : IntKind.u8.wrap 0 = 0 := rfl
      have hx1 := fun w => sign_at w (n / 16) (by omega)
      have hx2 := fun w => sign_at w (n % 16) (by omega)
      rw [show ((n / 16 : Nat) : Int) = (n : Int) / 16 by omega] at hx1
      have hb := u8_and15_all ⟨n, hn⟩
      simp only at hb
      have b1 := hexN_lt (n / 16) (by omega)
      have b2 := hexN_lt (n % 16) (by omega)
      have HB1 := Lib.hid b1
      have HB2 := Lib.hid b2
      have KS := Lib.hid (fun bs s w h hl hs => writeString_p b bs s w h hl hs)
      have hq : (¬ (32 : Int) < (n : Int)) ∨ ((32 : Int) < (n : Int) ∧ ¬ (n : Int) < 127) := by omega
      have fin : ∀ w', BldP b (Lib.byteCells l ++ Lib.strCells ⟨#[92, 120]⟩ ++ [.int .u8 (hexN (n / 16) : Int)] ++ [.int .u8 (hexN (n % 16) : Int)]) w w' → BldP b (Lib.byteCells (l ++ textB n)) w w' := fun w' h9 => by
        rw [strCells_x, ← byteCells_append, cellsB _ HB1.out, cellsB _ HB2.out, List.append_assoc, List.append_assoc] at h9
        rw [HT.out, if_neg HS.out, if_neg HP.out]
        exact h9
      have FIN := Lib.hid fin
      have HY := Lib.hid (sign_get (n % 16) (by omega))
      generalize hexN (n / 16) = x at *
      generalize hexN (n % 16) = y at *
      clear hp b1 b2 fin HB1 HB2
      rcases hq with q | ⟨q, q'⟩
      all_goals
        go_wp2_with fail
        refine (KS.out _ _ _ H.out (by rw [HBL.out]; omega) (by decide)).mono ?_
        rintro e w1 ⟨rfl, h1⟩
        have H1 := Lib.hid h1
        clear h1
        go_wp2_with fail
        refine (K1.out _ _ _ H1.out.1 (by rw [List.length_append, HBL.out, strCells_x, HBL.out]; simp; omega)).mono ?_
        rintro e w2 ⟨rfl, h2⟩
        have H2 := Lib.hid (H1.out.trans h2)
        clear h2
        go_wp2_with fail
        refine (K1.out _ _ _ H2.out.1 (by rw [List.length_append, List.length_append, HBL.out, strCells_x, HBL.out]; simp; omega)).mono ?_
        rintro e w3 ⟨rfl, h3⟩
        have H3 := Lib.hid (H2.out.trans h3)
        clear h3
        go_wp2_with fail
        go_end0
        have h9 := H3.out
        first | exact ⟨rfl, FIN.out _ h9⟩ | (rw [HY.out] at h9; exact ⟨rfl, FIN.out _ h9⟩)
end Go.Proofs.YtooiegejchcbhaaDoor
