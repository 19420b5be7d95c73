/- classes.read: the text of a byte, read. -/
import Derived.Test.YtooiegejchcbhaaDoorKWrite
namespace Go.Proofs.YtooiegejchcbhaaDoor
open Go.RowKit

def byt (t : List UInt8) (i : Nat) : Nat := (t.getD i 0).toNat
theorem byt_lt (t : List UInt8) (i : Nat) : byt t i < 256 := UInt8.toNat_lt _
theorem byt_at {t : List UInt8} {i : Nat} (h : i < (str t).size) : ((str t)[i]'h).toNat = byt t i := by
  have hl : i < t.length := by rw [size_str] at h; exact h
  unfold byt
  rw [List.getD_eq_getElem?_getD, List.getElem?_eq_getElem hl]
  rfl
def hexOk (n : Nat) : Bool := (decide (48 ≤ n) && decide (n ≤ 57)) || (decide (97 ≤ n) && decide (n ≤ 102))
def hexVal (n : Nat) : Nat := if n ≤ 57 then n - 48 else n - 87
theorem hex_at : ∀ n : Fin 256, Lib.indexByte [48, 49, 50, 51, 52, 53, 54, 55, 56, 57, 97, 98, 99, 100, 101, 102] ((n.1 : Int).toNat.toUInt8) = if hexOk n.1 = true then (hexVal n.1 : Int) else -1 := by decide +kernel
theorem hexVal_lt : ∀ n : Fin 256, hexOk n.1 = true → hexVal n.1 < 16 := by decide +kernel
theorem hex_two : ∀ a b : Fin 16, bits .or .u8 ((a.1 : Int) * 16) (b.1 : Int) = ((16 * a.1 + b.1 : Nat) : Int) := by decide +kernel
theorem hex_one : ∀ b : Fin 16, bits .or .u8 0 (b.1 : Int) = (b.1 : Int) := by decide +kernel

theorem marks_n (n : Nat) (h : n < 256) : decide (0 ≤ Lib.indexByte [91, 93, 92, 94, 45] ((n : Int).toNat.toUInt8)) = specN n := marks_at ⟨n, h⟩
theorem hex_n (n : Nat) (h : n < 256) : Lib.indexByte [48, 49, 50, 51, 52, 53, 54, 55, 56, 57, 97, 98, 99, 100, 101, 102] ((n : Int).toNat.toUInt8) = if hexOk n = true then (hexVal n : Int) else -1 := hex_at ⟨n, h⟩
theorem hexVal_n (n : Nat) (h : n < 256) (ho : hexOk n = true) : hexVal n < 16 := hexVal_lt ⟨n, h⟩ ho
theorem hexTwo (a b : Nat) (ha : a < 16) (hb : b < 16) : bits .or .u8 ((a : Int) * 16) (b : Int) = ((16 * a + b : Nat) : Int) := hex_two ⟨a, ha⟩ ⟨b, hb⟩
theorem hexOne (b : Nat) (hb : b < 16) : bits .or .u8 0 (b : Int) = (b : Int) := hex_one ⟨b, hb⟩
/-- the byte, the place behind it, and whether there is one -/
def readV (t : List UInt8) (i : Nat) : Nat × Nat × Bool :=
  if t.length ≤ i then (0, t.length, false)
  else if byt t i ≠ 92 then (if byt t i < 33 ∨ 126 < byt t i ∨ specN (byt t i) = true then (0, i, false) else (byt t i, i + 1, true))
  else if t.length ≤ i + 1 then (0, t.length, false)
  else if specN (byt t (i + 1)) = true then (byt t (i + 1), i + 2, true)
  else if byt t (i + 1) ≠ 120 then (0, i + 1, false)
  else if t.length ≤ i + 2 then (0, t.length, false)
  else if hexOk (byt t (i + 2)) = false then (0, i + 2, false)
  else if t.length ≤ i + 3 then (0, t.length, false)
  else if hexOk (byt t (i + 3)) = false then (0, i + 3, false)
  else (16 * hexVal (byt t (i + 2)) + hexVal (byt t (i + 3)), i + 4, true)
def ReadP (r : Nat × Nat × Bool) (w : World) (e : Ending) (w' : World) : Prop := e = .returned (.tuple #[.int .u8 (r.1 : Int), .int .i64 (r.2.1 : Int), .bool r.2.2]) ∧ w = w'

set_option maxHeartbeats 4000000 in
set_option maxRecDepth 100000 in
theorem read_p (t : List UInt8) (i : Nat) (ht : t.length ≤ 1000000000) (hi : i ≤ 1000000002) (w : World) :
    Calls Tryd.prog 45 #[.string (str t), .int .i64 (i : Int)] w (ReadP (readV t i) w) := by
  have hst := size_str t
  have KI := Lib.hid (fun (c : Int) w => indexByte_p ⟨#[91, 93, 92, 94, 45]⟩ c w)
  have KH := Lib.hid (fun (c : Int) w => indexByte_p ⟨#[48, 49, 50, 51, 52, 53, 54, 55, 56, 57, 97, 98, 99, 100, 101, 102]⟩ c w)
  have i0 : (0 : Int) ≤ (i : Int) := by omega
  obtain ⟨V, hV⟩ : ∃ V, V = readV t i := ⟨_, rfl⟩
  rw [← hV]
  unfold readV at hV
  have hg := fun (k : Nat) (h : k < (str t).size) => byt_at (t := t) h
  by_cases h1 : t.length ≤ i
  · rw [if_pos h1] at hV
    subst hV
    have j1 : (t.length : Int) ≤ (i : Int) := by omega
    clear hg
    go_enter Tryd.func45, Tryd.ntmps45
    go_wp2_with fail
    go_ret3
    first | exact show ReadP _ _ _ _ from ⟨rfl, rfl⟩ | exact show ReadP _ _ _ _ from ⟨by push_cast; rfl, rfl⟩ | exact show ReadP _ _ _ _ from ⟨by dsimp only; rw [show (t.length : Int) = (i : Int) + 2 by omega]; rfl, rfl⟩ | exact show ReadP _ _ _ _ from ⟨by have := HF.out.1; dsimp only; rw [show (t.length : Int) = (i : Int) + 3 by omega]; rfl, rfl⟩
  · rw [if_neg h1] at hV
    have j1 : (i : Int) < (t.length : Int) := by omega
    have g0 := hg i
    have hm := marks_n (byt t i) (byt_lt t i)
    have hx := byt_lt t i
    obtain ⟨x, hxe⟩ : ∃ x, x = byt t i := ⟨_, rfl⟩
    rw [← hxe] at hV hm hx
    simp only [← hxe] at g0
    clear hxe
    by_cases h2 : x ≠ 92
    · rw [if_pos h2] at hV
      have k1 : ((x : Int) != 92) = true := bne_iff_ne.2 (by omega)
      by_cases h3 : x < 33 ∨ 126 < x ∨ specN x = true
      · rw [if_pos h3] at hV
        subst hV
        by_cases h4 : x < 33
        · have q1 : (x : Int) < 33 := by omega
          clear hg hm h3 h2
          go_enter Tryd.func45, Tryd.ntmps45
          go_wp2_with fail
          go_ret3
          first | exact show ReadP _ _ _ _ from ⟨rfl, rfl⟩ | exact show ReadP _ _ _ _ from ⟨by push_cast; rfl, rfl⟩ | exact show ReadP _ _ _ _ from ⟨by dsimp only; rw [show (t.length : Int) = (i : Int) + 2 by omega]; rfl, rfl⟩ | exact show ReadP _ _ _ _ from ⟨by have := HF.out.1; dsimp only; rw [show (t.length : Int) = (i : Int) + 3 by omega]; rfl, rfl⟩
        · have q1 : ¬ (x : Int) < 33 := by omega
          by_cases h5 : 126 < x
          · have q2 : (126 : Int) < (x : Int) := by omega
            clear hg hm h3 h2
            go_enter Tryd.func45, Tryd.ntmps45
            go_wp2_with fail
            go_ret3
            first | exact show ReadP _ _ _ _ from ⟨rfl, rfl⟩ | exact show ReadP _ _ _ _ from ⟨by push_cast; rfl, rfl⟩ | exact show ReadP _ _ _ _ from ⟨by dsimp only; rw [show (t.length : Int) = (i : Int) + 2 by omega]; rfl, rfl⟩ | exact show ReadP _ _ _ _ from ⟨by have := HF.out.1; dsimp only; rw [show (t.length : Int) = (i : Int) + 3 by omega]; rfl, rfl⟩
          · have q2 : ¬ (126 : Int) < (x : Int) := by omega
            have hs : specN x = true := by rcases h3 with h | h | h <;> first | omega | exact h
            rw [hs] at hm
            have HM := Lib.hid hm
            clear hg hm h3 h2 hs
            go_enter Tryd.func45, Tryd.ntmps45
            go_wp2_with fail
            refine (KI.out _ _).mono ?_
            rintro e w1 ⟨rfl, rfl⟩
            have hzz := of_decide_eq_true HM.out
            generalize Lib.indexByte _ _ = z at *
            go_wp2_with fail
            go_ret3
            first | exact show ReadP _ _ _ _ from ⟨rfl, rfl⟩ | exact show ReadP _ _ _ _ from ⟨by push_cast; rfl, rfl⟩ | exact show ReadP _ _ _ _ from ⟨by dsimp only; rw [show (t.length : Int) = (i : Int) + 2 by omega]; rfl, rfl⟩ | exact show ReadP _ _ _ _ from ⟨by have := HF.out.1; dsimp only; rw [show (t.length : Int) = (i : Int) + 3 by omega]; rfl, rfl⟩
      · rw [if_neg h3] at hV
        subst hV
        have q1 : ¬ (x : Int) < 33 := by omega
        have q2 : ¬ (126 : Int) < (x : Int) := by omega
        have hs : specN x = false := by cases h : specN x <;> simp_all
        rw [hs] at hm
        have HM := Lib.hid hm
        clear hg hm h3 h2 hs
        go_enter Tryd.func45, Tryd.ntmps45
        go_wp2_with fail
        refine (KI.out _ _).mono ?_
        rintro e w1 ⟨rfl, rfl⟩
        have hzz := of_decide_eq_false HM.out
        generalize Lib.indexByte _ _ = z at *
        go_wp2_with fail
        go_ret3
        first | exact show ReadP _ _ _ _ from ⟨rfl, rfl⟩ | exact show ReadP _ _ _ _ from ⟨by push_cast; rfl, rfl⟩ | exact show ReadP _ _ _ _ from ⟨by dsimp only; rw [show (t.length : Int) = (i : Int) + 2 by omega]; rfl, rfl⟩ | exact show ReadP _ _ _ _ from ⟨by have := HF.out.1; dsimp only; rw [show (t.length : Int) = (i : Int) + 3 by omega]; rfl, rfl⟩
    · rw [if_neg h2] at hV
      have hx92 : x = 92 := by omega
      subst hx92
      clear hm hx h2
      by_cases h3 : t.length ≤ i + 1
      · rw [if_pos h3] at hV
        subst hV
        have q1 : (t.length : Int) ≤ (i : Int) + 1 := by omega
        clear hg
        go_enter Tryd.func45, Tryd.ntmps45
        go_wp2_with fail
        go_ret3
        first | exact show ReadP _ _ _ _ from ⟨rfl, rfl⟩ | exact show ReadP _ _ _ _ from ⟨by push_cast; rfl, rfl⟩ | exact show ReadP _ _ _ _ from ⟨by dsimp only; rw [show (t.length : Int) = (i : Int) + 2 by omega]; rfl, rfl⟩ | exact show ReadP _ _ _ _ from ⟨by have := HF.out.1; dsimp only; rw [show (t.length : Int) = (i : Int) + 3 by omega]; rfl, rfl⟩
      · rw [if_neg h3] at hV
        have q1 : (i : Int) + 1 < (t.length : Int) := by omega
        have i1 : (0 : Int) ≤ (i : Int) + 1 := by omega
        have g1 := hg (i + 1)
        have hm := marks_n (byt t (i + 1)) (byt_lt t (i + 1))
        have hy := byt_lt t (i + 1)
        obtain ⟨y, hye⟩ : ∃ y, y = byt t (i + 1) := ⟨_, rfl⟩
        rw [← hye] at hV hm hy
        simp only [← hye] at g1
        clear hye
        by_cases h4 : specN y = true
        · rw [if_pos h4] at hV
          subst hV
          rw [h4] at hm
          have HM := Lib.hid hm
          clear hg hm h4
          go_enter Tryd.func45, Tryd.ntmps45
          go_wp2_with fail
          refine (KI.out _ _).mono ?_
          rintro e w1 ⟨rfl, rfl⟩
          have hzz := of_decide_eq_true HM.out
          generalize Lib.indexByte _ _ = z at *
          go_wp2_with fail
          go_ret3
          first | exact show ReadP _ _ _ _ from ⟨rfl, rfl⟩ | exact show ReadP _ _ _ _ from ⟨by push_cast; rfl, rfl⟩ | exact show ReadP _ _ _ _ from ⟨by dsimp only; rw [show (t.length : Int) = (i : Int) + 2 by omega]; rfl, rfl⟩ | exact show ReadP _ _ _ _ from ⟨by have := HF.out.1; dsimp only; rw [show (t.length : Int) = (i : Int) + 3 by omega]; rfl, rfl⟩
        · rw [if_neg h4] at hV
          have hs : specN y = false := by cases h : specN y <;> simp_all
          rw [hs] at hm
          have HM := Lib.hid hm
          clear hm h4 hs
          by_cases h5 : y ≠ 120
          · rw [if_pos h5] at hV
            subst hV
            have k2 : ((y : Int) != 120) = true := bne_iff_ne.2 (by omega)
            clear hg h5
            go_enter Tryd.func45, Tryd.ntmps45
            go_wp2_with fail
            refine (KI.out _ _).mono ?_
            rintro e w1 ⟨rfl, rfl⟩
            have hzz := of_decide_eq_false HM.out
            generalize Lib.indexByte _ _ = z at *
            go_wp2_with fail
            go_ret3
            first | exact show ReadP _ _ _ _ from ⟨rfl, rfl⟩ | exact show ReadP _ _ _ _ from ⟨by push_cast; rfl, rfl⟩ | exact show ReadP _ _ _ _ from ⟨by dsimp only; rw [show (t.length : Int) = (i : Int) + 2 by omega]; rfl, rfl⟩ | exact show ReadP _ _ _ _ from ⟨by have := HF.out.1; dsimp only; rw [show (t.length : Int) = (i : Int) + 3 by omega]; rfl, rfl⟩
          · rw [if_neg h5] at hV
            have hy120 : y = 120 := by omega
            subst hy120
            clear h5 hy
            have g2 := hg (i + 2)
            have g3 := hg (i + 3)
            have hh2 := hex_n (byt t (i + 2)) (byt_lt t (i + 2))
            have hh3 := hex_n (byt t (i + 3)) (byt_lt t (i + 3))
            have hv2 := hexVal_n (byt t (i + 2)) (byt_lt t (i + 2))
            have hv3 := hexVal_n (byt t (i + 3)) (byt_lt t (i + 3))
            have hu2 := byt_lt t (i + 2)
            have hu3 := byt_lt t (i + 3)
            obtain ⟨u, hue⟩ : ∃ u, u = byt t (i + 2) := ⟨_, rfl⟩
            obtain ⟨v, hve⟩ : ∃ v, v = byt t (i + 3) := ⟨_, rfl⟩
            rw [← hue] at hV hh2 hv2 hu2
            rw [← hve] at hV hh3 hv3 hu3
            simp only [← hue] at g2
            simp only [← hve] at g3
            have HH2 := Lib.hid hh2
            have HH3 := Lib.hid hh3
            have HV2 := Lib.hid hv2
            have HV3 := Lib.hid hv3
            have HVV := Lib.hid hV
            clear hg hue hve hh2 hh3 hv2 hv3 hV
            go_enter Tryd.func45, Tryd.ntmps45
            go_wp2_with fail
            refine (KI.out _ _).mono ?_
            rintro e w1 ⟨rfl, rfl⟩
            have hzz := of_decide_eq_false HM.out
            generalize Lib.indexByte _ _ = z at *
            go_wp2_with fail
            go_loop [4, 7] (fun bv iv => (iv = .int .i64 ((i : Int) + 2) ∧ bv = .int .u8 0) ∨ (iv = .int .i64 ((i : Int) + 3) ∧ bv = .int .u8 (hexVal u : Int) ∧ Hid (¬ t.length ≤ i + 2 ∧ hexOk u = true)) ∨
              (iv = .int .i64 ((i : Int) + 4) ∧ bv = .int .u8 ((16 * hexVal u + hexVal v : Nat) : Int) ∧ Hid (¬ t.length ≤ i + 2 ∧ hexOk u = true ∧ ¬ t.length ≤ i + 3 ∧ hexOk v = true))) (fun _ iv => ((i : Int) + 4 - intOf iv).toNat)
            case atStart => exact .inl ⟨rfl, rfl⟩
            case round =>
              rcases hrel with ⟨rfl, rfl⟩ | ⟨rfl, rfl, HF⟩ | ⟨rfl, rfl, HF⟩
              · have r1 : (i : Int) + 2 < (i : Int) + 4 := by omega
                by_cases l2 : t.length ≤ i + 2
                · have l2' : (t.length : Int) ≤ (i : Int) + 2 := by omega
                  have hV := HVV.out
              
                  rw [if_pos l2] at hV
                  subst hV
                  go_wp2_with fail
                  go_ret3
                  first | exact show ReadP _ _ _ _ from ⟨rfl, rfl⟩ | exact show ReadP _ _ _ _ from ⟨by push_cast; rfl, rfl⟩ | exact show ReadP _ _ _ _ from ⟨by dsimp only; rw [show (t.length : Int) = (i : Int) + 2 by omega]; rfl, rfl⟩ | exact show ReadP _ _ _ _ from ⟨by have := HF.out.1; dsimp only; rw [show (t.length : Int) = (i : Int) + 3 by omega]; rfl, rfl⟩
                · have l2' : (i : Int) + 2 < (t.length : Int) := by omega
                  have l3 : (0 : Int) ≤ (i : Int) + 2 := by omega
                  by_cases ho : hexOk u = true
                  · have hz2 := HH2.out
                    rw [if_pos ho] at hz2
                    have hl16 := HV2.out ho
                    have hl16' : (hexVal u : Int) < 16 := by omega
                    have hl0 : (0 : Int) ≤ (hexVal u : Int) := by omega
                    have HO := Lib.hid ho
                    have HL2 := Lib.hid l2
                    clear ho l2
                    go_wp2_with fail
                    refine (KH.out _ _).mono ?_
                    rintro e w1 ⟨rfl, rfl⟩
                    rw [show Lib.indexByte (⟨#[48, 49, 50, 51, 52, 53, 54, 55, 56, 57, 97, 98, 99, 100, 101, 102]⟩ : ByteArray).data.toList (((u : Nat) : Int).toNat.toUInt8) = (hexVal u : Int) from hz2]
                    have HZ := Lib.hid hz2
                    clear hz2
                    go_wp2_with fail
                    exact ⟨.inr (.inl ⟨by go_num, by rw [hexOne _ hl16], Lib.hid ⟨HL2.out, HO.out⟩⟩), by simp [intOf]; omega⟩
                  · have ho' : hexOk u = false := by cases h : hexOk u <;> simp_all
                    have hV := HVV.out
                    rw [if_neg l2, if_pos ho'] at hV
                    subst hV
                    have hz2 := HH2.out
                    rw [if_neg ho] at hz2
                    have HZ := Lib.hid hz2
                    clear hz2 ho ho'
                    go_wp2_with fail
                    refine (KH.out _ _).mono ?_
                    rintro e w1 ⟨rfl, rfl⟩
                    rw [show Lib.indexByte (⟨#[48, 49, 50, 51, 52, 53, 54, 55, 56, 57, 97, 98, 99, 100, 101, 102]⟩ : ByteArray).data.toList (((u : Nat) : Int).toNat.toUInt8) = -1 from HZ.out]
                    go_wp2_with fail
                    go_ret3
                    first | exact show ReadP _ _ _ _ from ⟨rfl, rfl⟩ | exact show ReadP _ _ _ _ from ⟨by push_cast; rfl, rfl⟩ | exact show ReadP _ _ _ _ from ⟨by dsimp only; rw [show (t.length : Int) = (i : Int) + 2 by omega]; rfl, rfl⟩ | exact show ReadP _ _ _ _ from ⟨by have := HF.out.1; dsimp only; rw [show (t.length : Int) = (i : Int) + 3 by omega]; rfl, rfl⟩
              · have r1 : (i : Int) + 3 < (i : Int) + 4 := by omega
                by_cases l2 : t.length ≤ i + 3
                · have l2' : (t.length : Int) ≤ (i : Int) + 3 := by omega
                  have hV := HVV.out
                  obtain ⟨f1, f2⟩ := HF.out; rw [if_neg f1, if_neg (by rw [f2]; decide)] at hV
                  rw [if_pos l2] at hV
                  subst hV
                  go_wp2_with fail
                  go_ret3
                  first | exact show ReadP _ _ _ _ from ⟨rfl, rfl⟩ | exact show ReadP _ _ _ _ from ⟨by push_cast; rfl, rfl⟩ | exact show ReadP _ _ _ _ from ⟨by dsimp only; rw [show (t.length : Int) = (i : Int) + 2 by omega]; rfl, rfl⟩ | exact show ReadP _ _ _ _ from ⟨by have := HF.out.1; dsimp only; rw [show (t.length : Int) = (i : Int) + 3 by omega]; rfl, rfl⟩
                · have l2' : (i : Int) + 3 < (t.length : Int) := by omega
                  have l3 : (0 : Int) ≤ (i : Int) + 3 := by omega
                  by_cases ho : hexOk v = true
                  · have hz2 := HH3.out
                    rw [if_pos ho] at hz2
                    have hl16 := HV3.out ho
                    have hl16' : (hexVal v : Int) < 16 := by omega
                    have hl0 : (0 : Int) ≤ (hexVal v : Int) := by omega
                    have HO := Lib.hid ho
                    have HL2 := Lib.hid l2
                    clear ho l2
                    go_wp2_with fail
                    refine (KH.out _ _).mono ?_
                    rintro e w1 ⟨rfl, rfl⟩
                    rw [show Lib.indexByte (⟨#[48, 49, 50, 51, 52, 53, 54, 55, 56, 57, 97, 98, 99, 100, 101, 102]⟩ : ByteArray).data.toList (((v : Nat) : Int).toNat.toUInt8) = (hexVal v : Int) from hz2]
                    have HZ := Lib.hid hz2
                    clear hz2
                    have hu16 := HV2.out HF.out.2
                    have hu16' : (hexVal u : Int) < 16 := (by omega)
                    have hu0 : (0 : Int) ≤ (hexVal u : Int) := (by omega)
                    go_wp2_with fail
                    exact ⟨.inr (.inr ⟨by go_num, by rw [hexTwo _ _ hu16 hl16], Lib.hid ⟨HF.out.1, HF.out.2, HL2.out, HO.out⟩⟩), by simp [intOf]; omega⟩
                  · have ho' : hexOk v = false := by cases h : hexOk v <;> simp_all
                    have hV := HVV.out
                    obtain ⟨f1, f2⟩ := HF.out; rw [if_neg f1, if_neg (by rw [f2]; decide)] at hV
                    rw [if_neg l2, if_pos ho'] at hV
                    subst hV
                    have hz2 := HH3.out
                    rw [if_neg ho] at hz2
                    have HZ := Lib.hid hz2
                    clear hz2 ho ho'
                    go_wp2_with fail
                    refine (KH.out _ _).mono ?_
                    rintro e w1 ⟨rfl, rfl⟩
                    rw [show Lib.indexByte (⟨#[48, 49, 50, 51, 52, 53, 54, 55, 56, 57, 97, 98, 99, 100, 101, 102]⟩ : ByteArray).data.toList (((v : Nat) : Int).toNat.toUInt8) = -1 from HZ.out]
                    go_wp2_with fail
                    go_ret3
                    first | exact show ReadP _ _ _ _ from ⟨rfl, rfl⟩ | exact show ReadP _ _ _ _ from ⟨by push_cast; rfl, rfl⟩ | exact show ReadP _ _ _ _ from ⟨by dsimp only; rw [show (t.length : Int) = (i : Int) + 2 by omega]; rfl, rfl⟩ | exact show ReadP _ _ _ _ from ⟨by have := HF.out.1; dsimp only; rw [show (t.length : Int) = (i : Int) + 3 by omega]; rfl, rfl⟩
              · have r1 : ¬ (i : Int) + 4 < (i : Int) + 4 := by omega
                have hV := HVV.out
                obtain ⟨f1, f2, f3, f4⟩ := HF.out
                rw [if_neg f1, if_neg (by rw [f2]; decide), if_neg f3, if_neg (by rw [f4]; decide)] at hV
                subst hV
                go_wp2_with fail
                go_ret3
                first | exact show ReadP _ _ _ _ from ⟨rfl, rfl⟩ | exact show ReadP _ _ _ _ from ⟨by push_cast; rfl, rfl⟩ | exact show ReadP _ _ _ _ from ⟨by dsimp only; rw [show (t.length : Int) = (i : Int) + 2 by omega]; rfl, rfl⟩ | exact show ReadP _ _ _ _ from ⟨by have := HF.out.1; dsimp only; rw [show (t.length : Int) = (i : Int) + 3 by omega]; rfl, rfl⟩
end Go.Proofs.YtooiegejchcbhaaDoor
