/- Layer 30, the reference: shapes; the law's far. -/
import Derived.Test.YtdfofojlnkhjjaaCBad30
import Derived.Test.YtdfofojlnkhjjaaCTotR
namespace Go.Proofs.Ytdfofojlnkhjjaa
open Go.RowKit

set_option maxRecDepth 100000 in
set_option maxHeartbeats 2000000 in
theorem shapes30 (v : Value) (l : List (Int × Int)) (w : World) (hv : Pairs w v l) :
    Calls Try.prog 55 #[v] w fun e w' => e = .returned (.int .i64 (shapesE l)) ∧ Below w.heap.size w w' := by
  obtain ⟨hm, a, cap, rfl, _⟩ := id hv
  have HV := Lib.hid hv
  clear hv
  unfold maxLen at hm
  by_cases hl : 200 < l.length
  · rw [show shapesE l = 3 by unfold shapesE; rw [if_pos hl]]
    have t1 : (200 : Int) < (l.length : Int) := by omega
    go_enter Try.func55, Try.ntmps55
    go_wp2_with fail
    go_ret
    exact ⟨rfl, Below.refl _ _⟩
  · have t1 : ¬ (200 : Int) < (l.length : Int) := by omega
    have hE : shapesE l = shE (l.drop 0) := by unfold shapesE; rw [if_neg hl]; simp
    rw [hE]
    generalize hE0 : shE (l.drop 0) = E
    have HE := Lib.hid hE0
    clear hE hE0 hl
    go_enter Try.func55, Try.ntmps55
    go_wp2_with fail
    clear t1
    go_loopw [3] (fun iv wr => ∃ k : Nat, k ≤ l.length ∧ iv = .int .i64 (k : Nat) ∧ E = shE (l.drop k) ∧ Below w.heap.size w wr) (fun iv _ => l.length - (intOf iv).toNat)
    case atStart => exact ⟨0, by omega, rfl, HE.out.symm, Below.refl _ _⟩
    case round =>
      obtain ⟨k, hk, rfl, hE, hB⟩ := hrel
      have HB := Lib.hid hB
      by_cases hlt : k < l.length
      · obtain ⟨g, o, rfl, hg, q1, q2⟩ := HV.out.at hlt
        have c1 := (hB.cell (p := ⟨g, o + k * 2, none⟩) hg).trans q1
        have c2 := (hB.cell (p := ⟨g, o + k * 2 + 1, none⟩) hg).trans q2
        rw [shE_at hlt] at hE
        clear q1 q2 hB
        generalize l[k].1 = x at *
        generalize l[k].2 = y at *
        have i0 : (0 : Int) ≤ (k : Int) := by omega
        have i1 : (k : Int) < (l.length : Int) := by omega
        by_cases h1 : x < 1
        · rw [if_pos (.inl h1)] at hE
          subst hE
          go_wp2_with fail
          go_ret
          exact ⟨rfl, HB.out⟩
        · by_cases h2 : 4 < x
          · rw [if_pos (.inr h2)] at hE
            subst hE
            go_wp2_with fail
            go_ret
            exact ⟨rfl, HB.out⟩
          · rw [if_neg (by omega)] at hE
            by_cases h3 : y < 0
            · rw [if_pos h3] at hE
              subst hE
              go_wp2_with fail
              go_ret
              exact ⟨rfl, HB.out⟩
            · rw [if_neg h3] at hE
              by_cases h4 : 0 < y
              · by_cases h5 : x = 1
                · rw [if_neg (fun h => h.2 h5)] at hE
                  subst h5
                  have HE2 := Lib.hid hE
                  clear hE
                  go_wp2_with fail
                  exact ⟨⟨k + 1, by omega, by go_num, HE2.out, HB.out⟩, by simp [intOf]; omega⟩
                · rw [if_pos ⟨h4, h5⟩] at hE
                  subst hE
                  have h6 : (x != 1) = true := bne_iff_ne.2 h5
                  go_wp2_with fail
                  go_ret
                  exact ⟨rfl, HB.out⟩
              · rw [if_neg (fun h => h4 h.1)] at hE
                have HE2 := Lib.hid hE
                clear hE
                go_wp2_with fail
                exact ⟨⟨k + 1, by omega, by go_num, HE2.out, HB.out⟩, by simp [intOf]; omega⟩
      · obtain rfl : k = l.length := by omega
        rw [List.drop_length] at hE
        subst hE
        go_wp2_with fail
        go_ret
        exact ⟨rfl, HB.out⟩


/-- how many bytes feeds have, that are done -/
def farS (l : Int) : List (Int × Int) → Int → Int → Int
  | [], n, _ => n
  | (x, y) :: t, n, at_ => if 0 < y ∧ y ≤ 1000 ∧ (if x = 3 then 0 else at_) + y ≤ l then farS l t (n + y) ((if x = 3 then 0 else at_) + y) else farS l t n (if x = 3 then 0 else at_)
theorem farS_at (l : Int) {L : List (Int × Int)} {k : Nat} (h : k < L.length) (n at_ : Int) : farS l (L.drop k) n at_ =
    if 0 < L[k].2 ∧ L[k].2 ≤ 1000 ∧ (if L[k].1 = 3 then 0 else at_) + L[k].2 ≤ l then farS l (L.drop (k + 1)) (n + L[k].2) ((if L[k].1 = 3 then 0 else at_) + L[k].2) else farS l (L.drop (k + 1)) n (if L[k].1 = 3 then 0 else at_) := by
  rw [List.drop_eq_getElem_cons h]
  rcases L[k] with ⟨x, y⟩
  rfl

set_option maxRecDepth 100000 in
set_option maxHeartbeats 4000000 in
theorem far_r (b k l : Int) (v : Value) (L : List (Int × Int)) (w : World) (hl0 : 0 ≤ l) (hl1 : l ≤ 1000000) (hv : Pairs w v L) :
    Calls Try.prog 31 #[cfgV b k l, v] w fun e w' => ∃ z : Bool, e = .returned (.bool z) ∧ (z = false → L.length ≤ 210 ∧ farS l L 0 0 ≤ 40) ∧ Below w.heap.size w w' := by
  obtain ⟨hm, av, cap, rfl, _⟩ := id hv
  have HV := Lib.hid hv
  clear hv
  unfold maxLen at hm
  have a1 := heap_alloc_new w (.cells #[.int .i64 b, .int .i64 k, .int .i64 l] 23)
  have HA := Lib.hid a1
  have HB0 := Lib.hid ((Below.refl _ w).alloc (Nat.le_refl _) (.cells #[.int .i64 b, .int .i64 k, .int .i64 l] 23))
  clear a1
  have FA := Lib.hid (fun (i : Nat) (h : i < L.length) (n at_ : Int) => farS_at l h n at_)
  generalize hF : farS l L 0 0 = F
  have HF := Lib.hid hF
  clear hF
  unfold cfgV
  go_enter Try.func31, Try.ntmps31
  go_wp2_with fail
  go_loopw [5, 6, 7] (fun nv tv iv wr => ∃ (i : Nat) (n at_ : Int), i ≤ L.length ∧ i ≤ 220 ∧ iv = .int .i64 (i : Nat) ∧ nv = .int .i64 n ∧ tv = .int .i64 at_ ∧ 0 ≤ n ∧ n ≤ (i : Nat) * 1000 ∧ 0 ≤ at_ ∧ at_ ≤ l ∧ F = farS l (L.drop i) n at_ ∧ wr.heap[w.heap.size]? = some (.cells #[.int .i64 b, .int .i64 k, .int .i64 l] 23 (0, 0)) ∧ Below w.heap.size w wr) (fun _ _ iv _ => 220 - (intOf iv).toNat)
  case atStart => exact ⟨0, 0, 0, by omega, by omega, rfl, rfl, rfl, by omega, by omega, by omega, by omega, by rw [List.drop_zero]; exact HF.out.symm, HA.out, HB0.out⟩
  case round =>
    obtain ⟨i, n, at_, hi, hi2, rfl, rfl, rfl, n0, n1, a0, a1, hFF, hcfg, hB⟩ := hrel
    have HC := Lib.hid hcfg
    have HB := Lib.hid hB
    have i0 : (0 : Int) ≤ (i : Int) := by omega
    obtain ⟨d0, d1, d2⟩ := c3 hcfg
    clear hcfg
    by_cases hlt : i < L.length
    · have i1 : (i : Int) < (L.length : Int) := by omega
      by_cases h220 : i < 220
      · have i2 : (i : Int) < 220 := by omega
        obtain ⟨g, o, rfl, hg, q1, q2⟩ := HV.out.at hlt
        have v1 := (hB.cell (p := ⟨g, o + i * 2, none⟩) hg).trans q1
        have v2 := (hB.cell (p := ⟨g, o + i * 2 + 1, none⟩) hg).trans q2
        rw [FA.out i hlt] at hFF
        clear q1 q2 hB
        generalize L[i].1 = x at *
        generalize L[i].2 = y at *
        have key : ∀ A : Int, 0 ≤ A → A ≤ l → (0 < y ∧ y ≤ 1000 ∧ A + y ≤ l) ∨ ¬ 0 < y ∨ (0 < y ∧ ¬ y ≤ 1000) ∨ (0 < y ∧ y ≤ 1000 ∧ ¬ A + y ≤ l) := by intro A _ _; omega
        by_cases hx : x = 3
        · rw [if_pos hx] at hFF
          subst hx
          rcases key 0 (by omega) (by omega) with ⟨y0, y1, y2⟩ | y0 | ⟨y0, y1⟩ | ⟨y0, y1, y2⟩
          · rw [if_pos ⟨y0, y1, y2⟩] at hFF
            rw [Int.zero_add] at hFF
            have HFF := Lib.hid hFF
            clear hFF key
            have y2' : y ≤ l := by omega
            go_wp2_with fail
            go_quiet (fail)
            go_wp2_with fail
            go_quiet (fail)
            go_wp2_with fail
            exact ⟨⟨i + 1, n + y, y, by omega, by omega, by go_num, rfl, rfl, by omega, by omega, by omega, by omega, HFF.out, HC.out, below_drewN HB.out _⟩, by simp [intOf]; omega⟩
          · rw [if_neg (fun h => y0 h.1)] at hFF
            have z1 : decide (0 < y) = false := by simpa using y0
            have HFF := Lib.hid hFF
            clear hFF key
            go_wp2_with fail
            go_quiet (fail)
            go_wp2_with fail
            exact ⟨⟨i + 1, n, 0, by omega, by omega, by go_num, rfl, rfl, by omega, by omega, by omega, by omega, HFF.out, HC.out, below_drewN HB.out _⟩, by simp [intOf]; omega⟩
          · rw [if_neg (fun h => y1 h.2.1)] at hFF
            have z1 : decide (y ≤ 1000) = false := by simpa using y1
            have HFF := Lib.hid hFF
            clear hFF key
            go_wp2_with fail
            go_quiet (fail)
            go_wp2_with fail
            exact ⟨⟨i + 1, n, 0, by omega, by omega, by go_num, rfl, rfl, by omega, by omega, by omega, by omega, HFF.out, HC.out, below_drewN HB.out _⟩, by simp [intOf]; omega⟩
          · rw [if_neg (fun h => y2 h.2.2)] at hFF
            have y2' : ¬ y ≤ l := by omega
            have z1 : decide (y ≤ l) = false := by simpa using y2'
            have HFF := Lib.hid hFF
            clear hFF key
            go_wp2_with fail
            go_quiet (fail)
            go_wp2_with fail
            exact ⟨⟨i + 1, n, 0, by omega, by omega, by go_num, rfl, rfl, by omega, by omega, by omega, by omega, HFF.out, HC.out, below_drewN HB.out _⟩, by simp [intOf]; omega⟩
        · rw [if_neg hx] at hFF
          have hx' : (x == 3) = false := by simpa using hx
          rcases key at_ (by omega) (by omega) with ⟨y0, y1, y2⟩ | y0 | ⟨y0, y1⟩ | ⟨y0, y1, y2⟩
          · rw [if_pos ⟨y0, y1, y2⟩] at hFF
            have HFF := Lib.hid hFF
            clear hFF key
            have y2' : at_ + y ≤ l := by omega
            go_wp2_with fail
            go_quiet (fail)
            go_wp2_with fail
            go_quiet (fail)
            go_wp2_with fail
            exact ⟨⟨i + 1, n + y, at_ + y, by omega, by omega, by go_num, rfl, rfl, by omega, by omega, by omega, by omega, HFF.out, HC.out, below_drewN HB.out _⟩, by simp [intOf]; omega⟩
          · rw [if_neg (fun h => y0 h.1)] at hFF
            have z1 : decide (0 < y) = false := by simpa using y0
            have HFF := Lib.hid hFF
            clear hFF key
            go_wp2_with fail
            go_quiet (fail)
            go_wp2_with fail
            exact ⟨⟨i + 1, n, at_, by omega, by omega, by go_num, rfl, rfl, by omega, by omega, by omega, by omega, HFF.out, HC.out, below_drewN HB.out _⟩, by simp [intOf]; omega⟩
          · rw [if_neg (fun h => y1 h.2.1)] at hFF
            have z1 : decide (y ≤ 1000) = false := by simpa using y1
            have HFF := Lib.hid hFF
            clear hFF key
            go_wp2_with fail
            go_quiet (fail)
            go_wp2_with fail
            exact ⟨⟨i + 1, n, at_, by omega, by omega, by go_num, rfl, rfl, by omega, by omega, by omega, by omega, HFF.out, HC.out, below_drewN HB.out _⟩, by simp [intOf]; omega⟩
          · rw [if_neg (fun h => y2 h.2.2)] at hFF
            have y2' : ¬ at_ + y ≤ l := by omega
            have z1 : decide (at_ + y ≤ l) = false := by simpa using y2'
            have HFF := Lib.hid hFF
            clear hFF key
            go_wp2_with fail
            go_quiet (fail)
            go_wp2_with fail
            exact ⟨⟨i + 1, n, at_, by omega, by omega, by go_num, rfl, rfl, by omega, by omega, by omega, by omega, HFF.out, HC.out, below_drewN HB.out _⟩, by simp [intOf]; omega⟩
      · have i2 : ¬ (i : Int) < 220 := by omega
        have t2 : (210 : Int) < (L.length : Int) := by omega
        go_wp2_with fail
        all_goals
          go_ret
          exact .inr ⟨rfl, HB.out⟩
    · have i1 : ¬ (i : Int) < (L.length : Int) := by omega
      obtain rfl : i = L.length := by omega
      rw [List.drop_length] at hFF
      have HFF := Lib.hid (show F = n from hFF)
      clear hFF hlt
      by_cases h40 : 40 < n
      · go_wp2_with fail
        go_ret
        exact .inr ⟨rfl, HB.out⟩
      · by_cases h210 : (210 : Int) < (L.length : Int)
        · go_wp2_with fail
          go_ret
          exact .inr ⟨rfl, HB.out⟩
        · go_wp2_with fail
          go_ret
          exact .inl ⟨rfl, ⟨by omega, by first | (rw [HFF.out]; omega) | (have := HFF.out; omega)⟩, HB.out⟩
end Go.Proofs.Ytdfofojlnkhjjaa
