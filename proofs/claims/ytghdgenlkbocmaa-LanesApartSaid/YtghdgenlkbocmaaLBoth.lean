/- Rows of words, the program's layer 2: And, Or. -/
import Derived.Test.YtghdgenlkbocmaaLCount
import Derived.StillTailTactics
namespace Go.Proofs.Ytghdgenlkbocmaa
open Go.RowKit

theorem word_low (t : CSet) (i j : Nat) : word (low t (64 * i)) j = if j < i then word t j else 0 := by
  symm; apply eq_word
  · split
    · exact word_lt t j
    · decide
  · intro b hb
    have h : (low t (64 * i)).getLsbD (64 * j + b) = (t.getLsbD (64 * j + b) && decide (64 * j + b < 64 * i)) := hasB_low t (64 * i) (64 * j + b)
    rw [h]
    split
    · rw [word_testBit t j b hb, decide_eq_true (by omega), Bool.and_true]
    · rw [Nat.zero_testBit, decide_eq_false (by omega), Bool.and_false]
theorem word_low_all (t : CSet) (k j : Nat) (h : j < k) : word (low t (64 * k)) j = word t j := by rw [word_low, if_pos h]
theorem rcells_low (t : CSet) (k : Nat) : rcells (low t (64 * k)) k = rcells t k := by
  unfold rcells
  apply List.map_congr_left
  intro j hj
  rw [word_low_all t k j (List.mem_range.1 hj)]
theorem and1_p (x y : Nat) (hx : x < 18446744073709551616) (hy : y < 18446744073709551616) (w : World) :
    Calls Try.prog 60 #[.int .u64 (x : Int), .int .u64 (y : Int)] w fun e w' => e = .returned (.int .u64 ((x &&& y : Nat) : Int)) ∧ w = w' := by
  have h := Lib.hid (u64_and_nat x y hx hy)
  clear hx hy
  go_enter Try.func60, Try.ntmps60
  go_wp2_with fail
  go_ret
  exact ⟨congrArg (fun z => Ending.returned (.int .u64 z)) h.out, rfl⟩
theorem or1_p (x y : Nat) (hx : x < 18446744073709551616) (hy : y < 18446744073709551616) (w : World) :
    Calls Try.prog 61 #[.int .u64 (x : Int), .int .u64 (y : Int)] w fun e w' => e = .returned (.int .u64 ((x ||| y : Nat) : Int)) ∧ w = w' := by
  have h := Lib.hid (u64_or_nat x y hx hy)
  clear hx hy
  go_enter Try.func61, Try.ntmps61
  go_wp2_with fail
  go_ret
  exact ⟨congrArg (fun z => Ending.returned (.int .u64 z)) h.out, rfl⟩

set_option maxRecDepth 100000 in
set_option maxHeartbeats 4000000 in
theorem both_p (g : Nat) (f : CSet → CSet → CSet) (hg : ∀ (s t : CSet) (i : Nat) (w : World), Calls Try.prog g #[.int .u64 (word s i : Int), .int .u64 (word t i : Int)] w fun e w' => e = .returned (.int .u64 (word (f s t) i : Int)) ∧ w = w')
    (hgc : ∀ (s t : CSet) (i : Nat) (w : World), Sem.run Try.prog (callFunc g #[.int .u64 (word s i : Int), .int .u64 (word t i : Int)]) w = .ok (.enter g #[.int .u64 (word s i : Int), .int .u64 (word t i : Int)]) w)
    (k : Nat) (u v : Value) (s t : CSet) (w : World) (hu : URow w u k s) (hv : URow w v k t) (k1 : 1 ≤ k) (k4 : k ≤ 4) :
    Calls Try.prog 59 #[u, v, .func (.func g) #[] #[]] w fun e w' => ∃ r, e = .returned (.tuple #[r, .int .i64 0]) ∧ URow w' r k (f s t) ∧ Below w.heap.size w w' := by
  obtain ⟨a, cap, rfl⟩ := hu.form
  obtain ⟨b, cap2, rfl⟩ := hv.form
  have HU := Lib.hid hu
  have HV := Lib.hid hv
  have HG := Lib.hid hg
  have HGC := Lib.hid hgc
  have hmk := fun w => run_make k k1 k4 w
  have HF := Lib.hid (fun i => word_low (f s t) i)
  have HC := Lib.hid (fun a cap w => checkB_p k a cap w k1 k4)
  clear hu hv hg hgc
  go_enter Try.func59, Try.ntmps59
  go_wp2_with fail
  have hb0 := (Below.refl w.heap.size w).alloc (Nat.le_refl _) (.cells #[.slice a k cap, .slice b k cap2] 32)
  have hx0 := heap_alloc_new w (.cells #[.slice a k cap, .slice b k cap2] 32)
  generalize w.alloc (.cells #[.slice a k cap, .slice b k cap2] 32) = w0 at *
  have HB0 := Lib.hid hb0
  have hc0 : w0.cell? ⟨w.heap.size, 0, none⟩ = some (.slice a k cap) := by simp [World.cell?, hx0]
  have hc1 : w0.cell? ⟨w.heap.size, 1, none⟩ = some (.slice b k cap2) := by simp [World.cell?, hx0]
  clear hb0 hx0
  have tk : ((k : Int) != (k : Int)) = false := by simp
  go_loop [17] (fun iv => ∃ i : Nat, i ≤ 2 ∧ iv = .int .i64 (i : Nat)) (fun iv => 2 - (intOf iv).toNat)
  case atStart => exact ⟨0, by omega, rfl⟩
  case round =>
    obtain ⟨i, hi, rfl⟩ := hrel
    have i0 : (0 : Int) ≤ (i : Int) := by omega
    rcases (show i = 0 ∨ i = 1 ∨ i = 2 by omega) with rfl | rfl | rfl
    · go_wp2_with fail
      refine (HC.out _ _ _).mono ?_
      rintro e w1 ⟨rfl, rfl⟩
      go_wp2_with fail
      go_round
      case rel => exact ⟨1, by omega, rfl⟩
      case measure => simp [intOf]
    · go_wp2_with fail
      refine (HC.out _ _ _).mono ?_
      rintro e w1 ⟨rfl, rfl⟩
      go_wp2_with fail
      go_round
      case rel => exact ⟨2, by omega, rfl⟩
      case measure => simp [intOf]
    · clear HC
      go_wp2_with fail
      clear hmk hc0 hc1
      have HB1 := Lib.hid (HB0.out.alloc HB0.out.size (.cells (rcells 0#256 k).toArray 48))
      have HU0 := Lib.hid (show UAt (w0.alloc (.cells (rcells 0#256 k).toArray 48)) w0.heap.size k 0#256 from heap_alloc_new w0 _)
      have hlt0 := HB0.out.size
      generalize w0.alloc (.cells (rcells 0#256 k).toArray 48) = wa at *
      generalize w0.heap.size = B at *
      have hs0 : low (f s t) (64 * 0) = 0#256 := low_zero _
      have HU1 := Lib.hid (show UAt wa B k (low (f s t) (64 * 0)) by rw [hs0]; exact HU0.out)
      clear hs0 HU0
      go_loopw [37] (fun iv wr => ∃ i : Nat, i ≤ k ∧ iv = .int .i64 (i : Nat) ∧ UAt wr B k (low (f s t) (64 * i)) ∧ Below w.heap.size w wr) (fun iv _ => k - (intOf iv).toNat)
      case atStart => exact ⟨0, by omega, rfl, HU1.out, HB1.out⟩
      case round =>
        obtain ⟨i, hi, rfl, hU, hB⟩ := hrel
        have HUi := Lib.hid hU
        have HBi := Lib.hid hB
        have i0 : (0 : Int) ≤ (i : Int) := by omega
        by_cases hlt : i < k
        · obtain ⟨g1, o1, rfl, hg1, hc1⟩ := HU.out.at hlt
          obtain ⟨g2, o2, rfl, hg2, hc2⟩ := HV.out.at hlt
          have hc1' := (hB.cell (p := ⟨g1, o1 + i, none⟩) hg1).trans hc1
          have hc2' := (hB.cell (p := ⟨g2, o2 + i, none⟩) hg2).trans hc2
          obtain ⟨cu, fu⟩ := hU.cell hlt
          have i1 : (i : Int) < (k : Int) := by omega
          have hwd : ∀ j, j < k → word (low (f s t) (64 * (i + 1))) j = if j = i then word (low (f s t) (64 * (i + 1))) i else word (low (f s t) (64 * i)) j := fun j hj => by
            by_cases e : j = i
            · rw [if_pos e, e]
            · rw [if_neg e, word_low, word_low]
              by_cases h : j < i
              · rw [if_pos (by omega), if_pos h]
              · rw [if_neg (by omega), if_neg h]
          have HWD := Lib.hid hwd
          have HWQ := Lib.hid (show word (low (f s t) (64 * (i + 1))) i = word (f s t) i by rw [word_low, if_pos (by omega)])
          clear hwd hU hB hc1 hc2
          go_wp2_with fail
          go_still_tail 13, (by kernel_rfl)
          have hgc := fun w => HGC.out s t i w
          still_call ((HG.out s t i _).mono fun e w2 h => ⟨h.1, h.2.symm⟩)
          repeat still_step
          refine wpStill_nil ?_
          clear hgc
          go_wp2_with fail
          have hput := HUi.out.put HWD.out
          rw [HWQ.out] at hput
          exact ⟨⟨i + 1, by omega, by go_num, hput, (HBi.out.setCell hlt0 _).drew⟩, by simp [intOf]; omega⟩
        · obtain rfl : i = k := by omega
          have i1 : ¬ (i : Int) < (i : Int) := by omega
          clear hU hB
          go_wp2_with fail
          go_ret2
          have hr := HUi.out.row (by omega)
          unfold URow at hr
          rw [rcells_low] at hr
          exact ⟨_, rfl, hr, HBi.out⟩
theorem and_p (k : Nat) (u v : Value) (s t : CSet) (w : World) (hu : URow w u k s) (hv : URow w v k t) (k1 : 1 ≤ k) (k4 : k ≤ 4) :
    Calls Try.prog 32 #[u, v] w fun e w' => ∃ r, e = .returned (.tuple #[r, .int .i64 0]) ∧ URow w' r k (s &&& t) ∧ Below w.heap.size w w' := by
  have HB := Lib.hid (both_p 60 (· &&& ·) (fun s t i w => by simp only [word_and]; exact and1_p _ _ (word_lt s i) (word_lt t i) w) (fun s t i w => by kernel_rfl) k u v s t w hu hv k1 k4)
  clear hu hv
  go_enter Try.func32, Try.ntmps32
  go_wp2_with fail
  refine HB.out.mono ?_
  rintro e w1 ⟨r, rfl, hU, hb⟩
  have HU := Lib.hid hU
  have HB1 := Lib.hid hb
  clear hU hb
  go_wp2_with fail
  go_ret2
  exact ⟨r, rfl, HU.out, HB1.out⟩
theorem or_p (k : Nat) (u v : Value) (s t : CSet) (w : World) (hu : URow w u k s) (hv : URow w v k t) (k1 : 1 ≤ k) (k4 : k ≤ 4) :
    Calls Try.prog 33 #[u, v] w fun e w' => ∃ r, e = .returned (.tuple #[r, .int .i64 0]) ∧ URow w' r k (s ||| t) ∧ Below w.heap.size w w' := by
  have HB := Lib.hid (both_p 61 (· ||| ·) (fun s t i w => by simp only [word_or]; exact or1_p _ _ (word_lt s i) (word_lt t i) w) (fun s t i w => by kernel_rfl) k u v s t w hu hv k1 k4)
  clear hu hv
  go_enter Try.func33, Try.ntmps33
  go_wp2_with fail
  refine HB.out.mono ?_
  rintro e w1 ⟨r, rfl, hU, hb⟩
  have HU := Lib.hid hU
  have HB1 := Lib.hid hb
  clear hU hb
  go_wp2_with fail
  go_ret2
  exact ⟨r, rfl, HU.out, HB1.out⟩
end Go.Proofs.Ytghdgenlkbocmaa
