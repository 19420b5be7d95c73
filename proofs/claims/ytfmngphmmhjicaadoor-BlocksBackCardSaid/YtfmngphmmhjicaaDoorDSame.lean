/- Layer 27: Same of the reference: are two lists of parts equal. -/
import Derived.Test.YtfmngphmmhjicaaDoorDSplit
import Derived.Test.YtfmngphmmhjicaaDoorRow
import Derived.Deep.QuietTactic
import Derived.BigQuiet
namespace Go.Proofs.YtfmngphmmhjicaaDoor
open Go.RowKit

theorem pcells_at (ps : List Part) (k : Nat) (h : k < ps.length) : (pcells ps)[k * 3]? = some (.string (str ps[k].1)) ∧ (pcells ps)[k * 3 + 1]? = some (.int .i64 ps[k].2.1) ∧ (pcells ps)[k * 3 + 2]? = some (.int .i64 ps[k].2.2) := by
  induction ps generalizing k with
  | nil => simp at h
  | cons p ps ih =>
    cases k with
    | zero => simp [pcells, pcell]
    | succ k =>
      have := ih k (by simpa using h)
      have e : pcells (p :: ps) = pcell p ++ pcells ps := by simp [pcells]
      rw [e, show (k + 1) * 3 = (pcell p).length + k * 3 by simp [pcell]; omega]
      simp only [Nat.add_assoc]
      rw [List.getElem?_append_right (by omega), List.getElem?_append_right (by omega), List.getElem?_append_right (by omega)]
      simpa [Nat.add_sub_cancel_left] using this

/-- a slice of parts that reads ps -/
def Parts (w : World) (v : Value) (ps : List Part) : Prop := Row w 3 v ps.length (pcells ps)

theorem str_toList (a : List UInt8) : (str a).toList = a := by
  rw [ByteArray.toList_eq]; rfl

theorem run_neq_part (w : World) (p q : Part) :
    (binOp .neq 33 (.agg #[.string (str p.1), .int .i64 p.2.1, .int .i64 p.2.2]) (.agg #[.string (str q.1), .int .i64 q.2.1, .int .i64 q.2.2])).run Tryd.prog w = .ok (.bool (decide (p ≠ q))) w := by
  obtain ⟨a, x, y⟩ := p
  obtain ⟨b, x', y'⟩ := q
  by_cases h1 : a = b
  · by_cases h2 : x = x'
    · by_cases h3 : y = y'
      · simp [go_sem, str_toList, h1, h2, h3]
      · simp [go_sem, str_toList, h1, h2, h3]
    · simp [go_sem, str_toList, h1, h2]
  · simp [go_sem, str_toList, h1]

theorem take_same {pa pb : List Part} {k : Nat} (h1 : k < pa.length) (h2 : k < pb.length) (h : pa.take k = pb.take k) (e : pa[k] = pb[k]) : pa.take (k + 1) = pb.take (k + 1) := by
  rw [List.take_succ_eq_append_getElem h1, List.take_succ_eq_append_getElem h2, h, e]

theorem same_none {aa ab : Option Addr} {capa capb : Nat} {pa pb : List Part} {w : World} (h1 : pa.length = 0) (h2 : pb.length = 0) :
    Calls Tryd.prog 9 #[.slice aa pa.length capa, .slice ab pb.length capb] w fun e w' => e = .returned (.bool (decide (pa = pb))) ∧ Below w.heap.size w w' := by
  obtain rfl := List.eq_nil_of_length_eq_zero h1
  obtain rfl := List.eq_nil_of_length_eq_zero h2
  go_enter Tryd.func9, Tryd.ntmps9
  go_wp2
  refine wp_loop_rounds 1 ?_
  rw [rounds_succ]
  go_wp2
  go_ret
  exact ⟨rfl, Below.refl _ _⟩

set_option maxHeartbeats 1000000 in
theorem same_r (va vb : Value) (pa pb : List Part) (w : World) (ha : Parts w va pa) (hb : Parts w vb pb) :
    Calls Tryd.prog 9 #[va, vb] w fun e w' => e = .returned (.bool (decide (pa = pb))) ∧ Below w.heap.size w w' := by
  obtain ⟨_, hma, aa, capa, rfl, _, hca⟩ := ha
  obtain ⟨_, hmb, ab, capb, rfl, _, hcb⟩ := hb
  unfold maxLen at hma hmb
  by_cases hl : pa.length = pb.length
  · rcases hca with h0 | ⟨ga, oa, rfl, hca⟩
    · exact same_none (by omega) (by omega)
    · rcases hcb with h0 | ⟨gb, ob, rfl, hcb⟩
      · exact same_none (by omega) (by omega)
      · have HL := Lib.hid hl
        have hl1 : pa.length ≤ pb.length := by omega
        have hl2 : pb.length ≤ pa.length := by omega
        clear hl
        have hne := run_neq_part
        go_enter Tryd.func9, Tryd.ntmps9
        go_wp2
        go_loopw [5] (fun i wr => ∃ k : Nat, k ≤ pa.length ∧ i = .int .i64 (k : Nat) ∧ pa.take k = pb.take k ∧ Below w.heap.size w wr) (fun i _ => pa.length - (intOf i).toNat)
        case atStart => exact ⟨0, by omega, rfl, rfl, Below.refl _ _⟩
        case round =>
          obtain ⟨k, hk, rfl, heq, hB⟩ := hrel
          have HE := Lib.hid heq
          clear heq
          by_cases hlt : k < pa.length
          · have hlt' : k < pb.length := by omega
            obtain ⟨a1, a2, a3⟩ := pcells_at pa k hlt
            obtain ⟨b1, b2, b3⟩ := pcells_at pb k hlt'
            have rd : ∀ {g o j : Nat} {v : Value}, w.cell? ⟨g, o + j, none⟩ = some v → wr.cell? ⟨g, o + j, none⟩ = some v := fun h => (hB.cell (World.block_lt_of_cell? w _ h)).trans h
            have ca1 := rd ((hca (k * 3) (by omega)).trans a1)
            have ca2 := rd ((hca (k * 3 + 1) (by omega)).trans a2)
            have ca3 := rd ((hca (k * 3 + 2) (by omega)).trans a3)
            have cb1 := rd ((hcb (k * 3) (by omega)).trans b1)
            have cb2 := rd ((hcb (k * 3 + 1) (by omega)).trans b2)
            have cb3 := rd ((hcb (k * 3 + 2) (by omega)).trans b3)
            simp only [← Nat.add_assoc] at ca2 ca3 cb2 cb3
            clear a1 a2 a3 b1 b2 b3 rd
            have i0 : (0 : Int) ≤ (k : Int) := by omega
            have i1 : (k : Int) < (pa.length : Int) := by omega
            have i2 : (k : Int) < (pb.length : Int) := by omega
            go_wp2
            by_cases hpq : pa[k] = pb[k]
            · have hdec : decide (pa[k] ≠ pb[k]) = false := by simp [hpq]
              have HPQ := Lib.hid hpq
              clear hpq
              go_region
              all_goals
                go_wp2
                go_roundw
                case rel => exact ⟨k + 1, by omega, by go_num, take_same hlt hlt' HE.out HPQ.out, hB.drew⟩
                case measure => simp [intOf]; omega
            · have hdec : decide (pa[k] ≠ pb[k]) = true := by simp [hpq]
              have hno : decide (pa = pb) = false := by
                simp only [decide_eq_false_iff_not]; intro e; subst e; exact hpq rfl
              go_region
              all_goals
                go_wp2
                go_ret
                exact ⟨by rw [hno]; rfl, hB.drew⟩
          · go_wp2
            go_ret
            have e : pa = pb := by
              have := HE.out
              rwa [List.take_of_length_le (by omega), List.take_of_length_le (by omega)] at this
            exact ⟨by simp [e], hB⟩
  · have hd : decide (pa = pb) = false := by
      simp only [decide_eq_false_iff_not]; intro e; exact hl (by rw [e])
    rw [hd]
    have hb : ((pa.length : Int) != (pb.length : Int)) = true := by rw [bne_iff_ne]; omega
    clear hl hd
    go_enter Tryd.func9, Tryd.ntmps9
    go_wp2
    go_ret
    exact ⟨rfl, Below.refl _ _⟩

end Go.Proofs.YtfmngphmmhjicaaDoor
