/- Matches of patterns. -/
import Derived.Test.YtpjllppbpnkemaaPaNew
import Derived.Test.YtpjllppbpnkemaaPaV3
namespace Go.Proofs.Ytpjllppbpnkemaa
open Go.RowKit Go.Sort Go.Maps

theorem seek_ok {p : List El} {b : List UInt8} (h : seekE p b = 0) : OkP p ∧ b.length ≤ 4096 := by
  unfold seekE at h
  by_cases h1 : (checkV p).2 = 0
  · rw [if_neg (by simpa using h1)] at h
    by_cases h2 : 4096 < b.length
    · rw [if_pos h2] at h; exact absurd h (by decide)
    · exact ⟨okP_of h1, by omega⟩
  · rw [if_pos h1] at h; exact absurd h h1
def matV (p : List El) (b : List UInt8) : Bool := if seekE p b = 0 then matchV p b else false
abbrev Bytes (w : World) (v : Value) (l : List UInt8) : Prop := Row w 1 v l.length (bcells l)
theorem Bytes.at {w : World} {a : Option Addr} {n cap : Nat} {l : List UInt8} (h : Bytes w (.slice a n cap) l) {i : Nat} (hi : i < l.length) : ∃ g o, a = some ⟨g, o, none⟩ ∧ g < w.heap.size ∧ w.cell? ⟨g, o + i, none⟩ = some (.int .u8 (l[i].toNat : Int)) := by
  obtain ⟨g, o, cp, e, hg, hc⟩ := Row.cellAt2 h hi (by omega)
  cases e
  have h0 := hc 0 (by omega)
  rw [Nat.mul_one, Nat.add_zero] at h0
  exact ⟨g, o, rfl, hg, h0.trans (by simp [bcells, List.getElem?_eq_getElem hi])⟩

set_option maxRecDepth 100000 in
set_option maxHeartbeats 20000000 in
theorem matches_p (v u : Value) (p : List El) (b : List UInt8) (w : World) (h : Pats w v p) (hb : Bytes w u b) :
    Calls Try.prog 14 #[v, u] w fun e w' => e = .returned (.tuple #[.bool (matV p b), .int .i64 (seekE p b)]) ∧ Below w.heap.size w w' := by
  have KS := Lib.hid (sought_p v u p b w h hb)
  have HP := Lib.hid h
  have HBy := Lib.hid hb
  unfold matV
  by_cases h0 : seekE p b = 0
  · obtain ⟨hok, hl⟩ := seek_ok h0
    rw [if_pos h0, h0]
    rw [h0] at KS
    have HK := Lib.hid hok
    have hle := hok.le
    obtain ⟨ua, ucap, rfl⟩ := Row.form2 hb
    clear h hb h0 hok
    go_enter Try.func14, Try.ntmps14
    go_wp2_with fail
    refine KS.out.mono ?_
    rintro e w1 ⟨rfl, hb1⟩
    have KW := Lib.hid (walk_p v p w1 (Row.below HP.out hb1) hle)
    have HB1 := Lib.hid hb1
    clear hb1 KS
    go_wp2_with fail
    refine KW.out.mono ?_
    rintro e w2 ⟨W, A, ms, rfl, hW⟩
    have K2 := Lib.hid (begin_p hW HK.out)
    clear hW KW
    go_wp2_with fail
    refine K2.out.mono ?_
    rintro e w3 ⟨rfl, hW, -⟩
    have HW := Lib.hid (hW.congr (st' := part b p (fun m => decide (m = 0)) 0 p.length) (fun j c hj => by
      rw [part_start HK.out j c hj]
      unfold enterS
      rw [gap0_gap HK.out.first]
      simp))
    clear hW K2
    go_wp2_with fail
    go_loopw [8, 23] (fun rv iv wr => ∃ k : Nat, k ≤ b.length ∧ iv = .int .i64 (k : Nat) ∧ rv = .bool (reachP b p (fun m => decide (m = 0)) k) ∧ WalkIn w1 wr W v p A ms (part b p (fun m => decide (m = 0)) k p.length)) (fun _ iv _ => b.length - (intOf iv).toNat)
    case atStart => exact ⟨0, by omega, rfl, by rw [reach_zero HK.out], HW.out⟩
    case round =>
      obtain ⟨k, hk, rfl, rfl, hW⟩ := hrel
      have HWr := Lib.hid hW
      by_cases hlt : k < b.length
      · obtain ⟨g, o, hga, hg, dn⟩ := Bytes.at (Row.below HBy.out (next HB1.out hW.b)) hlt
        subst hga
        have i0 : (0 : Int) ≤ (k : Int) := by omega
        have i1 : (k : Int) < (b.length : Int) := by omega
        have wi1 : IntKind.i64.wrap ((k : Int) + 1) = (k : Int) + 1 := IntWalk.i64_in _ (by omega)
        have KR := Lib.hid (read_p hW HK.out b[k] (List.getElem?_eq_getElem hlt))
        clear hW
        generalize reachP b p (fun m => decide (m = 0)) k = r0 at *
        generalize b[k].toNat = Y at *
        go_wp2_with fail
        refine KR.out.mono ?_
        rintro e w4 ⟨rfl, hW4, -⟩
        have KO := Lib.hid (over_p hW4 hle)
        clear hW4 KR dn
        go_wp2_with fail
        refine KO.out.mono ?_
        rintro e w5 ⟨rfl, hW5, -⟩
        have HW5 := Lib.hid (hW5.congr (st' := part b p (fun m => decide (m = 0)) (k + 1) p.length) (fun j c hj => by
          rw [part_done HK.out j c hj]
          by_cases hz : j = 0 ∧ c = 0
          · obtain ⟨rfl, rfl⟩ := hz
            rw [part_lt HK.out.pos, sees_zero]
            simp [pre, reachP]
          · have : (decide (j = 0) && decide (c = 0)) = false := by simpa using fun a b => hz ⟨a, b⟩
            rw [this]; simp))
        rw [part_over HK.out]
        clear hW5 KO
        go_wp2_with fail
        exact ⟨⟨k + 1, by omega, by go_num, rfl, HW5.out⟩, by simp [intOf]; omega⟩
      · obtain rfl : b.length = k := by omega
        have i1 : ¬ ((b.length : Int) < (b.length : Int)) := by omega
        have HM := Lib.hid (show matchV p b = reachP b p (fun m => decide (m = 0)) b.length from rfl)
        have HF := Lib.hid (next HB1.out hW.b)
        clear hW
        generalize reachP b p (fun m => decide (m = 0)) b.length = r0 at *
        go_wp2_with fail
        go_ret2
        exact ⟨by rw [HM.out]; rfl, HF.out⟩
  · rw [if_neg h0]
    have t1 : (seekE p b != 0) = true := bne_iff_ne.2 h0
    generalize seekE p b = E at *
    clear h hb h0
    go_enter Try.func14, Try.ntmps14
    go_wp2_with fail
    refine KS.out.mono ?_
    rintro e w1 ⟨rfl, hb1⟩
    have HB1 := Lib.hid hb1
    clear hb1
    go_wp2_with fail
    go_ret2
    exact ⟨rfl, HB1.out⟩
end Go.Proofs.Ytpjllppbpnkemaa
