/- Parts that a pattern matches, plainly. -/
import Derived.Test.YtllkohjmghoipaaPaV5
namespace Go.Proofs.Ytllkohjmghoipaa
open Go.RowKit

def someTo (b : List UInt8) (p : List El) (n k : Nat) : Bool := (List.range k).any fun f => matchV p ((b.take n).drop f)
theorem someTo_succ (b : List UInt8) (p : List El) (n k : Nat) : someTo b p n (k + 1) = (someTo b p n k || matchV p ((b.take n).drop k)) := by
  unfold someTo
  rw [List.range_succ, List.any_append]
  simp
def hasTo (l : List Nat) (n i : Nat) : Bool := (l.take i).any fun m => decide (m = n)
theorem hasTo_succ {l : List Nat} {n i : Nat} (h : i < l.length) : hasTo l n (i + 1) = (hasTo l n i || decide (l[i] = n)) := by
  unfold hasTo
  rw [List.take_succ_eq_append_getElem h, List.any_append]
  simp
theorem some_listed {b : List UInt8} {p : List El} {n : Nat} (hn : n ≤ b.length) : someTo b p n (n + 1) = hasTo (endsV p b) n (endsV p b).length := by
  unfold someTo hasTo
  rw [Bool.eq_iff_iff, List.take_length, List.any_eq_true, List.any_eq_true]
  constructor
  · rintro ⟨f, hf, h⟩
    rw [List.mem_range] at hf
    have := (matchV_part (by omega) hn).1 h
    exact ⟨n, endsV_mem.2 ⟨hn, f, this⟩, by simp⟩
  · rintro ⟨m, hm, h⟩
    have : m = n := by simpa using h
    subst this
    obtain ⟨_, f, hf⟩ := endsV_mem.1 hm
    exact ⟨f, by rw [List.mem_range]; have := fits_le hf; omega, (matchV_part (fits_le hf) hn).2 hf⟩
theorem lens_ok {b : List UInt8} {p : List El} (h : OkP p) (hm : matchV p b = true) : leastV p ≤ b.length ∧ (b.length : Int) ≤ mostV p := by
  have := fits_lens (h.high) (matchV_fits.1 hm)
  simpa using this
theorem pairE_ok {p q : List El} (h : pairE p q = 0) : OkP p ∧ OkP q := by
  unfold pairE at h
  by_cases h0 : (checkV p).2 = 0
  · rw [if_pos h0] at h
    exact ⟨okP_of h0, okP_of h⟩
  · rw [if_neg h0] at h; exact absurd h h0
theorem with_ok {b : List UInt8} {p q : List El} (hb : b.length ≤ 4096) (h : pairE p q = 0) (hw : withinV p q = true) (hm : matchV p b = true) : seekE q b = 0 ∧ matV q b = true := by
  obtain ⟨hp, hq⟩ := pairE_ok h
  unfold withinV at hw
  rw [if_pos h] at hw
  refine ⟨seekE_ok hq hb, ?_⟩
  rw [matV_ok hq hb, matchV_fits]
  exact fits_in hw (fun x hx hg => by obtain ⟨a, c, _⟩ := hp.high x hx hg; omega) (matchV_fits.1 hm)
end Go.Proofs.Ytllkohjmghoipaa
