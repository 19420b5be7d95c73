/- The arguments of a law, opened off their types alone. -/
import Derived.Test.YtllkohjmghoipaaRows
import Derived.WalkKit
import Derived.ProofKit
import Derived.OpenShut
import Derived.ShutString
import Derived.ChangeOld
import Derived.Below
namespace Go.Proofs.Ytllkohjmghoipaa
open Go.RowKit

theorem arg_int {P : Program} {w : World} {r : Reach} {b : Nat} {t : TypeId} {k : IntKind} {v : Value} (h : P.underlying t = some (.int k)) (hv : Value.okWide P w r b t v) : ∃ n, v = .int k n ∧ k.has n := by
  simp only [Value.okWide, h, Cell.okWide] at hv
  cases v <;> simp_all [Cell.ok]
theorem arg_string {P : Program} {w : World} {r : Reach} {b : Nat} {t : TypeId} {v : Value} (h : P.underlying t = some .string) (hv : Value.okWide P w r b t v) : ∃ s, v = .string s ∧ s.size ≤ maxLen := by
  simp only [Value.okWide, h, Cell.okWide] at hv
  cases v with
  | string s =>
    simp only [Cell.ok, h, IntKind.max, IntKind.signed, IntKind.bits] at hv
    refine ⟨s, rfl, ?_⟩
    unfold maxLen
    simp at hv
    omega
  | _ => simp_all [Cell.ok]
theorem arg_bool {P : Program} {w : World} {r : Reach} {b : Nat} {t : TypeId} {v : Value} (h : P.underlying t = some .bool) (hv : Value.okWide P w r b t v) : ∃ n, v = .bool n := by
  simp only [Value.okWide, h, Cell.okWide] at hv
  cases v <;> simp_all [Cell.ok]

theorem has_i64 {n : Int} (h : IntKind.i64.has n) : -9223372036854775808 ≤ n ∧ n ≤ 9223372036854775807 := by
  simpa [IntKind.has, IntKind.min, IntKind.max, IntKind.signed, IntKind.bits] using h
theorem has_u64 {n : Int} (h : IntKind.u64.has n) : 0 ≤ n ∧ n ≤ 18446744073709551615 := by
  simpa [IntKind.has, IntKind.min, IntKind.max, IntKind.signed, IntKind.bits] using h
theorem has_u8 {n : Int} (h : IntKind.u8.has n) : 0 ≤ n ∧ n ≤ 255 := by
  simpa [IntKind.has, IntKind.min, IntKind.max, IntKind.signed, IntKind.bits] using h
theorem has_u16 {n : Int} (h : IntKind.u16.has n) : 0 ≤ n ∧ n ≤ 65535 := by
  simpa [IntKind.has, IntKind.min, IntKind.max, IntKind.signed, IntKind.bits] using h

def flatB (P : Program) (t : TypeId) : Bool := match P.underlying t with
  | some (.struct _) | some (.array _ _) => true
  | _ => false

theorem arg_agg {P : Program} {w : World} {r : Reach} {b : Nat} {t : TypeId} {v : Value} {ts : List TypeId} (hu : flatB P t = true) (hts : P.cellTypes P.depth t = some ts) (hn : P.cellsOf t = ts.length)
    (hv : Value.okWide P w r b t v) : ∃ cs, v = .agg cs ∧ cs.size = ts.length ∧ ∀ (i : Nat) (u : TypeId) (x : Value), ts[i]? = some u → cs[i]? = some x → Cell.okWide P w r b u x := by
  unfold Value.okWide at hv
  unfold flatB at hu
  have key : (∃ cs, v = .agg cs ∧ cs.size = P.cellsOf t ∧ Row.okWide P w r b t cs) → ∃ cs, v = .agg cs ∧ cs.size = ts.length ∧ ∀ (i : Nat) (u : TypeId) (x : Value), ts[i]? = some u → cs[i]? = some x → Cell.okWide P w r b u x := by
    rintro ⟨cs, rfl, hs, ts', hts', _, hc⟩
    rw [hts] at hts'
    obtain rfl := Option.some.inj hts'
    refine ⟨cs, rfl, by omega, fun i u x hi hx => ?_⟩
    have hl : i < ts.length := (List.getElem?_eq_some_iff.1 hi).1
    obtain ⟨u', hu', hok⟩ := hc i x hx
    rw [Nat.mod_eq_of_lt hl, hi] at hu'
    obtain rfl := Option.some.inj hu'
    exact hok
  split at hv <;> first | exact key hv | simp_all

theorem cell_int {P : Program} {w : World} {r : Reach} {b : Nat} {t : TypeId} {k : IntKind} {v : Value} (h : P.underlying t = some (.int k)) (hv : Cell.okWide P w r b t v) : ∃ n, v = .int k n ∧ k.has n := by
  simp only [h, Cell.okWide] at hv
  cases v <;> simp_all [Cell.ok]

theorem cells4 {cs : Array Value} (h : cs.size = 4) : ∃ a b c d, cs = #[a, b, c, d] :=
  ⟨cs[0], cs[1], cs[2], cs[3], by apply Array.ext <;> simp [h]; intro i h1 h2; match i, h2 with | 0, _ => rfl | 1, _ => rfl | 2, _ => rfl | 3, _ => rfl⟩

end Go.Proofs.Ytllkohjmghoipaa
