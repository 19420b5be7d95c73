/-
  No cell of these rows narrows 'for every input' (looked for: loops, veiled, ifaces, maps, wideKeys, modest, calm, conditions, laid).
  DERIVED. THE GIVEN ROWS OF THIS SEAT. 7 by the template 'for every input the law returns true; each argument reads behind the call as it read before'; 0 by the template 'total and deterministic' (their statements: YtdfofojlnkhjjaaTotals.lean).
  GIVEN WITH THE SEED: the statements are not yours to turn. If you find one false, say at which input.
  Laid BY PROGRAM, IN A SANDBOX (cutbox-rows.mjs): the forced cells as the released guide's own fill.sh prints them over the translation 2cfd8f6c90803f98… (all of the seat's roots in one cut). By AI agents, Wed Nov 11 2026. No macro, syntax, notation, axiom, sorry.
-/
import Derived.Test.YtdfofojlnkhjjaaChecked
import GoSem.Claim
import GoSem.ClaimJoined
import GoSem.ClaimMapViews
import Derived.JoinedTies
import Derived.KernelRfl
namespace Go.Proofs.Ytdfofojlnkhjjaa
/- THE CELL 'sum', in the pinned program and in every row, IS THE sha256 OF THE DUMP (.gsa) THAT YtdfofojlnkhjjaaProg.lean LOADS. Nothing in Lean hashes anything: it is a label: what it is worth is what the hold of that sum in a sandbox is worth. -/
noncomputable def Try.pinned : Pinned := { name := "ytdfofojlnkhjjaa", sum := "2cfd8f6c90803f983ff35474fa6d779d6e851df22ef9f8b802868d9358be7d77", checked := Try.checked }
namespace Rows
def none {H : Type} : Left H := { results := [], args := [] }

/-- 'dragnetlaw31.CostForms': WHATEVER THE INPUT: true; the input reads as it did. -/
def costFormsSpec : ChangeSpec := { name := "costForms", fn := fun _ => fun
  | [d1, d2, d3] => { results := [.lit (.bool true)], args := [d1, d2, d3] }
  | _ => none }
def costFormsRow : OpenClaim := { program := "ytdfofojlnkhjjaa", sum := "2cfd8f6c90803f983ff35474fa6d779d6e851df22ef9f8b802868d9358be7d77", func := "dragnet/dragnetlaw31.CostForms", spec := "costForms", apart := false }
def CostFormsSaid : Prop := costFormsRow.holds Try.pinned (OpenSpec.ofChange costFormsSpec)

/-- ITS FALSE NEIGHBOUR: 'it returns false'. Refute it at one input. -/
def costFormsWrong : ChangeSpec := { name := "costForms", fn := fun _ => fun
  | [d1, d2, d3] => { results := [.lit (.bool false)], args := [d1, d2, d3] }
  | _ => none }
def CostFormsWrongFalsely : Prop := costFormsRow.holds Try.pinned (OpenSpec.ofChange costFormsWrong)

/-- 'dragnetlaw31.CostBound': WHATEVER THE INPUT: true; the input reads as it did. -/
def costBoundSpec : ChangeSpec := { name := "costBound", fn := fun _ => fun
  | [d1, d2, d3] => { results := [.lit (.bool true)], args := [d1, d2, d3] }
  | _ => none }
def costBoundRow : OpenClaim := { program := "ytdfofojlnkhjjaa", sum := "2cfd8f6c90803f983ff35474fa6d779d6e851df22ef9f8b802868d9358be7d77", func := "dragnet/dragnetlaw31.CostBound", spec := "costBound", apart := false }
def CostBoundSaid : Prop := costBoundRow.holds Try.pinned (OpenSpec.ofChange costBoundSpec)

/-- ITS FALSE NEIGHBOUR: 'it returns false'. Refute it at one input. -/
def costBoundWrong : ChangeSpec := { name := "costBound", fn := fun _ => fun
  | [d1, d2, d3] => { results := [.lit (.bool false)], args := [d1, d2, d3] }
  | _ => none }
def CostBoundWrongFalsely : Prop := costBoundRow.holds Try.pinned (OpenSpec.ofChange costBoundWrong)

/-- 'dragnetlaw31.CostSums': WHATEVER THE INPUT: true; the input reads as it did. -/
def costSumsSpec : ChangeSpec := { name := "costSums", fn := fun _ => fun
  | [d1, d2, d3] => { results := [.lit (.bool true)], args := [d1, d2, d3] }
  | _ => none }
def costSumsRow : OpenClaim := { program := "ytdfofojlnkhjjaa", sum := "2cfd8f6c90803f983ff35474fa6d779d6e851df22ef9f8b802868d9358be7d77", func := "dragnet/dragnetlaw31.CostSums", spec := "costSums", apart := false }
def CostSumsSaid : Prop := costSumsRow.holds Try.pinned (OpenSpec.ofChange costSumsSpec)

/-- ITS FALSE NEIGHBOUR: 'it returns false'. Refute it at one input. -/
def costSumsWrong : ChangeSpec := { name := "costSums", fn := fun _ => fun
  | [d1, d2, d3] => { results := [.lit (.bool false)], args := [d1, d2, d3] }
  | _ => none }
def CostSumsWrongFalsely : Prop := costSumsRow.holds Try.pinned (OpenSpec.ofChange costSumsWrong)

/-- 'dragnetlaw31.CostKepts': WHATEVER THE INPUT: true; the input reads as it did. -/
def costKeptsSpec : ChangeSpec := { name := "costKepts", fn := fun _ => fun
  | [d1, d2, d3] => { results := [.lit (.bool true)], args := [d1, d2, d3] }
  | _ => none }
def costKeptsRow : OpenClaim := { program := "ytdfofojlnkhjjaa", sum := "2cfd8f6c90803f983ff35474fa6d779d6e851df22ef9f8b802868d9358be7d77", func := "dragnet/dragnetlaw31.CostKepts", spec := "costKepts", unfollowed := true, recurses := true, apart := false }
def CostKeptsSaid : Prop := costKeptsRow.holds Try.pinned (OpenSpec.ofChange costKeptsSpec)

/-- ITS FALSE NEIGHBOUR: 'it returns false'. Refute it at one input. -/
def costKeptsWrong : ChangeSpec := { name := "costKepts", fn := fun _ => fun
  | [d1, d2, d3] => { results := [.lit (.bool false)], args := [d1, d2, d3] }
  | _ => none }
def CostKeptsWrongFalsely : Prop := costKeptsRow.holds Try.pinned (OpenSpec.ofChange costKeptsWrong)

/-- 'dragnetlaw31.CostTotals': WHATEVER THE INPUT: true; the input reads as it did. -/
def costTotalsSpec : ChangeSpec := { name := "costTotals", fn := fun _ => fun
  | [d1, d2, d3] => { results := [.lit (.bool true)], args := [d1, d2, d3] }
  | _ => none }
def costTotalsRow : OpenClaim := { program := "ytdfofojlnkhjjaa", sum := "2cfd8f6c90803f983ff35474fa6d779d6e851df22ef9f8b802868d9358be7d77", func := "dragnet/dragnetlaw31.CostTotals", spec := "costTotals", unfollowed := true, recurses := true, apart := false }
def CostTotalsSaid : Prop := costTotalsRow.holds Try.pinned (OpenSpec.ofChange costTotalsSpec)

/-- ITS FALSE NEIGHBOUR: 'it returns false'. Refute it at one input. -/
def costTotalsWrong : ChangeSpec := { name := "costTotals", fn := fun _ => fun
  | [d1, d2, d3] => { results := [.lit (.bool false)], args := [d1, d2, d3] }
  | _ => none }
def CostTotalsWrongFalsely : Prop := costTotalsRow.holds Try.pinned (OpenSpec.ofChange costTotalsWrong)

/-- 'dragnetlaw31.CostLengths': WHATEVER THE INPUT: true; the input reads as it did. -/
def costLengthsSpec : ChangeSpec := { name := "costLengths", fn := fun _ => fun
  | [d1, d2, d3] => { results := [.lit (.bool true)], args := [d1, d2, d3] }
  | _ => none }
def costLengthsRow : OpenClaim := { program := "ytdfofojlnkhjjaa", sum := "2cfd8f6c90803f983ff35474fa6d779d6e851df22ef9f8b802868d9358be7d77", func := "dragnet/dragnetlaw31.CostLengths", spec := "costLengths", unfollowed := true, recurses := true, apart := false }
def CostLengthsSaid : Prop := costLengthsRow.holds Try.pinned (OpenSpec.ofChange costLengthsSpec)

/-- ITS FALSE NEIGHBOUR: 'it returns false'. Refute it at one input. -/
def costLengthsWrong : ChangeSpec := { name := "costLengths", fn := fun _ => fun
  | [d1, d2, d3] => { results := [.lit (.bool false)], args := [d1, d2, d3] }
  | _ => none }
def CostLengthsWrongFalsely : Prop := costLengthsRow.holds Try.pinned (OpenSpec.ofChange costLengthsWrong)

/-- 'dragnetlaw31.CostKnown': WHATEVER THE INPUT: true; the input reads as it did. -/
def costKnownSpec : ChangeSpec := { name := "costKnown", fn := fun _ => fun
  | [] => { results := [.lit (.bool true)], args := [] }
  | _ => none }
def costKnownRow : OpenClaim := { program := "ytdfofojlnkhjjaa", sum := "2cfd8f6c90803f983ff35474fa6d779d6e851df22ef9f8b802868d9358be7d77", func := "dragnet/dragnetlaw31.CostKnown", spec := "costKnown", unfollowed := true, recurses := true, apart := false }
def CostKnownSaid : Prop := costKnownRow.holds Try.pinned (OpenSpec.ofChange costKnownSpec)

/-- ITS FALSE NEIGHBOUR: 'it returns false'. Refute it at one input. -/
def costKnownWrong : ChangeSpec := { name := "costKnown", fn := fun _ => fun
  | [] => { results := [.lit (.bool false)], args := [] }
  | _ => none }
def CostKnownWrongFalsely : Prop := costKnownRow.holds Try.pinned (OpenSpec.ofChange costKnownWrong)

/- THE SECOND FORM. 'bulk': how many values and letters a reading holds, each counted each time it is reached (what is shared counts as often as it is met; a slice's spare places count too). A statement '..UptoSaid' is the law's where the arguments, and the package variables that the reading takes, are together of bulk at most 1048576: NARROWER than '..Said'. Prove '..Said' where nothing that the law and all that it calls make is longer than what came in: it says more and counts as full. Else prove '..UptoSaid'. A law counts once. -/
mutual
def uptoBulk {H : Type} : DataW H → Nat
  | .lit (.string bytes) => bytes.length + 1
  | .lit _ => 1
  | .nil => 1
  | .ptr d => uptoBulk d + 1
  | .slice elems spare => uptoBulkAll elems + uptoBulkAll spare + 1
  | .agg parts => uptoBulkAll parts + 1
  | .iface _ d => uptoBulk d + 1
  | .map entries => uptoBulkEntries entries + 1
  | .held _ => 1
def uptoBulkAll {H : Type} : List (DataW H) → Nat
  | [] => 0
  | d :: r => uptoBulk d + uptoBulkAll r
def uptoBulkEntries {H : Type} : List (Lit × DataW H) → Nat
  | [] => 0
  | x :: r => uptoBulkEntry x + uptoBulkEntries r
def uptoBulkEntry {H : Type} : Lit × DataW H → Nat
  | (.string bytes, d) => bytes.length + uptoBulk d + 1
  | (_, d) => uptoBulk d + 1
 end
def uptoSmall : (H : Type) → List (DataW H) → Bool := fun _ ds => decide (uptoBulkAll ds ≤ 1048576)
def OpenSpec.upto (s : _root_.Go.ChangeSpec) : _root_.Go.OpenSpec := { _root_.Go.OpenSpec.ofChange s with cond := some uptoSmall }

/-- 'dragnetlaw31.CostForms', WHERE WHAT IT READS IS OF BULK AT MOST 1048576: true; the input reads as it did. -/
def costFormsUptoRow : OpenClaim := { program := "ytdfofojlnkhjjaa", sum := "2cfd8f6c90803f983ff35474fa6d779d6e851df22ef9f8b802868d9358be7d77", func := "dragnet/dragnetlaw31.CostForms", spec := "costForms", apart := false, narrowed := true }
def CostFormsUptoSaid : Prop := costFormsUptoRow.holds Try.pinned (OpenSpec.upto costFormsSpec)

/-- 'dragnetlaw31.CostBound', WHERE WHAT IT READS IS OF BULK AT MOST 1048576: true; the input reads as it did. -/
def costBoundUptoRow : OpenClaim := { program := "ytdfofojlnkhjjaa", sum := "2cfd8f6c90803f983ff35474fa6d779d6e851df22ef9f8b802868d9358be7d77", func := "dragnet/dragnetlaw31.CostBound", spec := "costBound", apart := false, narrowed := true }
def CostBoundUptoSaid : Prop := costBoundUptoRow.holds Try.pinned (OpenSpec.upto costBoundSpec)

/-- 'dragnetlaw31.CostSums', WHERE WHAT IT READS IS OF BULK AT MOST 1048576: true; the input reads as it did. -/
def costSumsUptoRow : OpenClaim := { program := "ytdfofojlnkhjjaa", sum := "2cfd8f6c90803f983ff35474fa6d779d6e851df22ef9f8b802868d9358be7d77", func := "dragnet/dragnetlaw31.CostSums", spec := "costSums", apart := false, narrowed := true }
def CostSumsUptoSaid : Prop := costSumsUptoRow.holds Try.pinned (OpenSpec.upto costSumsSpec)

/-- 'dragnetlaw31.CostKepts', WHERE WHAT IT READS IS OF BULK AT MOST 1048576: true; the input reads as it did. -/
def costKeptsUptoRow : OpenClaim := { program := "ytdfofojlnkhjjaa", sum := "2cfd8f6c90803f983ff35474fa6d779d6e851df22ef9f8b802868d9358be7d77", func := "dragnet/dragnetlaw31.CostKepts", spec := "costKepts", unfollowed := true, recurses := true, apart := false, narrowed := true }
def CostKeptsUptoSaid : Prop := costKeptsUptoRow.holds Try.pinned (OpenSpec.upto costKeptsSpec)

/-- 'dragnetlaw31.CostTotals', WHERE WHAT IT READS IS OF BULK AT MOST 1048576: true; the input reads as it did. -/
def costTotalsUptoRow : OpenClaim := { program := "ytdfofojlnkhjjaa", sum := "2cfd8f6c90803f983ff35474fa6d779d6e851df22ef9f8b802868d9358be7d77", func := "dragnet/dragnetlaw31.CostTotals", spec := "costTotals", unfollowed := true, recurses := true, apart := false, narrowed := true }
def CostTotalsUptoSaid : Prop := costTotalsUptoRow.holds Try.pinned (OpenSpec.upto costTotalsSpec)

/-- 'dragnetlaw31.CostLengths', WHERE WHAT IT READS IS OF BULK AT MOST 1048576: true; the input reads as it did. -/
def costLengthsUptoRow : OpenClaim := { program := "ytdfofojlnkhjjaa", sum := "2cfd8f6c90803f983ff35474fa6d779d6e851df22ef9f8b802868d9358be7d77", func := "dragnet/dragnetlaw31.CostLengths", spec := "costLengths", unfollowed := true, recurses := true, apart := false, narrowed := true }
def CostLengthsUptoSaid : Prop := costLengthsUptoRow.holds Try.pinned (OpenSpec.upto costLengthsSpec)

/-- 'dragnetlaw31.CostKnown', WHERE WHAT IT READS IS OF BULK AT MOST 1048576: true; the input reads as it did. -/
def costKnownUptoRow : OpenClaim := { program := "ytdfofojlnkhjjaa", sum := "2cfd8f6c90803f983ff35474fa6d779d6e851df22ef9f8b802868d9358be7d77", func := "dragnet/dragnetlaw31.CostKnown", spec := "costKnown", unfollowed := true, recurses := true, apart := false, narrowed := true }
def CostKnownUptoSaid : Prop := costKnownUptoRow.holds Try.pinned (OpenSpec.upto costKnownSpec)

end Rows
end Go.Proofs.Ytdfofojlnkhjjaa
