/-
  No cell of these rows narrows 'for every input' (looked for: loops, veiled, ifaces, maps, wideKeys, modest, calm, conditions, laid).
  DERIVED. THE GIVEN ROWS OF THIS SEAT. 6 by the template 'for every input the law returns true; each argument reads behind the call as it read before'; 0 by the template 'total and deterministic' (their statements: YtghdgenlkbocmaaTotals.lean).
  GIVEN WITH THE SEED: the statements are not yours to turn. If you find one false, say at which input.
  Laid BY PROGRAM, IN A SANDBOX (cutbox-rows.mjs): the forced cells as the released guide's own fill.sh prints them over the translation 1dc83f31f43f8d9d… (all of the seat's roots in one cut). By AI agents, Wed Nov 11 2026. No macro, syntax, notation, axiom, sorry.
-/
import Derived.Test.YtghdgenlkbocmaaChecked
import GoSem.Claim
import GoSem.ClaimJoined
import GoSem.ClaimMapViews
import Derived.JoinedTies
import Derived.KernelRfl
namespace Go.Proofs.Ytghdgenlkbocmaa
/- THE CELL 'sum', in the pinned program and in every row, IS THE sha256 OF THE DUMP (.gsa) THAT YtghdgenlkbocmaaProg.lean LOADS. Nothing in Lean hashes anything: it is a label: what it is worth is what the hold of that sum in a sandbox is worth. -/
noncomputable def Try.pinned : Pinned := { name := "ytghdgenlkbocmaa", sum := "1dc83f31f43f8d9d9976364c3dd3b270cc650b5eda89284cfa449d59aaff5c85", checked := Try.checked }
namespace Rows
def none {H : Type} : Left H := { results := [], args := [] }

/-- 'dragnetlaw17.LanesPacks': WHATEVER THE INPUT: true; the input reads as it did. -/
def lanesPacksSpec : ChangeSpec := { name := "lanesPacks", fn := fun _ => fun
  | [d1, d2] => { results := [.lit (.bool true)], args := [d1, d2] }
  | _ => none }
def lanesPacksRow : OpenClaim := { program := "ytghdgenlkbocmaa", sum := "1dc83f31f43f8d9d9976364c3dd3b270cc650b5eda89284cfa449d59aaff5c85", func := "dragnet/dragnetlaw17.LanesPacks", spec := "lanesPacks", unfollowed := true, recurses := true, apart := false }
def LanesPacksSaid : Prop := lanesPacksRow.holds Try.pinned (OpenSpec.ofChange lanesPacksSpec)

/-- ITS FALSE NEIGHBOUR: 'it returns false'. Refute it at one input. -/
def lanesPacksWrong : ChangeSpec := { name := "lanesPacks", fn := fun _ => fun
  | [d1, d2] => { results := [.lit (.bool false)], args := [d1, d2] }
  | _ => none }
def LanesPacksWrongFalsely : Prop := lanesPacksRow.holds Try.pinned (OpenSpec.ofChange lanesPacksWrong)

/-- 'dragnetlaw17.LanesChecks': WHATEVER THE INPUT: true; the input reads as it did. -/
def lanesChecksSpec : ChangeSpec := { name := "lanesChecks", fn := fun _ => fun
  | [d1, d2, d3] => { results := [.lit (.bool true)], args := [d1, d2, d3] }
  | _ => none }
def lanesChecksRow : OpenClaim := { program := "ytghdgenlkbocmaa", sum := "1dc83f31f43f8d9d9976364c3dd3b270cc650b5eda89284cfa449d59aaff5c85", func := "dragnet/dragnetlaw17.LanesChecks", spec := "lanesChecks", unfollowed := true, recurses := true, apart := false }
def LanesChecksSaid : Prop := lanesChecksRow.holds Try.pinned (OpenSpec.ofChange lanesChecksSpec)

/-- ITS FALSE NEIGHBOUR: 'it returns false'. Refute it at one input. -/
def lanesChecksWrong : ChangeSpec := { name := "lanesChecks", fn := fun _ => fun
  | [d1, d2, d3] => { results := [.lit (.bool false)], args := [d1, d2, d3] }
  | _ => none }
def LanesChecksWrongFalsely : Prop := lanesChecksRow.holds Try.pinned (OpenSpec.ofChange lanesChecksWrong)

/-- 'dragnetlaw17.LanesRows': WHATEVER THE INPUT: true; the input reads as it did. -/
def lanesRowsSpec : ChangeSpec := { name := "lanesRows", fn := fun _ => fun
  | [d1, d2, d3] => { results := [.lit (.bool true)], args := [d1, d2, d3] }
  | _ => none }
def lanesRowsRow : OpenClaim := { program := "ytghdgenlkbocmaa", sum := "1dc83f31f43f8d9d9976364c3dd3b270cc650b5eda89284cfa449d59aaff5c85", func := "dragnet/dragnetlaw17.LanesRows", spec := "lanesRows", unfollowed := true, recurses := true, apart := false }
def LanesRowsSaid : Prop := lanesRowsRow.holds Try.pinned (OpenSpec.ofChange lanesRowsSpec)

/-- ITS FALSE NEIGHBOUR: 'it returns false'. Refute it at one input. -/
def lanesRowsWrong : ChangeSpec := { name := "lanesRows", fn := fun _ => fun
  | [d1, d2, d3] => { results := [.lit (.bool false)], args := [d1, d2, d3] }
  | _ => none }
def LanesRowsWrongFalsely : Prop := lanesRowsRow.holds Try.pinned (OpenSpec.ofChange lanesRowsWrong)

/-- 'dragnetlaw17.LanesKnown': WHATEVER THE INPUT: true; the input reads as it did. -/
def lanesKnownSpec : ChangeSpec := { name := "lanesKnown", fn := fun _ => fun
  | [] => { results := [.lit (.bool true)], args := [] }
  | _ => none }
def lanesKnownRow : OpenClaim := { program := "ytghdgenlkbocmaa", sum := "1dc83f31f43f8d9d9976364c3dd3b270cc650b5eda89284cfa449d59aaff5c85", func := "dragnet/dragnetlaw17.LanesKnown", spec := "lanesKnown", unfollowed := true, recurses := true, apart := false }
def LanesKnownSaid : Prop := lanesKnownRow.holds Try.pinned (OpenSpec.ofChange lanesKnownSpec)

/-- ITS FALSE NEIGHBOUR: 'it returns false'. Refute it at one input. -/
def lanesKnownWrong : ChangeSpec := { name := "lanesKnown", fn := fun _ => fun
  | [] => { results := [.lit (.bool false)], args := [] }
  | _ => none }
def LanesKnownWrongFalsely : Prop := lanesKnownRow.holds Try.pinned (OpenSpec.ofChange lanesKnownWrong)

/-- 'dragnetlaw17.LanesMore': WHATEVER THE INPUT: true; the input reads as it did. -/
def lanesMoreSpec : ChangeSpec := { name := "lanesMore", fn := fun _ => fun
  | [d1, d2, d3] => { results := [.lit (.bool true)], args := [d1, d2, d3] }
  | _ => none }
def lanesMoreRow : OpenClaim := { program := "ytghdgenlkbocmaa", sum := "1dc83f31f43f8d9d9976364c3dd3b270cc650b5eda89284cfa449d59aaff5c85", func := "dragnet/dragnetlaw17.LanesMore", spec := "lanesMore", unfollowed := true, recurses := true, apart := false }
def LanesMoreSaid : Prop := lanesMoreRow.holds Try.pinned (OpenSpec.ofChange lanesMoreSpec)

/-- ITS FALSE NEIGHBOUR: 'it returns false'. Refute it at one input. -/
def lanesMoreWrong : ChangeSpec := { name := "lanesMore", fn := fun _ => fun
  | [d1, d2, d3] => { results := [.lit (.bool false)], args := [d1, d2, d3] }
  | _ => none }
def LanesMoreWrongFalsely : Prop := lanesMoreRow.holds Try.pinned (OpenSpec.ofChange lanesMoreWrong)

/-- 'dragnetlaw17.LanesApart': WHATEVER THE INPUT: true; the input reads as it did. -/
def lanesApartSpec : ChangeSpec := { name := "lanesApart", fn := fun _ => fun
  | [d] => { results := [.lit (.bool true)], args := [d] }
  | _ => none }
def lanesApartRow : OpenClaim := { program := "ytghdgenlkbocmaa", sum := "1dc83f31f43f8d9d9976364c3dd3b270cc650b5eda89284cfa449d59aaff5c85", func := "dragnet/dragnetlaw17.LanesApart", spec := "lanesApart", unfollowed := true, recurses := true, apart := false }
def LanesApartSaid : Prop := lanesApartRow.holds Try.pinned (OpenSpec.ofChange lanesApartSpec)

/-- ITS FALSE NEIGHBOUR: 'it returns false'. Refute it at one input. -/
def lanesApartWrong : ChangeSpec := { name := "lanesApart", fn := fun _ => fun
  | [d] => { results := [.lit (.bool false)], args := [d] }
  | _ => none }
def LanesApartWrongFalsely : Prop := lanesApartRow.holds Try.pinned (OpenSpec.ofChange lanesApartWrong)

/- THE SECOND FORM. 'bulk': how many values and letters a reading holds, each counted each time it is reached (what is shared counts as often as it is met; a slice's spare places count too). A statement '..UptoSaid' is the law's where the arguments, and the package variables that the reading takes, are together of bulk at most 1048576: NARROWER than '..Said'. Prove '..Said' where nothing that the law and all that it calls make is longer than what came in: it says more and counts as full. Else prove '..UptoSaid'. A law counts once. -/
mutual
def uptoBulk {H : Type} : DataW H → Nat
  | .lit (.string bytes) => bytes.length + 1
  | .lit _ => 1
  | .nil => 1
  | .ptr d => uptoBulk d + 1
  | .slice elems spare => uptoBulkAll elems + uptoBulkAll spare + 1
  | .agg parts => uptoBulkAll parts + 1
  | .iface _ d => uptoBulk d + 1
  | .map entries => uptoBulkEntries entries + 1
  | .held _ => 1
def uptoBulkAll {H : Type} : List (DataW H) → Nat
  | [] => 0
  | d :: r => uptoBulk d + uptoBulkAll r
def uptoBulkEntries {H : Type} : List (Lit × DataW H) → Nat
  | [] => 0
  | x :: r => uptoBulkEntry x + uptoBulkEntries r
def uptoBulkEntry {H : Type} : Lit × DataW H → Nat
  | (.string bytes, d) => bytes.length + uptoBulk d + 1
  | (_, d) => uptoBulk d + 1
 end
def uptoSmall : (H : Type) → List (DataW H) → Bool := fun _ ds => decide (uptoBulkAll ds ≤ 1048576)
def OpenSpec.upto (s : _root_.Go.ChangeSpec) : _root_.Go.OpenSpec := { _root_.Go.OpenSpec.ofChange s with cond := some uptoSmall }

/-- 'dragnetlaw17.LanesPacks', WHERE WHAT IT READS IS OF BULK AT MOST 1048576: true; the input reads as it did. -/
def lanesPacksUptoRow : OpenClaim := { program := "ytghdgenlkbocmaa", sum := "1dc83f31f43f8d9d9976364c3dd3b270cc650b5eda89284cfa449d59aaff5c85", func := "dragnet/dragnetlaw17.LanesPacks", spec := "lanesPacks", unfollowed := true, recurses := true, apart := false, narrowed := true }
def LanesPacksUptoSaid : Prop := lanesPacksUptoRow.holds Try.pinned (OpenSpec.upto lanesPacksSpec)

/-- 'dragnetlaw17.LanesChecks', WHERE WHAT IT READS IS OF BULK AT MOST 1048576: true; the input reads as it did. -/
def lanesChecksUptoRow : OpenClaim := { program := "ytghdgenlkbocmaa", sum := "1dc83f31f43f8d9d9976364c3dd3b270cc650b5eda89284cfa449d59aaff5c85", func := "dragnet/dragnetlaw17.LanesChecks", spec := "lanesChecks", unfollowed := true, recurses := true, apart := false, narrowed := true }
def LanesChecksUptoSaid : Prop := lanesChecksUptoRow.holds Try.pinned (OpenSpec.upto lanesChecksSpec)

/-- 'dragnetlaw17.LanesRows', WHERE WHAT IT READS IS OF BULK AT MOST 1048576: true; the input reads as it did. -/
def lanesRowsUptoRow : OpenClaim := { program := "ytghdgenlkbocmaa", sum := "1dc83f31f43f8d9d9976364c3dd3b270cc650b5eda89284cfa449d59aaff5c85", func := "dragnet/dragnetlaw17.LanesRows", spec := "lanesRows", unfollowed := true, recurses := true, apart := false, narrowed := true }
def LanesRowsUptoSaid : Prop := lanesRowsUptoRow.holds Try.pinned (OpenSpec.upto lanesRowsSpec)

/-- 'dragnetlaw17.LanesKnown', WHERE WHAT IT READS IS OF BULK AT MOST 1048576: true; the input reads as it did. -/
def lanesKnownUptoRow : OpenClaim := { program := "ytghdgenlkbocmaa", sum := "1dc83f31f43f8d9d9976364c3dd3b270cc650b5eda89284cfa449d59aaff5c85", func := "dragnet/dragnetlaw17.LanesKnown", spec := "lanesKnown", unfollowed := true, recurses := true, apart := false, narrowed := true }
def LanesKnownUptoSaid : Prop := lanesKnownUptoRow.holds Try.pinned (OpenSpec.upto lanesKnownSpec)

/-- 'dragnetlaw17.LanesMore', WHERE WHAT IT READS IS OF BULK AT MOST 1048576: true; the input reads as it did. -/
def lanesMoreUptoRow : OpenClaim := { program := "ytghdgenlkbocmaa", sum := "1dc83f31f43f8d9d9976364c3dd3b270cc650b5eda89284cfa449d59aaff5c85", func := "dragnet/dragnetlaw17.LanesMore", spec := "lanesMore", unfollowed := true, recurses := true, apart := false, narrowed := true }
def LanesMoreUptoSaid : Prop := lanesMoreUptoRow.holds Try.pinned (OpenSpec.upto lanesMoreSpec)

/-- 'dragnetlaw17.LanesApart', WHERE WHAT IT READS IS OF BULK AT MOST 1048576: true; the input reads as it did. -/
def lanesApartUptoRow : OpenClaim := { program := "ytghdgenlkbocmaa", sum := "1dc83f31f43f8d9d9976364c3dd3b270cc650b5eda89284cfa449d59aaff5c85", func := "dragnet/dragnetlaw17.LanesApart", spec := "lanesApart", unfollowed := true, recurses := true, apart := false, narrowed := true }
def LanesApartUptoSaid : Prop := lanesApartUptoRow.holds Try.pinned (OpenSpec.upto lanesApartSpec)

end Rows
end Go.Proofs.Ytghdgenlkbocmaa
