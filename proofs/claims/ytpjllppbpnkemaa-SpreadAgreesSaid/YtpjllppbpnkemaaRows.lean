/-
  No cell of these rows narrows 'for every input' (looked for: loops, veiled, ifaces, maps, wideKeys, modest, calm, conditions, laid).
  DERIVED. THE GIVEN ROWS OF THIS SEAT. 7 by the template 'for every input the law returns true; each argument reads behind the call as it read before'; 0 by the template 'total and deterministic' (their statements: YtpjllppbpnkemaaTotals.lean).
  GIVEN WITH THE SEED: the statements are not yours to turn. If you find one false, say at which input.
  Laid BY PROGRAM, IN A SANDBOX (cutbox-rows.mjs): the forced cells as the released guide's own fill.sh prints them over the translation 390cb762345a99fa… (all of the seat's roots in one cut). By AI agents, Wed Nov 11 2026. No macro, syntax, notation, axiom, sorry.
-/
import Derived.Test.YtpjllppbpnkemaaChecked
import GoSem.Claim
import GoSem.ClaimJoined
import GoSem.ClaimMapViews
import Derived.JoinedTies
import Derived.KernelRfl
namespace Go.Proofs.Ytpjllppbpnkemaa
/- THE CELL 'sum', in the pinned program and in every row, IS THE sha256 OF THE DUMP (.gsa) THAT YtpjllppbpnkemaaProg.lean LOADS. Nothing in Lean hashes anything: it is a label: what it is worth is what the hold of that sum in a sandbox is worth. -/
noncomputable def Try.pinned : Pinned := { name := "ytpjllppbpnkemaa", sum := "390cb762345a99faed6d4f7428921cce4579eccdfdca36d208670b0d9c0b6942", checked := Try.checked }
namespace Rows
def none {H : Type} : Left H := { results := [], args := [] }

/-- 'dragnetlaw15.SpreadAgrees': WHATEVER THE INPUT: true; the input reads as it did. -/
def spreadAgreesSpec : ChangeSpec := { name := "spreadAgrees", fn := fun _ => fun
  | [d1, d2] => { results := [.lit (.bool true)], args := [d1, d2] }
  | _ => none }
def spreadAgreesRow : OpenClaim := { program := "ytpjllppbpnkemaa", sum := "390cb762345a99faed6d4f7428921cce4579eccdfdca36d208670b0d9c0b6942", func := "dragnet/dragnetlaw15.SpreadAgrees", spec := "spreadAgrees", unfollowed := true, recurses := true, apart := false }
def SpreadAgreesSaid : Prop := spreadAgreesRow.holds Try.pinned (OpenSpec.ofChange spreadAgreesSpec)

/-- ITS FALSE NEIGHBOUR: 'it returns false'. Refute it at one input. -/
def spreadAgreesWrong : ChangeSpec := { name := "spreadAgrees", fn := fun _ => fun
  | [d1, d2] => { results := [.lit (.bool false)], args := [d1, d2] }
  | _ => none }
def SpreadAgreesWrongFalsely : Prop := spreadAgreesRow.holds Try.pinned (OpenSpec.ofChange spreadAgreesWrong)

/-- 'dragnetlaw15.SpreadChooses': WHATEVER THE INPUT: true; the input reads as it did. -/
def spreadChoosesSpec : ChangeSpec := { name := "spreadChooses", fn := fun _ => fun
  | [d] => { results := [.lit (.bool true)], args := [d] }
  | _ => none }
def spreadChoosesRow : OpenClaim := { program := "ytpjllppbpnkemaa", sum := "390cb762345a99faed6d4f7428921cce4579eccdfdca36d208670b0d9c0b6942", func := "dragnet/dragnetlaw15.SpreadChooses", spec := "spreadChooses", unfollowed := true, recurses := true, apart := false }
def SpreadChoosesSaid : Prop := spreadChoosesRow.holds Try.pinned (OpenSpec.ofChange spreadChoosesSpec)

/-- ITS FALSE NEIGHBOUR: 'it returns false'. Refute it at one input. -/
def spreadChoosesWrong : ChangeSpec := { name := "spreadChooses", fn := fun _ => fun
  | [d] => { results := [.lit (.bool false)], args := [d] }
  | _ => none }
def SpreadChoosesWrongFalsely : Prop := spreadChoosesRow.holds Try.pinned (OpenSpec.ofChange spreadChoosesWrong)

/-- 'dragnetlaw15.SpreadLines': WHATEVER THE INPUT: true; the input reads as it did. -/
def spreadLinesSpec : ChangeSpec := { name := "spreadLines", fn := fun _ => fun
  | [d1, d2] => { results := [.lit (.bool true)], args := [d1, d2] }
  | _ => none }
def spreadLinesRow : OpenClaim := { program := "ytpjllppbpnkemaa", sum := "390cb762345a99faed6d4f7428921cce4579eccdfdca36d208670b0d9c0b6942", func := "dragnet/dragnetlaw15.SpreadLines", spec := "spreadLines", unfollowed := true, recurses := true, apart := false }
def SpreadLinesSaid : Prop := spreadLinesRow.holds Try.pinned (OpenSpec.ofChange spreadLinesSpec)

/-- ITS FALSE NEIGHBOUR: 'it returns false'. Refute it at one input. -/
def spreadLinesWrong : ChangeSpec := { name := "spreadLines", fn := fun _ => fun
  | [d1, d2] => { results := [.lit (.bool false)], args := [d1, d2] }
  | _ => none }
def SpreadLinesWrongFalsely : Prop := spreadLinesRow.holds Try.pinned (OpenSpec.ofChange spreadLinesWrong)

/-- 'dragnetlaw15.SpreadFits': WHATEVER THE INPUT: true; the input reads as it did. -/
def spreadFitsSpec : ChangeSpec := { name := "spreadFits", fn := fun _ => fun
  | [d] => { results := [.lit (.bool true)], args := [d] }
  | _ => none }
def spreadFitsRow : OpenClaim := { program := "ytpjllppbpnkemaa", sum := "390cb762345a99faed6d4f7428921cce4579eccdfdca36d208670b0d9c0b6942", func := "dragnet/dragnetlaw15.SpreadFits", spec := "spreadFits", unfollowed := true, recurses := true, apart := false }
def SpreadFitsSaid : Prop := spreadFitsRow.holds Try.pinned (OpenSpec.ofChange spreadFitsSpec)

/-- ITS FALSE NEIGHBOUR: 'it returns false'. Refute it at one input. -/
def spreadFitsWrong : ChangeSpec := { name := "spreadFits", fn := fun _ => fun
  | [d] => { results := [.lit (.bool false)], args := [d] }
  | _ => none }
def SpreadFitsWrongFalsely : Prop := spreadFitsRow.holds Try.pinned (OpenSpec.ofChange spreadFitsWrong)

/-- 'dragnetlaw15.SpreadKnown': WHATEVER THE INPUT: true; the input reads as it did. -/
def spreadKnownSpec : ChangeSpec := { name := "spreadKnown", fn := fun _ => fun
  | [] => { results := [.lit (.bool true)], args := [] }
  | _ => none }
def spreadKnownRow : OpenClaim := { program := "ytpjllppbpnkemaa", sum := "390cb762345a99faed6d4f7428921cce4579eccdfdca36d208670b0d9c0b6942", func := "dragnet/dragnetlaw15.SpreadKnown", spec := "spreadKnown", unfollowed := true, recurses := true, apart := false }
def SpreadKnownSaid : Prop := spreadKnownRow.holds Try.pinned (OpenSpec.ofChange spreadKnownSpec)

/-- ITS FALSE NEIGHBOUR: 'it returns false'. Refute it at one input. -/
def spreadKnownWrong : ChangeSpec := { name := "spreadKnown", fn := fun _ => fun
  | [] => { results := [.lit (.bool false)], args := [] }
  | _ => none }
def SpreadKnownWrongFalsely : Prop := spreadKnownRow.holds Try.pinned (OpenSpec.ofChange spreadKnownWrong)

/-- 'dragnetlaw15.SpreadLengths': WHATEVER THE INPUT: true; the input reads as it did. -/
def spreadLengthsSpec : ChangeSpec := { name := "spreadLengths", fn := fun _ => fun
  | [d] => { results := [.lit (.bool true)], args := [d] }
  | _ => none }
def spreadLengthsRow : OpenClaim := { program := "ytpjllppbpnkemaa", sum := "390cb762345a99faed6d4f7428921cce4579eccdfdca36d208670b0d9c0b6942", func := "dragnet/dragnetlaw15.SpreadLengths", spec := "spreadLengths", unfollowed := true, recurses := true, apart := false }
def SpreadLengthsSaid : Prop := spreadLengthsRow.holds Try.pinned (OpenSpec.ofChange spreadLengthsSpec)

/-- ITS FALSE NEIGHBOUR: 'it returns false'. Refute it at one input. -/
def spreadLengthsWrong : ChangeSpec := { name := "spreadLengths", fn := fun _ => fun
  | [d] => { results := [.lit (.bool false)], args := [d] }
  | _ => none }
def SpreadLengthsWrongFalsely : Prop := spreadLengthsRow.holds Try.pinned (OpenSpec.ofChange spreadLengthsWrong)

/-- 'dragnetlaw15.SpreadTurn': WHATEVER THE INPUT: true; the input reads as it did. -/
def spreadTurnSpec : ChangeSpec := { name := "spreadTurn", fn := fun _ => fun
  | [d] => { results := [.lit (.bool true)], args := [d] }
  | _ => none }
def spreadTurnRow : OpenClaim := { program := "ytpjllppbpnkemaa", sum := "390cb762345a99faed6d4f7428921cce4579eccdfdca36d208670b0d9c0b6942", func := "dragnet/dragnetlaw15.SpreadTurn", spec := "spreadTurn", unfollowed := true, recurses := true, apart := false }
def SpreadTurnSaid : Prop := spreadTurnRow.holds Try.pinned (OpenSpec.ofChange spreadTurnSpec)

/-- ITS FALSE NEIGHBOUR: 'it returns false'. Refute it at one input. -/
def spreadTurnWrong : ChangeSpec := { name := "spreadTurn", fn := fun _ => fun
  | [d] => { results := [.lit (.bool false)], args := [d] }
  | _ => none }
def SpreadTurnWrongFalsely : Prop := spreadTurnRow.holds Try.pinned (OpenSpec.ofChange spreadTurnWrong)

/- THE SECOND FORM. 'bulk': how many values and letters a reading holds, each counted each time it is reached (what is shared counts as often as it is met; a slice's spare places count too). A statement '..UptoSaid' is the law's where the arguments, and the package variables that the reading takes, are together of bulk at most 1048576: NARROWER than '..Said'. Prove '..Said' where nothing that the law and all that it calls make is longer than what came in: it says more and counts as full. Else prove '..UptoSaid'. A law counts once. -/
mutual
def uptoBulk {H : Type} : DataW H → Nat
  | .lit (.string bytes) => bytes.length + 1
  | .lit _ => 1
  | .nil => 1
  | .ptr d => uptoBulk d + 1
  | .slice elems spare => uptoBulkAll elems + uptoBulkAll spare + 1
  | .agg parts => uptoBulkAll parts + 1
  | .iface _ d => uptoBulk d + 1
  | .map entries => uptoBulkEntries entries + 1
  | .held _ => 1
def uptoBulkAll {H : Type} : List (DataW H) → Nat
  | [] => 0
  | d :: r => uptoBulk d + uptoBulkAll r
def uptoBulkEntries {H : Type} : List (Lit × DataW H) → Nat
  | [] => 0
  | x :: r => uptoBulkEntry x + uptoBulkEntries r
def uptoBulkEntry {H : Type} : Lit × DataW H → Nat
  | (.string bytes, d) => bytes.length + uptoBulk d + 1
  | (_, d) => uptoBulk d + 1
 end
def uptoSmall : (H : Type) → List (DataW H) → Bool := fun _ ds => decide (uptoBulkAll ds ≤ 1048576)
def OpenSpec.upto (s : _root_.Go.ChangeSpec) : _root_.Go.OpenSpec := { _root_.Go.OpenSpec.ofChange s with cond := some uptoSmall }

/-- 'dragnetlaw15.SpreadAgrees', WHERE WHAT IT READS IS OF BULK AT MOST 1048576: true; the input reads as it did. -/
def spreadAgreesUptoRow : OpenClaim := { program := "ytpjllppbpnkemaa", sum := "390cb762345a99faed6d4f7428921cce4579eccdfdca36d208670b0d9c0b6942", func := "dragnet/dragnetlaw15.SpreadAgrees", spec := "spreadAgrees", unfollowed := true, recurses := true, apart := false, narrowed := true }
def SpreadAgreesUptoSaid : Prop := spreadAgreesUptoRow.holds Try.pinned (OpenSpec.upto spreadAgreesSpec)

/-- 'dragnetlaw15.SpreadChooses', WHERE WHAT IT READS IS OF BULK AT MOST 1048576: true; the input reads as it did. -/
def spreadChoosesUptoRow : OpenClaim := { program := "ytpjllppbpnkemaa", sum := "390cb762345a99faed6d4f7428921cce4579eccdfdca36d208670b0d9c0b6942", func := "dragnet/dragnetlaw15.SpreadChooses", spec := "spreadChooses", unfollowed := true, recurses := true, apart := false, narrowed := true }
def SpreadChoosesUptoSaid : Prop := spreadChoosesUptoRow.holds Try.pinned (OpenSpec.upto spreadChoosesSpec)

/-- 'dragnetlaw15.SpreadLines', WHERE WHAT IT READS IS OF BULK AT MOST 1048576: true; the input reads as it did. -/
def spreadLinesUptoRow : OpenClaim := { program := "ytpjllppbpnkemaa", sum := "390cb762345a99faed6d4f7428921cce4579eccdfdca36d208670b0d9c0b6942", func := "dragnet/dragnetlaw15.SpreadLines", spec := "spreadLines", unfollowed := true, recurses := true, apart := false, narrowed := true }
def SpreadLinesUptoSaid : Prop := spreadLinesUptoRow.holds Try.pinned (OpenSpec.upto spreadLinesSpec)

/-- 'dragnetlaw15.SpreadFits', WHERE WHAT IT READS IS OF BULK AT MOST 1048576: true; the input reads as it did. -/
def spreadFitsUptoRow : OpenClaim := { program := "ytpjllppbpnkemaa", sum := "390cb762345a99faed6d4f7428921cce4579eccdfdca36d208670b0d9c0b6942", func := "dragnet/dragnetlaw15.SpreadFits", spec := "spreadFits", unfollowed := true, recurses := true, apart := false, narrowed := true }
def SpreadFitsUptoSaid : Prop := spreadFitsUptoRow.holds Try.pinned (OpenSpec.upto spreadFitsSpec)

/-- 'dragnetlaw15.SpreadKnown', WHERE WHAT IT READS IS OF BULK AT MOST 1048576: true; the input reads as it did. -/
def spreadKnownUptoRow : OpenClaim := { program := "ytpjllppbpnkemaa", sum := "390cb762345a99faed6d4f7428921cce4579eccdfdca36d208670b0d9c0b6942", func := "dragnet/dragnetlaw15.SpreadKnown", spec := "spreadKnown", unfollowed := true, recurses := true, apart := false, narrowed := true }
def SpreadKnownUptoSaid : Prop := spreadKnownUptoRow.holds Try.pinned (OpenSpec.upto spreadKnownSpec)

/-- 'dragnetlaw15.SpreadLengths', WHERE WHAT IT READS IS OF BULK AT MOST 1048576: true; the input reads as it did. -/
def spreadLengthsUptoRow : OpenClaim := { program := "ytpjllppbpnkemaa", sum := "390cb762345a99faed6d4f7428921cce4579eccdfdca36d208670b0d9c0b6942", func := "dragnet/dragnetlaw15.SpreadLengths", spec := "spreadLengths", unfollowed := true, recurses := true, apart := false, narrowed := true }
def SpreadLengthsUptoSaid : Prop := spreadLengthsUptoRow.holds Try.pinned (OpenSpec.upto spreadLengthsSpec)

/-- 'dragnetlaw15.SpreadTurn', WHERE WHAT IT READS IS OF BULK AT MOST 1048576: true; the input reads as it did. -/
def spreadTurnUptoRow : OpenClaim := { program := "ytpjllppbpnkemaa", sum := "390cb762345a99faed6d4f7428921cce4579eccdfdca36d208670b0d9c0b6942", func := "dragnet/dragnetlaw15.SpreadTurn", spec := "spreadTurn", unfollowed := true, recurses := true, apart := false, narrowed := true }
def SpreadTurnUptoSaid : Prop := spreadTurnUptoRow.holds Try.pinned (OpenSpec.upto spreadTurnSpec)

end Rows
end Go.Proofs.Ytpjllppbpnkemaa
