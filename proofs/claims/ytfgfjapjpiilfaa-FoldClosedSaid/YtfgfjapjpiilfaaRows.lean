/-
  No cell of these rows narrows 'for every input' (looked for: loops, veiled, ifaces, maps, wideKeys, modest, calm, conditions, laid).
  DERIVED. THE GIVEN ROWS OF THIS SEAT. 8 by the template 'for every input the law returns true; each argument reads behind the call as it read before'; 0 by the template 'total and deterministic' (their statements: YtfgfjapjpiilfaaTotals.lean).
  GIVEN WITH THE SEED: the statements are not yours to turn. If you find one false, say at which input.
  Laid BY PROGRAM, IN A SANDBOX (cutbox-rows.mjs): the forced cells as the released guide's own fill.sh prints them over the translation 31dcfb5391960f90… (all of the seat's roots in one cut). By AI agents, Wed Nov 11 2026. No macro, syntax, notation, axiom, sorry.
-/
import Derived.Test.YtfgfjapjpiilfaaChecked
import GoSem.Claim
import GoSem.ClaimJoined
import GoSem.ClaimMapViews
import Derived.JoinedTies
import Derived.KernelRfl
namespace Go.Proofs.Ytfgfjapjpiilfaa
/- THE CELL 'sum', in the pinned program and in every row, IS THE sha256 OF THE DUMP (.gsa) THAT YtfgfjapjpiilfaaProg.lean LOADS. Nothing in Lean hashes anything: it is a label: what it is worth is what the hold of that sum in a sandbox is worth. -/
noncomputable def Try.pinned : Pinned := { name := "ytfgfjapjpiilfaa", sum := "31dcfb5391960f90ed0765a8306b03e29205d6b3c634c59a7d92555b89701c4d", checked := Try.checked }
namespace Rows
def none {H : Type} : Left H := { results := [], args := [] }

/-- 'dragnetlaw04.FoldFinds': WHATEVER THE INPUT: true; the input reads as it did. -/
def foldFindsSpec : ChangeSpec := { name := "foldFinds", fn := fun _ => fun
  | [d1, d2] => { results := [.lit (.bool true)], args := [d1, d2] }
  | _ => none }
def foldFindsRow : OpenClaim := { program := "ytfgfjapjpiilfaa", sum := "31dcfb5391960f90ed0765a8306b03e29205d6b3c634c59a7d92555b89701c4d", func := "dragnet/dragnetlaw04.FoldFinds", spec := "foldFinds", inPlace := ["internal/bytealg.abigen_runtime_cmpstring"], unfollowed := true, recurses := true, apart := false }
def FoldFindsSaid : Prop := foldFindsRow.holds Try.pinned (OpenSpec.ofChange foldFindsSpec)

/-- ITS FALSE NEIGHBOUR: 'it returns false'. Refute it at one input. -/
def foldFindsWrong : ChangeSpec := { name := "foldFinds", fn := fun _ => fun
  | [d1, d2] => { results := [.lit (.bool false)], args := [d1, d2] }
  | _ => none }
def FoldFindsWrongFalsely : Prop := foldFindsRow.holds Try.pinned (OpenSpec.ofChange foldFindsWrong)

/-- 'dragnetlaw04.FoldKeys': WHATEVER THE INPUT: true; the input reads as it did. -/
def foldKeysSpec : ChangeSpec := { name := "foldKeys", fn := fun _ => fun
  | [d1, d2, d3] => { results := [.lit (.bool true)], args := [d1, d2, d3] }
  | _ => none }
def foldKeysRow : OpenClaim := { program := "ytfgfjapjpiilfaa", sum := "31dcfb5391960f90ed0765a8306b03e29205d6b3c634c59a7d92555b89701c4d", func := "dragnet/dragnetlaw04.FoldKeys", spec := "foldKeys", inPlace := ["internal/bytealg.abigen_runtime_cmpstring"], unfollowed := true, recurses := true, apart := false }
def FoldKeysSaid : Prop := foldKeysRow.holds Try.pinned (OpenSpec.ofChange foldKeysSpec)

/-- ITS FALSE NEIGHBOUR: 'it returns false'. Refute it at one input. -/
def foldKeysWrong : ChangeSpec := { name := "foldKeys", fn := fun _ => fun
  | [d1, d2, d3] => { results := [.lit (.bool false)], args := [d1, d2, d3] }
  | _ => none }
def FoldKeysWrongFalsely : Prop := foldKeysRow.holds Try.pinned (OpenSpec.ofChange foldKeysWrong)

/-- 'dragnetlaw04.FoldKnown': WHATEVER THE INPUT: true; the input reads as it did. -/
def foldKnownSpec : ChangeSpec := { name := "foldKnown", fn := fun _ => fun
  | [] => { results := [.lit (.bool true)], args := [] }
  | _ => none }
def foldKnownRow : OpenClaim := { program := "ytfgfjapjpiilfaa", sum := "31dcfb5391960f90ed0765a8306b03e29205d6b3c634c59a7d92555b89701c4d", func := "dragnet/dragnetlaw04.FoldKnown", spec := "foldKnown", inPlace := ["internal/bytealg.abigen_runtime_cmpstring"], unfollowed := true, recurses := true, apart := false }
def FoldKnownSaid : Prop := foldKnownRow.holds Try.pinned (OpenSpec.ofChange foldKnownSpec)

/-- ITS FALSE NEIGHBOUR: 'it returns false'. Refute it at one input. -/
def foldKnownWrong : ChangeSpec := { name := "foldKnown", fn := fun _ => fun
  | [] => { results := [.lit (.bool false)], args := [] }
  | _ => none }
def FoldKnownWrongFalsely : Prop := foldKnownRow.holds Try.pinned (OpenSpec.ofChange foldKnownWrong)

/-- 'dragnetlaw04.FoldSets': WHATEVER THE INPUT: true; the input reads as it did. -/
def foldSetsSpec : ChangeSpec := { name := "foldSets", fn := fun _ => fun
  | [d] => { results := [.lit (.bool true)], args := [d] }
  | _ => none }
def foldSetsRow : OpenClaim := { program := "ytfgfjapjpiilfaa", sum := "31dcfb5391960f90ed0765a8306b03e29205d6b3c634c59a7d92555b89701c4d", func := "dragnet/dragnetlaw04.FoldSets", spec := "foldSets", inPlace := ["internal/bytealg.abigen_runtime_cmpstring"], unfollowed := true, recurses := true, apart := false }
def FoldSetsSaid : Prop := foldSetsRow.holds Try.pinned (OpenSpec.ofChange foldSetsSpec)

/-- ITS FALSE NEIGHBOUR: 'it returns false'. Refute it at one input. -/
def foldSetsWrong : ChangeSpec := { name := "foldSets", fn := fun _ => fun
  | [d] => { results := [.lit (.bool false)], args := [d] }
  | _ => none }
def FoldSetsWrongFalsely : Prop := foldSetsRow.holds Try.pinned (OpenSpec.ofChange foldSetsWrong)

/-- 'dragnetlaw04.FoldBytes': WHATEVER THE INPUT: true; the input reads as it did. -/
def foldBytesSpec : ChangeSpec := { name := "foldBytes", fn := fun _ => fun
  | [d1, d2] => { results := [.lit (.bool true)], args := [d1, d2] }
  | _ => none }
def foldBytesRow : OpenClaim := { program := "ytfgfjapjpiilfaa", sum := "31dcfb5391960f90ed0765a8306b03e29205d6b3c634c59a7d92555b89701c4d", func := "dragnet/dragnetlaw04.FoldBytes", spec := "foldBytes", inPlace := ["internal/bytealg.abigen_runtime_cmpstring"], unfollowed := true, recurses := true, apart := false }
def FoldBytesSaid : Prop := foldBytesRow.holds Try.pinned (OpenSpec.ofChange foldBytesSpec)

/-- ITS FALSE NEIGHBOUR: 'it returns false'. Refute it at one input. -/
def foldBytesWrong : ChangeSpec := { name := "foldBytes", fn := fun _ => fun
  | [d1, d2] => { results := [.lit (.bool false)], args := [d1, d2] }
  | _ => none }
def FoldBytesWrongFalsely : Prop := foldBytesRow.holds Try.pinned (OpenSpec.ofChange foldBytesWrong)

/-- 'dragnetlaw04.FoldClosed': WHATEVER THE INPUT: true; the input reads as it did. -/
def foldClosedSpec : ChangeSpec := { name := "foldClosed", fn := fun _ => fun
  | [d1, d2] => { results := [.lit (.bool true)], args := [d1, d2] }
  | _ => none }
def foldClosedRow : OpenClaim := { program := "ytfgfjapjpiilfaa", sum := "31dcfb5391960f90ed0765a8306b03e29205d6b3c634c59a7d92555b89701c4d", func := "dragnet/dragnetlaw04.FoldClosed", spec := "foldClosed", inPlace := ["internal/bytealg.abigen_runtime_cmpstring"], unfollowed := true, recurses := true, apart := false }
def FoldClosedSaid : Prop := foldClosedRow.holds Try.pinned (OpenSpec.ofChange foldClosedSpec)

/-- ITS FALSE NEIGHBOUR: 'it returns false'. Refute it at one input. -/
def foldClosedWrong : ChangeSpec := { name := "foldClosed", fn := fun _ => fun
  | [d1, d2] => { results := [.lit (.bool false)], args := [d1, d2] }
  | _ => none }
def FoldClosedWrongFalsely : Prop := foldClosedRow.holds Try.pinned (OpenSpec.ofChange foldClosedWrong)

/-- 'dragnetlaw04.FoldStrings': WHATEVER THE INPUT: true; the input reads as it did. -/
def foldStringsSpec : ChangeSpec := { name := "foldStrings", fn := fun _ => fun
  | [d1, d2] => { results := [.lit (.bool true)], args := [d1, d2] }
  | _ => none }
def foldStringsRow : OpenClaim := { program := "ytfgfjapjpiilfaa", sum := "31dcfb5391960f90ed0765a8306b03e29205d6b3c634c59a7d92555b89701c4d", func := "dragnet/dragnetlaw04.FoldStrings", spec := "foldStrings", inPlace := ["internal/bytealg.abigen_runtime_cmpstring"], unfollowed := true, recurses := true, apart := false }
def FoldStringsSaid : Prop := foldStringsRow.holds Try.pinned (OpenSpec.ofChange foldStringsSpec)

/-- ITS FALSE NEIGHBOUR: 'it returns false'. Refute it at one input. -/
def foldStringsWrong : ChangeSpec := { name := "foldStrings", fn := fun _ => fun
  | [d1, d2] => { results := [.lit (.bool false)], args := [d1, d2] }
  | _ => none }
def FoldStringsWrongFalsely : Prop := foldStringsRow.holds Try.pinned (OpenSpec.ofChange foldStringsWrong)

/-- 'dragnetlaw04.FoldAlike': WHATEVER THE INPUT: true; the input reads as it did. -/
def foldAlikeSpec : ChangeSpec := { name := "foldAlike", fn := fun _ => fun
  | [d1, d2, d3] => { results := [.lit (.bool true)], args := [d1, d2, d3] }
  | _ => none }
def foldAlikeRow : OpenClaim := { program := "ytfgfjapjpiilfaa", sum := "31dcfb5391960f90ed0765a8306b03e29205d6b3c634c59a7d92555b89701c4d", func := "dragnet/dragnetlaw04.FoldAlike", spec := "foldAlike", inPlace := ["internal/bytealg.abigen_runtime_cmpstring"], unfollowed := true, recurses := true, apart := false }
def FoldAlikeSaid : Prop := foldAlikeRow.holds Try.pinned (OpenSpec.ofChange foldAlikeSpec)

/-- ITS FALSE NEIGHBOUR: 'it returns false'. Refute it at one input. -/
def foldAlikeWrong : ChangeSpec := { name := "foldAlike", fn := fun _ => fun
  | [d1, d2, d3] => { results := [.lit (.bool false)], args := [d1, d2, d3] }
  | _ => none }
def FoldAlikeWrongFalsely : Prop := foldAlikeRow.holds Try.pinned (OpenSpec.ofChange foldAlikeWrong)

/- THE SECOND FORM. 'bulk': how many values and letters a reading holds, each counted each time it is reached (what is shared counts as often as it is met; a slice's spare places count too). A statement '..UptoSaid' is the law's where the arguments, and the package variables that the reading takes, are together of bulk at most 1048576: NARROWER than '..Said'. Prove '..Said' where nothing that the law and all that it calls make is longer than what came in: it says more and counts as full. Else prove '..UptoSaid'. A law counts once. -/
mutual
def uptoBulk {H : Type} : DataW H → Nat
  | .lit (.string bytes) => bytes.length + 1
  | .lit _ => 1
  | .nil => 1
  | .ptr d => uptoBulk d + 1
  | .slice elems spare => uptoBulkAll elems + uptoBulkAll spare + 1
  | .agg parts => uptoBulkAll parts + 1
  | .iface _ d => uptoBulk d + 1
  | .map entries => uptoBulkEntries entries + 1
  | .held _ => 1
def uptoBulkAll {H : Type} : List (DataW H) → Nat
  | [] => 0
  | d :: r => uptoBulk d + uptoBulkAll r
def uptoBulkEntries {H : Type} : List (Lit × DataW H) → Nat
  | [] => 0
  | x :: r => uptoBulkEntry x + uptoBulkEntries r
def uptoBulkEntry {H : Type} : Lit × DataW H → Nat
  | (.string bytes, d) => bytes.length + uptoBulk d + 1
  | (_, d) => uptoBulk d + 1
 end
def uptoSmall : (H : Type) → List (DataW H) → Bool := fun _ ds => decide (uptoBulkAll ds ≤ 1048576)
def OpenSpec.upto (s : _root_.Go.ChangeSpec) : _root_.Go.OpenSpec := { _root_.Go.OpenSpec.ofChange s with cond := some uptoSmall }

/-- 'dragnetlaw04.FoldFinds', WHERE WHAT IT READS IS OF BULK AT MOST 1048576: true; the input reads as it did. -/
def foldFindsUptoRow : OpenClaim := { program := "ytfgfjapjpiilfaa", sum := "31dcfb5391960f90ed0765a8306b03e29205d6b3c634c59a7d92555b89701c4d", func := "dragnet/dragnetlaw04.FoldFinds", spec := "foldFinds", inPlace := ["internal/bytealg.abigen_runtime_cmpstring"], unfollowed := true, recurses := true, apart := false, narrowed := true }
def FoldFindsUptoSaid : Prop := foldFindsUptoRow.holds Try.pinned (OpenSpec.upto foldFindsSpec)

/-- 'dragnetlaw04.FoldKeys', WHERE WHAT IT READS IS OF BULK AT MOST 1048576: true; the input reads as it did. -/
def foldKeysUptoRow : OpenClaim := { program := "ytfgfjapjpiilfaa", sum := "31dcfb5391960f90ed0765a8306b03e29205d6b3c634c59a7d92555b89701c4d", func := "dragnet/dragnetlaw04.FoldKeys", spec := "foldKeys", inPlace := ["internal/bytealg.abigen_runtime_cmpstring"], unfollowed := true, recurses := true, apart := false, narrowed := true }
def FoldKeysUptoSaid : Prop := foldKeysUptoRow.holds Try.pinned (OpenSpec.upto foldKeysSpec)

/-- 'dragnetlaw04.FoldKnown', WHERE WHAT IT READS IS OF BULK AT MOST 1048576: true; the input reads as it did. -/
def foldKnownUptoRow : OpenClaim := { program := "ytfgfjapjpiilfaa", sum := "31dcfb5391960f90ed0765a8306b03e29205d6b3c634c59a7d92555b89701c4d", func := "dragnet/dragnetlaw04.FoldKnown", spec := "foldKnown", inPlace := ["internal/bytealg.abigen_runtime_cmpstring"], unfollowed := true, recurses := true, apart := false, narrowed := true }
def FoldKnownUptoSaid : Prop := foldKnownUptoRow.holds Try.pinned (OpenSpec.upto foldKnownSpec)

/-- 'dragnetlaw04.FoldSets', WHERE WHAT IT READS IS OF BULK AT MOST 1048576: true; the input reads as it did. -/
def foldSetsUptoRow : OpenClaim := { program := "ytfgfjapjpiilfaa", sum := "31dcfb5391960f90ed0765a8306b03e29205d6b3c634c59a7d92555b89701c4d", func := "dragnet/dragnetlaw04.FoldSets", spec := "foldSets", inPlace := ["internal/bytealg.abigen_runtime_cmpstring"], unfollowed := true, recurses := true, apart := false, narrowed := true }
def FoldSetsUptoSaid : Prop := foldSetsUptoRow.holds Try.pinned (OpenSpec.upto foldSetsSpec)

/-- 'dragnetlaw04.FoldBytes', WHERE WHAT IT READS IS OF BULK AT MOST 1048576: true; the input reads as it did. -/
def foldBytesUptoRow : OpenClaim := { program := "ytfgfjapjpiilfaa", sum := "31dcfb5391960f90ed0765a8306b03e29205d6b3c634c59a7d92555b89701c4d", func := "dragnet/dragnetlaw04.FoldBytes", spec := "foldBytes", inPlace := ["internal/bytealg.abigen_runtime_cmpstring"], unfollowed := true, recurses := true, apart := false, narrowed := true }
def FoldBytesUptoSaid : Prop := foldBytesUptoRow.holds Try.pinned (OpenSpec.upto foldBytesSpec)

/-- 'dragnetlaw04.FoldClosed', WHERE WHAT IT READS IS OF BULK AT MOST 1048576: true; the input reads as it did. -/
def foldClosedUptoRow : OpenClaim := { program := "ytfgfjapjpiilfaa", sum := "31dcfb5391960f90ed0765a8306b03e29205d6b3c634c59a7d92555b89701c4d", func := "dragnet/dragnetlaw04.FoldClosed", spec := "foldClosed", inPlace := ["internal/bytealg.abigen_runtime_cmpstring"], unfollowed := true, recurses := true, apart := false, narrowed := true }
def FoldClosedUptoSaid : Prop := foldClosedUptoRow.holds Try.pinned (OpenSpec.upto foldClosedSpec)

/-- 'dragnetlaw04.FoldStrings', WHERE WHAT IT READS IS OF BULK AT MOST 1048576: true; the input reads as it did. -/
def foldStringsUptoRow : OpenClaim := { program := "ytfgfjapjpiilfaa", sum := "31dcfb5391960f90ed0765a8306b03e29205d6b3c634c59a7d92555b89701c4d", func := "dragnet/dragnetlaw04.FoldStrings", spec := "foldStrings", inPlace := ["internal/bytealg.abigen_runtime_cmpstring"], unfollowed := true, recurses := true, apart := false, narrowed := true }
def FoldStringsUptoSaid : Prop := foldStringsUptoRow.holds Try.pinned (OpenSpec.upto foldStringsSpec)

/-- 'dragnetlaw04.FoldAlike', WHERE WHAT IT READS IS OF BULK AT MOST 1048576: true; the input reads as it did. -/
def foldAlikeUptoRow : OpenClaim := { program := "ytfgfjapjpiilfaa", sum := "31dcfb5391960f90ed0765a8306b03e29205d6b3c634c59a7d92555b89701c4d", func := "dragnet/dragnetlaw04.FoldAlike", spec := "foldAlike", inPlace := ["internal/bytealg.abigen_runtime_cmpstring"], unfollowed := true, recurses := true, apart := false, narrowed := true }
def FoldAlikeUptoSaid : Prop := foldAlikeUptoRow.holds Try.pinned (OpenSpec.upto foldAlikeSpec)

end Rows
end Go.Proofs.Ytfgfjapjpiilfaa
