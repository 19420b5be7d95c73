/-
  No cell of these rows narrows 'for every input' (looked for: loops, veiled, ifaces, maps, wideKeys, modest, calm, conditions, laid).
  DERIVED. THE GIVEN ROWS OF THIS SEAT. 6 by the template 'for every input the law returns true; each argument reads behind the call as it read before'; 0 by the template 'total and deterministic' (their statements: YtfmngphmmhjicaaTotals.lean).
  GIVEN WITH THE SEED: the statements are not yours to turn. If you find one false, say at which input.
  Laid BY PROGRAM, IN A SANDBOX (cutbox-rows.mjs): the forced cells as the released guide's own fill.sh prints them over the translation 4a9e32cf36929595… (all of the seat's roots in one cut). By AI agents, Wed Nov 11 2026. No macro, syntax, notation, axiom, sorry.
-/
import Derived.Test.YtfmngphmmhjicaaChecked
import GoSem.Claim
import GoSem.ClaimJoined
import GoSem.ClaimMapViews
import Derived.JoinedTies
import Derived.KernelRfl
namespace Go.Proofs.Ytfmngphmmhjicaa
/- THE CELL 'sum', in the pinned program and in every row, IS THE sha256 OF THE DUMP (.gsa) THAT YtfmngphmmhjicaaProg.lean LOADS. Nothing in Lean hashes anything: it is a label: what it is worth is what the hold of that sum in a sandbox is worth. -/
noncomputable def Try.pinned : Pinned := { name := "ytfmngphmmhjicaa", sum := "4a9e32cf369295950ed105da2350eff8b66765d7ce7c5daf1651bb2d7698aebf", checked := Try.checked }
namespace Rows
def none {H : Type} : Left H := { results := [], args := [] }

/-- 'dragnetlaw27.BlocksSplits': WHATEVER THE INPUT: true; the input reads as it did. -/
def blocksSplitsSpec : ChangeSpec := { name := "blocksSplits", fn := fun _ => fun
  | [d1, d2, d3] => { results := [.lit (.bool true)], args := [d1, d2, d3] }
  | _ => none }
def blocksSplitsRow : OpenClaim := { program := "ytfmngphmmhjicaa", sum := "4a9e32cf369295950ed105da2350eff8b66765d7ce7c5daf1651bb2d7698aebf", func := "dragnet/dragnetlaw27.BlocksSplits", spec := "blocksSplits", unfollowed := true, recurses := true, apart := false }
def BlocksSplitsSaid : Prop := blocksSplitsRow.holds Try.pinned (OpenSpec.ofChange blocksSplitsSpec)

/-- ITS FALSE NEIGHBOUR: 'it returns false'. Refute it at one input. -/
def blocksSplitsWrong : ChangeSpec := { name := "blocksSplits", fn := fun _ => fun
  | [d1, d2, d3] => { results := [.lit (.bool false)], args := [d1, d2, d3] }
  | _ => none }
def BlocksSplitsWrongFalsely : Prop := blocksSplitsRow.holds Try.pinned (OpenSpec.ofChange blocksSplitsWrong)

/-- 'dragnetlaw27.BlocksCuts': WHATEVER THE INPUT: true; the input reads as it did. -/
def blocksCutsSpec : ChangeSpec := { name := "blocksCuts", fn := fun _ => fun
  | [d1, d2] => { results := [.lit (.bool true)], args := [d1, d2] }
  | _ => none }
def blocksCutsRow : OpenClaim := { program := "ytfmngphmmhjicaa", sum := "4a9e32cf369295950ed105da2350eff8b66765d7ce7c5daf1651bb2d7698aebf", func := "dragnet/dragnetlaw27.BlocksCuts", spec := "blocksCuts", unfollowed := true, recurses := true, apart := false }
def BlocksCutsSaid : Prop := blocksCutsRow.holds Try.pinned (OpenSpec.ofChange blocksCutsSpec)

/-- ITS FALSE NEIGHBOUR: 'it returns false'. Refute it at one input. -/
def blocksCutsWrong : ChangeSpec := { name := "blocksCuts", fn := fun _ => fun
  | [d1, d2] => { results := [.lit (.bool false)], args := [d1, d2] }
  | _ => none }
def BlocksCutsWrongFalsely : Prop := blocksCutsRow.holds Try.pinned (OpenSpec.ofChange blocksCutsWrong)

/-- 'dragnetlaw27.BlocksEnds': WHATEVER THE INPUT: true; the input reads as it did. -/
def blocksEndsSpec : ChangeSpec := { name := "blocksEnds", fn := fun _ => fun
  | [d1, d2, d3] => { results := [.lit (.bool true)], args := [d1, d2, d3] }
  | _ => none }
def blocksEndsRow : OpenClaim := { program := "ytfmngphmmhjicaa", sum := "4a9e32cf369295950ed105da2350eff8b66765d7ce7c5daf1651bb2d7698aebf", func := "dragnet/dragnetlaw27.BlocksEnds", spec := "blocksEnds", unfollowed := true, recurses := true, apart := false }
def BlocksEndsSaid : Prop := blocksEndsRow.holds Try.pinned (OpenSpec.ofChange blocksEndsSpec)

/-- ITS FALSE NEIGHBOUR: 'it returns false'. Refute it at one input. -/
def blocksEndsWrong : ChangeSpec := { name := "blocksEnds", fn := fun _ => fun
  | [d1, d2, d3] => { results := [.lit (.bool false)], args := [d1, d2, d3] }
  | _ => none }
def BlocksEndsWrongFalsely : Prop := blocksEndsRow.holds Try.pinned (OpenSpec.ofChange blocksEndsWrong)

/-- 'dragnetlaw27.BlocksCounts': WHATEVER THE INPUT: true; the input reads as it did. -/
def blocksCountsSpec : ChangeSpec := { name := "blocksCounts", fn := fun _ => fun
  | [d] => { results := [.lit (.bool true)], args := [d] }
  | _ => none }
def blocksCountsRow : OpenClaim := { program := "ytfmngphmmhjicaa", sum := "4a9e32cf369295950ed105da2350eff8b66765d7ce7c5daf1651bb2d7698aebf", func := "dragnet/dragnetlaw27.BlocksCounts", spec := "blocksCounts", unfollowed := true, recurses := true, apart := false }
def BlocksCountsSaid : Prop := blocksCountsRow.holds Try.pinned (OpenSpec.ofChange blocksCountsSpec)

/-- ITS FALSE NEIGHBOUR: 'it returns false'. Refute it at one input. -/
def blocksCountsWrong : ChangeSpec := { name := "blocksCounts", fn := fun _ => fun
  | [d] => { results := [.lit (.bool false)], args := [d] }
  | _ => none }
def BlocksCountsWrongFalsely : Prop := blocksCountsRow.holds Try.pinned (OpenSpec.ofChange blocksCountsWrong)

/-- 'dragnetlaw27.BlocksPublic': WHATEVER THE INPUT: true; the input reads as it did. -/
def blocksPublicSpec : ChangeSpec := { name := "blocksPublic", fn := fun _ => fun
  | [d1, d2, d3] => { results := [.lit (.bool true)], args := [d1, d2, d3] }
  | _ => none }
def blocksPublicRow : OpenClaim := { program := "ytfmngphmmhjicaa", sum := "4a9e32cf369295950ed105da2350eff8b66765d7ce7c5daf1651bb2d7698aebf", func := "dragnet/dragnetlaw27.BlocksPublic", spec := "blocksPublic", unfollowed := true, recurses := true, apart := false }
def BlocksPublicSaid : Prop := blocksPublicRow.holds Try.pinned (OpenSpec.ofChange blocksPublicSpec)

/-- ITS FALSE NEIGHBOUR: 'it returns false'. Refute it at one input. -/
def blocksPublicWrong : ChangeSpec := { name := "blocksPublic", fn := fun _ => fun
  | [d1, d2, d3] => { results := [.lit (.bool false)], args := [d1, d2, d3] }
  | _ => none }
def BlocksPublicWrongFalsely : Prop := blocksPublicRow.holds Try.pinned (OpenSpec.ofChange blocksPublicWrong)

/-- 'dragnetlaw27.BlocksKnown': WHATEVER THE INPUT: true; the input reads as it did. -/
def blocksKnownSpec : ChangeSpec := { name := "blocksKnown", fn := fun _ => fun
  | [] => { results := [.lit (.bool true)], args := [] }
  | _ => none }
def blocksKnownRow : OpenClaim := { program := "ytfmngphmmhjicaa", sum := "4a9e32cf369295950ed105da2350eff8b66765d7ce7c5daf1651bb2d7698aebf", func := "dragnet/dragnetlaw27.BlocksKnown", spec := "blocksKnown", unfollowed := true, recurses := true, apart := false }
def BlocksKnownSaid : Prop := blocksKnownRow.holds Try.pinned (OpenSpec.ofChange blocksKnownSpec)

/-- ITS FALSE NEIGHBOUR: 'it returns false'. Refute it at one input. -/
def blocksKnownWrong : ChangeSpec := { name := "blocksKnown", fn := fun _ => fun
  | [] => { results := [.lit (.bool false)], args := [] }
  | _ => none }
def BlocksKnownWrongFalsely : Prop := blocksKnownRow.holds Try.pinned (OpenSpec.ofChange blocksKnownWrong)

/- THE SECOND FORM. 'bulk': how many values and letters a reading holds, each counted each time it is reached (what is shared counts as often as it is met; a slice's spare places count too). A statement '..UptoSaid' is the law's where the arguments, and the package variables that the reading takes, are together of bulk at most 1048576: NARROWER than '..Said'. Prove '..Said' where nothing that the law and all that it calls make is longer than what came in: it says more and counts as full. Else prove '..UptoSaid'. A law counts once. -/
mutual
def uptoBulk {H : Type} : DataW H → Nat
  | .lit (.string bytes) => bytes.length + 1
  | .lit _ => 1
  | .nil => 1
  | .ptr d => uptoBulk d + 1
  | .slice elems spare => uptoBulkAll elems + uptoBulkAll spare + 1
  | .agg parts => uptoBulkAll parts + 1
  | .iface _ d => uptoBulk d + 1
  | .map entries => uptoBulkEntries entries + 1
  | .held _ => 1
def uptoBulkAll {H : Type} : List (DataW H) → Nat
  | [] => 0
  | d :: r => uptoBulk d + uptoBulkAll r
def uptoBulkEntries {H : Type} : List (Lit × DataW H) → Nat
  | [] => 0
  | x :: r => uptoBulkEntry x + uptoBulkEntries r
def uptoBulkEntry {H : Type} : Lit × DataW H → Nat
  | (.string bytes, d) => bytes.length + uptoBulk d + 1
  | (_, d) => uptoBulk d + 1
 end
def uptoSmall : (H : Type) → List (DataW H) → Bool := fun _ ds => decide (uptoBulkAll ds ≤ 1048576)
def OpenSpec.upto (s : _root_.Go.ChangeSpec) : _root_.Go.OpenSpec := { _root_.Go.OpenSpec.ofChange s with cond := some uptoSmall }

/-- 'dragnetlaw27.BlocksSplits', WHERE WHAT IT READS IS OF BULK AT MOST 1048576: true; the input reads as it did. -/
def blocksSplitsUptoRow : OpenClaim := { program := "ytfmngphmmhjicaa", sum := "4a9e32cf369295950ed105da2350eff8b66765d7ce7c5daf1651bb2d7698aebf", func := "dragnet/dragnetlaw27.BlocksSplits", spec := "blocksSplits", unfollowed := true, recurses := true, apart := false, narrowed := true }
def BlocksSplitsUptoSaid : Prop := blocksSplitsUptoRow.holds Try.pinned (OpenSpec.upto blocksSplitsSpec)

/-- 'dragnetlaw27.BlocksCuts', WHERE WHAT IT READS IS OF BULK AT MOST 1048576: true; the input reads as it did. -/
def blocksCutsUptoRow : OpenClaim := { program := "ytfmngphmmhjicaa", sum := "4a9e32cf369295950ed105da2350eff8b66765d7ce7c5daf1651bb2d7698aebf", func := "dragnet/dragnetlaw27.BlocksCuts", spec := "blocksCuts", unfollowed := true, recurses := true, apart := false, narrowed := true }
def BlocksCutsUptoSaid : Prop := blocksCutsUptoRow.holds Try.pinned (OpenSpec.upto blocksCutsSpec)

/-- 'dragnetlaw27.BlocksEnds', WHERE WHAT IT READS IS OF BULK AT MOST 1048576: true; the input reads as it did. -/
def blocksEndsUptoRow : OpenClaim := { program := "ytfmngphmmhjicaa", sum := "4a9e32cf369295950ed105da2350eff8b66765d7ce7c5daf1651bb2d7698aebf", func := "dragnet/dragnetlaw27.BlocksEnds", spec := "blocksEnds", unfollowed := true, recurses := true, apart := false, narrowed := true }
def BlocksEndsUptoSaid : Prop := blocksEndsUptoRow.holds Try.pinned (OpenSpec.upto blocksEndsSpec)

/-- 'dragnetlaw27.BlocksCounts', WHERE WHAT IT READS IS OF BULK AT MOST 1048576: true; the input reads as it did. -/
def blocksCountsUptoRow : OpenClaim := { program := "ytfmngphmmhjicaa", sum := "4a9e32cf369295950ed105da2350eff8b66765d7ce7c5daf1651bb2d7698aebf", func := "dragnet/dragnetlaw27.BlocksCounts", spec := "blocksCounts", unfollowed := true, recurses := true, apart := false, narrowed := true }
def BlocksCountsUptoSaid : Prop := blocksCountsUptoRow.holds Try.pinned (OpenSpec.upto blocksCountsSpec)

/-- 'dragnetlaw27.BlocksPublic', WHERE WHAT IT READS IS OF BULK AT MOST 1048576: true; the input reads as it did. -/
def blocksPublicUptoRow : OpenClaim := { program := "ytfmngphmmhjicaa", sum := "4a9e32cf369295950ed105da2350eff8b66765d7ce7c5daf1651bb2d7698aebf", func := "dragnet/dragnetlaw27.BlocksPublic", spec := "blocksPublic", unfollowed := true, recurses := true, apart := false, narrowed := true }
def BlocksPublicUptoSaid : Prop := blocksPublicUptoRow.holds Try.pinned (OpenSpec.upto blocksPublicSpec)

/-- 'dragnetlaw27.BlocksKnown', WHERE WHAT IT READS IS OF BULK AT MOST 1048576: true; the input reads as it did. -/
def blocksKnownUptoRow : OpenClaim := { program := "ytfmngphmmhjicaa", sum := "4a9e32cf369295950ed105da2350eff8b66765d7ce7c5daf1651bb2d7698aebf", func := "dragnet/dragnetlaw27.BlocksKnown", spec := "blocksKnown", unfollowed := true, recurses := true, apart := false, narrowed := true }
def BlocksKnownUptoSaid : Prop := blocksKnownUptoRow.holds Try.pinned (OpenSpec.upto blocksKnownSpec)

end Rows
end Go.Proofs.Ytfmngphmmhjicaa
