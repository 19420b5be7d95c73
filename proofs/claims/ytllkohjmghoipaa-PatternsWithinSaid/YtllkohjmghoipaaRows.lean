/-
  No cell of these rows narrows 'for every input' (looked for: loops, veiled, ifaces, maps, wideKeys, modest, calm, conditions, laid).
  DERIVED. THE GIVEN ROWS OF THIS SEAT. 8 by the template 'for every input the law returns true; each argument reads behind the call as it read before'; 0 by the template 'total and deterministic' (their statements: YtllkohjmghoipaaTotals.lean).
  GIVEN WITH THE SEED: the statements are not yours to turn. If you find one false, say at which input.
  Laid BY PROGRAM, IN A SANDBOX (cutbox-rows.mjs): the forced cells as the released guide's own fill.sh prints them over the translation dbe48030d0e485e2… (all of the seat's roots in one cut). By AI agents, Wed Nov 11 2026. No macro, syntax, notation, axiom, sorry.
-/
import Derived.Test.YtllkohjmghoipaaChecked
import GoSem.Claim
import GoSem.ClaimJoined
import GoSem.ClaimMapViews
import Derived.JoinedTies
import Derived.KernelRfl
namespace Go.Proofs.Ytllkohjmghoipaa
/- THE CELL 'sum', in the pinned program and in every row, IS THE sha256 OF THE DUMP (.gsa) THAT YtllkohjmghoipaaProg.lean LOADS. Nothing in Lean hashes anything: it is a label: what it is worth is what the hold of that sum in a sandbox is worth. -/
noncomputable def Try.pinned : Pinned := { name := "ytllkohjmghoipaa", sum := "dbe48030d0e485e22ec5fedf469e6adc9f6e4d5231ed306fbaf826e57454ba2f", checked := Try.checked }
namespace Rows
def none {H : Type} : Left H := { results := [], args := [] }

/-- 'dragnetlaw14.PatternsChecks': WHATEVER THE INPUT: true; the input reads as it did. -/
def patternsChecksSpec : ChangeSpec := { name := "patternsChecks", fn := fun _ => fun
  | [d] => { results := [.lit (.bool true)], args := [d] }
  | _ => none }
def patternsChecksRow : OpenClaim := { program := "ytllkohjmghoipaa", sum := "dbe48030d0e485e22ec5fedf469e6adc9f6e4d5231ed306fbaf826e57454ba2f", func := "dragnet/dragnetlaw14.PatternsChecks", spec := "patternsChecks", unfollowed := true, recurses := true, apart := false }
def PatternsChecksSaid : Prop := patternsChecksRow.holds Try.pinned (OpenSpec.ofChange patternsChecksSpec)

/-- ITS FALSE NEIGHBOUR: 'it returns false'. Refute it at one input. -/
def patternsChecksWrong : ChangeSpec := { name := "patternsChecks", fn := fun _ => fun
  | [d] => { results := [.lit (.bool false)], args := [d] }
  | _ => none }
def PatternsChecksWrongFalsely : Prop := patternsChecksRow.holds Try.pinned (OpenSpec.ofChange patternsChecksWrong)

/-- 'dragnetlaw14.PatternsFinds': WHATEVER THE INPUT: true; the input reads as it did. -/
def patternsFindsSpec : ChangeSpec := { name := "patternsFinds", fn := fun _ => fun
  | [d1, d2] => { results := [.lit (.bool true)], args := [d1, d2] }
  | _ => none }
def patternsFindsRow : OpenClaim := { program := "ytllkohjmghoipaa", sum := "dbe48030d0e485e22ec5fedf469e6adc9f6e4d5231ed306fbaf826e57454ba2f", func := "dragnet/dragnetlaw14.PatternsFinds", spec := "patternsFinds", unfollowed := true, recurses := true, apart := false }
def PatternsFindsSaid : Prop := patternsFindsRow.holds Try.pinned (OpenSpec.ofChange patternsFindsSpec)

/-- ITS FALSE NEIGHBOUR: 'it returns false'. Refute it at one input. -/
def patternsFindsWrong : ChangeSpec := { name := "patternsFinds", fn := fun _ => fun
  | [d1, d2] => { results := [.lit (.bool false)], args := [d1, d2] }
  | _ => none }
def PatternsFindsWrongFalsely : Prop := patternsFindsRow.holds Try.pinned (OpenSpec.ofChange patternsFindsWrong)

/-- 'dragnetlaw14.PatternsJoins': WHATEVER THE INPUT: true; the input reads as it did. -/
def patternsJoinsSpec : ChangeSpec := { name := "patternsJoins", fn := fun _ => fun
  | [d1, d2] => { results := [.lit (.bool true)], args := [d1, d2] }
  | _ => none }
def patternsJoinsRow : OpenClaim := { program := "ytllkohjmghoipaa", sum := "dbe48030d0e485e22ec5fedf469e6adc9f6e4d5231ed306fbaf826e57454ba2f", func := "dragnet/dragnetlaw14.PatternsJoins", spec := "patternsJoins", unfollowed := true, recurses := true, apart := false }
def PatternsJoinsSaid : Prop := patternsJoinsRow.holds Try.pinned (OpenSpec.ofChange patternsJoinsSpec)

/-- ITS FALSE NEIGHBOUR: 'it returns false'. Refute it at one input. -/
def patternsJoinsWrong : ChangeSpec := { name := "patternsJoins", fn := fun _ => fun
  | [d1, d2] => { results := [.lit (.bool false)], args := [d1, d2] }
  | _ => none }
def PatternsJoinsWrongFalsely : Prop := patternsJoinsRow.holds Try.pinned (OpenSpec.ofChange patternsJoinsWrong)

/-- 'dragnetlaw14.PatternsKnown': WHATEVER THE INPUT: true; the input reads as it did. -/
def patternsKnownSpec : ChangeSpec := { name := "patternsKnown", fn := fun _ => fun
  | [] => { results := [.lit (.bool true)], args := [] }
  | _ => none }
def patternsKnownRow : OpenClaim := { program := "ytllkohjmghoipaa", sum := "dbe48030d0e485e22ec5fedf469e6adc9f6e4d5231ed306fbaf826e57454ba2f", func := "dragnet/dragnetlaw14.PatternsKnown", spec := "patternsKnown", unfollowed := true, recurses := true, apart := false }
def PatternsKnownSaid : Prop := patternsKnownRow.holds Try.pinned (OpenSpec.ofChange patternsKnownSpec)

/-- ITS FALSE NEIGHBOUR: 'it returns false'. Refute it at one input. -/
def patternsKnownWrong : ChangeSpec := { name := "patternsKnown", fn := fun _ => fun
  | [] => { results := [.lit (.bool false)], args := [] }
  | _ => none }
def PatternsKnownWrongFalsely : Prop := patternsKnownRow.holds Try.pinned (OpenSpec.ofChange patternsKnownWrong)

/-- 'dragnetlaw14.PatternsSole': WHATEVER THE INPUT: true; the input reads as it did. -/
def patternsSoleSpec : ChangeSpec := { name := "patternsSole", fn := fun _ => fun
  | [d1, d2] => { results := [.lit (.bool true)], args := [d1, d2] }
  | _ => none }
def patternsSoleRow : OpenClaim := { program := "ytllkohjmghoipaa", sum := "dbe48030d0e485e22ec5fedf469e6adc9f6e4d5231ed306fbaf826e57454ba2f", func := "dragnet/dragnetlaw14.PatternsSole", spec := "patternsSole", unfollowed := true, recurses := true, apart := false }
def PatternsSoleSaid : Prop := patternsSoleRow.holds Try.pinned (OpenSpec.ofChange patternsSoleSpec)

/-- ITS FALSE NEIGHBOUR: 'it returns false'. Refute it at one input. -/
def patternsSoleWrong : ChangeSpec := { name := "patternsSole", fn := fun _ => fun
  | [d1, d2] => { results := [.lit (.bool false)], args := [d1, d2] }
  | _ => none }
def PatternsSoleWrongFalsely : Prop := patternsSoleRow.holds Try.pinned (OpenSpec.ofChange patternsSoleWrong)

/-- 'dragnetlaw14.PatternsTurn': WHATEVER THE INPUT: true; the input reads as it did. -/
def patternsTurnSpec : ChangeSpec := { name := "patternsTurn", fn := fun _ => fun
  | [d1, d2] => { results := [.lit (.bool true)], args := [d1, d2] }
  | _ => none }
def patternsTurnRow : OpenClaim := { program := "ytllkohjmghoipaa", sum := "dbe48030d0e485e22ec5fedf469e6adc9f6e4d5231ed306fbaf826e57454ba2f", func := "dragnet/dragnetlaw14.PatternsTurn", spec := "patternsTurn", unfollowed := true, recurses := true, apart := false }
def PatternsTurnSaid : Prop := patternsTurnRow.holds Try.pinned (OpenSpec.ofChange patternsTurnSpec)

/-- ITS FALSE NEIGHBOUR: 'it returns false'. Refute it at one input. -/
def patternsTurnWrong : ChangeSpec := { name := "patternsTurn", fn := fun _ => fun
  | [d1, d2] => { results := [.lit (.bool false)], args := [d1, d2] }
  | _ => none }
def PatternsTurnWrongFalsely : Prop := patternsTurnRow.holds Try.pinned (OpenSpec.ofChange patternsTurnWrong)

/-- 'dragnetlaw14.PatternsWithin': WHATEVER THE INPUT: true; the input reads as it did. -/
def patternsWithinSpec : ChangeSpec := { name := "patternsWithin", fn := fun _ => fun
  | [d1, d2, d3] => { results := [.lit (.bool true)], args := [d1, d2, d3] }
  | _ => none }
def patternsWithinRow : OpenClaim := { program := "ytllkohjmghoipaa", sum := "dbe48030d0e485e22ec5fedf469e6adc9f6e4d5231ed306fbaf826e57454ba2f", func := "dragnet/dragnetlaw14.PatternsWithin", spec := "patternsWithin", unfollowed := true, recurses := true, apart := false }
def PatternsWithinSaid : Prop := patternsWithinRow.holds Try.pinned (OpenSpec.ofChange patternsWithinSpec)

/-- ITS FALSE NEIGHBOUR: 'it returns false'. Refute it at one input. -/
def patternsWithinWrong : ChangeSpec := { name := "patternsWithin", fn := fun _ => fun
  | [d1, d2, d3] => { results := [.lit (.bool false)], args := [d1, d2, d3] }
  | _ => none }
def PatternsWithinWrongFalsely : Prop := patternsWithinRow.holds Try.pinned (OpenSpec.ofChange patternsWithinWrong)

/-- 'dragnetlaw14.PatternsMakes': WHATEVER THE INPUT: true; the input reads as it did. -/
def patternsMakesSpec : ChangeSpec := { name := "patternsMakes", fn := fun _ => fun
  | [d] => { results := [.lit (.bool true)], args := [d] }
  | _ => none }
def patternsMakesRow : OpenClaim := { program := "ytllkohjmghoipaa", sum := "dbe48030d0e485e22ec5fedf469e6adc9f6e4d5231ed306fbaf826e57454ba2f", func := "dragnet/dragnetlaw14.PatternsMakes", spec := "patternsMakes", unfollowed := true, recurses := true, apart := false }
def PatternsMakesSaid : Prop := patternsMakesRow.holds Try.pinned (OpenSpec.ofChange patternsMakesSpec)

/-- ITS FALSE NEIGHBOUR: 'it returns false'. Refute it at one input. -/
def patternsMakesWrong : ChangeSpec := { name := "patternsMakes", fn := fun _ => fun
  | [d] => { results := [.lit (.bool false)], args := [d] }
  | _ => none }
def PatternsMakesWrongFalsely : Prop := patternsMakesRow.holds Try.pinned (OpenSpec.ofChange patternsMakesWrong)

/- THE SECOND FORM. 'bulk': how many values and letters a reading holds, each counted each time it is reached (what is shared counts as often as it is met; a slice's spare places count too). A statement '..UptoSaid' is the law's where the arguments, and the package variables that the reading takes, are together of bulk at most 1048576: NARROWER than '..Said'. Prove '..Said' where nothing that the law and all that it calls make is longer than what came in: it says more and counts as full. Else prove '..UptoSaid'. A law counts once. -/
mutual
def uptoBulk {H : Type} : DataW H → Nat
  | .lit (.string bytes) => bytes.length + 1
  | .lit _ => 1
  | .nil => 1
  | .ptr d => uptoBulk d + 1
  | .slice elems spare => uptoBulkAll elems + uptoBulkAll spare + 1
  | .agg parts => uptoBulkAll parts + 1
  | .iface _ d => uptoBulk d + 1
  | .map entries => uptoBulkEntries entries + 1
  | .held _ => 1
def uptoBulkAll {H : Type} : List (DataW H) → Nat
  | [] => 0
  | d :: r => uptoBulk d + uptoBulkAll r
def uptoBulkEntries {H : Type} : List (Lit × DataW H) → Nat
  | [] => 0
  | x :: r => uptoBulkEntry x + uptoBulkEntries r
def uptoBulkEntry {H : Type} : Lit × DataW H → Nat
  | (.string bytes, d) => bytes.length + uptoBulk d + 1
  | (_, d) => uptoBulk d + 1
 end
def uptoSmall : (H : Type) → List (DataW H) → Bool := fun _ ds => decide (uptoBulkAll ds ≤ 1048576)
def OpenSpec.upto (s : _root_.Go.ChangeSpec) : _root_.Go.OpenSpec := { _root_.Go.OpenSpec.ofChange s with cond := some uptoSmall }

/-- 'dragnetlaw14.PatternsChecks', WHERE WHAT IT READS IS OF BULK AT MOST 1048576: true; the input reads as it did. -/
def patternsChecksUptoRow : OpenClaim := { program := "ytllkohjmghoipaa", sum := "dbe48030d0e485e22ec5fedf469e6adc9f6e4d5231ed306fbaf826e57454ba2f", func := "dragnet/dragnetlaw14.PatternsChecks", spec := "patternsChecks", unfollowed := true, recurses := true, apart := false, narrowed := true }
def PatternsChecksUptoSaid : Prop := patternsChecksUptoRow.holds Try.pinned (OpenSpec.upto patternsChecksSpec)

/-- 'dragnetlaw14.PatternsFinds', WHERE WHAT IT READS IS OF BULK AT MOST 1048576: true; the input reads as it did. -/
def patternsFindsUptoRow : OpenClaim := { program := "ytllkohjmghoipaa", sum := "dbe48030d0e485e22ec5fedf469e6adc9f6e4d5231ed306fbaf826e57454ba2f", func := "dragnet/dragnetlaw14.PatternsFinds", spec := "patternsFinds", unfollowed := true, recurses := true, apart := false, narrowed := true }
def PatternsFindsUptoSaid : Prop := patternsFindsUptoRow.holds Try.pinned (OpenSpec.upto patternsFindsSpec)

/-- 'dragnetlaw14.PatternsJoins', WHERE WHAT IT READS IS OF BULK AT MOST 1048576: true; the input reads as it did. -/
def patternsJoinsUptoRow : OpenClaim := { program := "ytllkohjmghoipaa", sum := "dbe48030d0e485e22ec5fedf469e6adc9f6e4d5231ed306fbaf826e57454ba2f", func := "dragnet/dragnetlaw14.PatternsJoins", spec := "patternsJoins", unfollowed := true, recurses := true, apart := false, narrowed := true }
def PatternsJoinsUptoSaid : Prop := patternsJoinsUptoRow.holds Try.pinned (OpenSpec.upto patternsJoinsSpec)

/-- 'dragnetlaw14.PatternsKnown', WHERE WHAT IT READS IS OF BULK AT MOST 1048576: true; the input reads as it did. -/
def patternsKnownUptoRow : OpenClaim := { program := "ytllkohjmghoipaa", sum := "dbe48030d0e485e22ec5fedf469e6adc9f6e4d5231ed306fbaf826e57454ba2f", func := "dragnet/dragnetlaw14.PatternsKnown", spec := "patternsKnown", unfollowed := true, recurses := true, apart := false, narrowed := true }
def PatternsKnownUptoSaid : Prop := patternsKnownUptoRow.holds Try.pinned (OpenSpec.upto patternsKnownSpec)

/-- 'dragnetlaw14.PatternsSole', WHERE WHAT IT READS IS OF BULK AT MOST 1048576: true; the input reads as it did. -/
def patternsSoleUptoRow : OpenClaim := { program := "ytllkohjmghoipaa", sum := "dbe48030d0e485e22ec5fedf469e6adc9f6e4d5231ed306fbaf826e57454ba2f", func := "dragnet/dragnetlaw14.PatternsSole", spec := "patternsSole", unfollowed := true, recurses := true, apart := false, narrowed := true }
def PatternsSoleUptoSaid : Prop := patternsSoleUptoRow.holds Try.pinned (OpenSpec.upto patternsSoleSpec)

/-- 'dragnetlaw14.PatternsTurn', WHERE WHAT IT READS IS OF BULK AT MOST 1048576: true; the input reads as it did. -/
def patternsTurnUptoRow : OpenClaim := { program := "ytllkohjmghoipaa", sum := "dbe48030d0e485e22ec5fedf469e6adc9f6e4d5231ed306fbaf826e57454ba2f", func := "dragnet/dragnetlaw14.PatternsTurn", spec := "patternsTurn", unfollowed := true, recurses := true, apart := false, narrowed := true }
def PatternsTurnUptoSaid : Prop := patternsTurnUptoRow.holds Try.pinned (OpenSpec.upto patternsTurnSpec)

/-- 'dragnetlaw14.PatternsWithin', WHERE WHAT IT READS IS OF BULK AT MOST 1048576: true; the input reads as it did. -/
def patternsWithinUptoRow : OpenClaim := { program := "ytllkohjmghoipaa", sum := "dbe48030d0e485e22ec5fedf469e6adc9f6e4d5231ed306fbaf826e57454ba2f", func := "dragnet/dragnetlaw14.PatternsWithin", spec := "patternsWithin", unfollowed := true, recurses := true, apart := false, narrowed := true }
def PatternsWithinUptoSaid : Prop := patternsWithinUptoRow.holds Try.pinned (OpenSpec.upto patternsWithinSpec)

/-- 'dragnetlaw14.PatternsMakes', WHERE WHAT IT READS IS OF BULK AT MOST 1048576: true; the input reads as it did. -/
def patternsMakesUptoRow : OpenClaim := { program := "ytllkohjmghoipaa", sum := "dbe48030d0e485e22ec5fedf469e6adc9f6e4d5231ed306fbaf826e57454ba2f", func := "dragnet/dragnetlaw14.PatternsMakes", spec := "patternsMakes", unfollowed := true, recurses := true, apart := false, narrowed := true }
def PatternsMakesUptoSaid : Prop := patternsMakesUptoRow.holds Try.pinned (OpenSpec.upto patternsMakesSpec)

end Rows
end Go.Proofs.Ytllkohjmghoipaa
