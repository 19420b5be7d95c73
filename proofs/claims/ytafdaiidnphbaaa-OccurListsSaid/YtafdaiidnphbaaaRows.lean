/-
  No cell of these rows narrows 'for every input' (looked for: loops, veiled, ifaces, maps, wideKeys, modest, calm, conditions, laid).
  DERIVED. THE GIVEN ROWS OF THIS SEAT. 7 by the template 'for every input the law returns true; each argument reads behind the call as it read before'; 0 by the template 'total and deterministic' (their statements: YtafdaiidnphbaaaTotals.lean).
  GIVEN WITH THE SEED: the statements are not yours to turn. If you find one false, say at which input.
  Laid BY PROGRAM, IN A SANDBOX (cutbox-rows.mjs): the forced cells as the released guide's own fill.sh prints them over the translation aa82dacf9f15c198… (all of the seat's roots in one cut). By AI agents, Wed Nov 11 2026. No macro, syntax, notation, axiom, sorry.
-/
import Derived.Test.YtafdaiidnphbaaaChecked
import GoSem.Claim
import GoSem.ClaimJoined
import GoSem.ClaimMapViews
import Derived.JoinedTies
import Derived.KernelRfl
namespace Go.Proofs.Ytafdaiidnphbaaa
/- THE CELL 'sum', in the pinned program and in every row, IS THE sha256 OF THE DUMP (.gsa) THAT YtafdaiidnphbaaaProg.lean LOADS. Nothing in Lean hashes anything: it is a label: what it is worth is what the hold of that sum in a sandbox is worth. -/
noncomputable def Try.pinned : Pinned := { name := "ytafdaiidnphbaaa", sum := "aa82dacf9f15c1985c8665fe07692b16b131e775df7d85a5f02a3f757cd116a2", checked := Try.checked }
namespace Rows
def none {H : Type} : Left H := { results := [], args := [] }

/-- 'dragnetlaw16.OccurSpans': WHATEVER THE INPUT: true; the input reads as it did. -/
def occurSpansSpec : ChangeSpec := { name := "occurSpans", fn := fun _ => fun
  | [d1, d2, d3] => { results := [.lit (.bool true)], args := [d1, d2, d3] }
  | _ => none }
def occurSpansRow : OpenClaim := { program := "ytafdaiidnphbaaa", sum := "aa82dacf9f15c1985c8665fe07692b16b131e775df7d85a5f02a3f757cd116a2", func := "dragnet/dragnetlaw16.OccurSpans", spec := "occurSpans", unfollowed := true, recurses := true, apart := false }
def OccurSpansSaid : Prop := occurSpansRow.holds Try.pinned (OpenSpec.ofChange occurSpansSpec)

/-- ITS FALSE NEIGHBOUR: 'it returns false'. Refute it at one input. -/
def occurSpansWrong : ChangeSpec := { name := "occurSpans", fn := fun _ => fun
  | [d1, d2, d3] => { results := [.lit (.bool false)], args := [d1, d2, d3] }
  | _ => none }
def OccurSpansWrongFalsely : Prop := occurSpansRow.holds Try.pinned (OpenSpec.ofChange occurSpansWrong)

/-- 'dragnetlaw16.OccurStarts': WHATEVER THE INPUT: true; the input reads as it did. -/
def occurStartsSpec : ChangeSpec := { name := "occurStarts", fn := fun _ => fun
  | [d1, d2, d3] => { results := [.lit (.bool true)], args := [d1, d2, d3] }
  | _ => none }
def occurStartsRow : OpenClaim := { program := "ytafdaiidnphbaaa", sum := "aa82dacf9f15c1985c8665fe07692b16b131e775df7d85a5f02a3f757cd116a2", func := "dragnet/dragnetlaw16.OccurStarts", spec := "occurStarts", unfollowed := true, recurses := true, apart := false }
def OccurStartsSaid : Prop := occurStartsRow.holds Try.pinned (OpenSpec.ofChange occurStartsSpec)

/-- ITS FALSE NEIGHBOUR: 'it returns false'. Refute it at one input. -/
def occurStartsWrong : ChangeSpec := { name := "occurStarts", fn := fun _ => fun
  | [d1, d2, d3] => { results := [.lit (.bool false)], args := [d1, d2, d3] }
  | _ => none }
def OccurStartsWrongFalsely : Prop := occurStartsRow.holds Try.pinned (OpenSpec.ofChange occurStartsWrong)

/-- 'dragnetlaw16.OccurLists': WHATEVER THE INPUT: true; the input reads as it did. -/
def occurListsSpec : ChangeSpec := { name := "occurLists", fn := fun _ => fun
  | [d1, d2, d3] => { results := [.lit (.bool true)], args := [d1, d2, d3] }
  | _ => none }
def occurListsRow : OpenClaim := { program := "ytafdaiidnphbaaa", sum := "aa82dacf9f15c1985c8665fe07692b16b131e775df7d85a5f02a3f757cd116a2", func := "dragnet/dragnetlaw16.OccurLists", spec := "occurLists", unfollowed := true, recurses := true, apart := false }
def OccurListsSaid : Prop := occurListsRow.holds Try.pinned (OpenSpec.ofChange occurListsSpec)

/-- ITS FALSE NEIGHBOUR: 'it returns false'. Refute it at one input. -/
def occurListsWrong : ChangeSpec := { name := "occurLists", fn := fun _ => fun
  | [d1, d2, d3] => { results := [.lit (.bool false)], args := [d1, d2, d3] }
  | _ => none }
def OccurListsWrongFalsely : Prop := occurListsRow.holds Try.pinned (OpenSpec.ofChange occurListsWrong)

/-- 'dragnetlaw16.OccurChunks': WHATEVER THE INPUT: true; the input reads as it did. -/
def occurChunksSpec : ChangeSpec := { name := "occurChunks", fn := fun _ => fun
  | [d1, d2, d3] => { results := [.lit (.bool true)], args := [d1, d2, d3] }
  | _ => none }
def occurChunksRow : OpenClaim := { program := "ytafdaiidnphbaaa", sum := "aa82dacf9f15c1985c8665fe07692b16b131e775df7d85a5f02a3f757cd116a2", func := "dragnet/dragnetlaw16.OccurChunks", spec := "occurChunks", unfollowed := true, recurses := true, apart := false }
def OccurChunksSaid : Prop := occurChunksRow.holds Try.pinned (OpenSpec.ofChange occurChunksSpec)

/-- ITS FALSE NEIGHBOUR: 'it returns false'. Refute it at one input. -/
def occurChunksWrong : ChangeSpec := { name := "occurChunks", fn := fun _ => fun
  | [d1, d2, d3] => { results := [.lit (.bool false)], args := [d1, d2, d3] }
  | _ => none }
def OccurChunksWrongFalsely : Prop := occurChunksRow.holds Try.pinned (OpenSpec.ofChange occurChunksWrong)

/-- 'dragnetlaw16.OccurLocal': WHATEVER THE INPUT: true; the input reads as it did. -/
def occurLocalSpec : ChangeSpec := { name := "occurLocal", fn := fun _ => fun
  | [d1, d2, d3] => { results := [.lit (.bool true)], args := [d1, d2, d3] }
  | _ => none }
def occurLocalRow : OpenClaim := { program := "ytafdaiidnphbaaa", sum := "aa82dacf9f15c1985c8665fe07692b16b131e775df7d85a5f02a3f757cd116a2", func := "dragnet/dragnetlaw16.OccurLocal", spec := "occurLocal", unfollowed := true, recurses := true, apart := false }
def OccurLocalSaid : Prop := occurLocalRow.holds Try.pinned (OpenSpec.ofChange occurLocalSpec)

/-- ITS FALSE NEIGHBOUR: 'it returns false'. Refute it at one input. -/
def occurLocalWrong : ChangeSpec := { name := "occurLocal", fn := fun _ => fun
  | [d1, d2, d3] => { results := [.lit (.bool false)], args := [d1, d2, d3] }
  | _ => none }
def OccurLocalWrongFalsely : Prop := occurLocalRow.holds Try.pinned (OpenSpec.ofChange occurLocalWrong)

/-- 'dragnetlaw16.OccurAlls': WHATEVER THE INPUT: true; the input reads as it did. -/
def occurAllsSpec : ChangeSpec := { name := "occurAlls", fn := fun _ => fun
  | [d1, d2, d3] => { results := [.lit (.bool true)], args := [d1, d2, d3] }
  | _ => none }
def occurAllsRow : OpenClaim := { program := "ytafdaiidnphbaaa", sum := "aa82dacf9f15c1985c8665fe07692b16b131e775df7d85a5f02a3f757cd116a2", func := "dragnet/dragnetlaw16.OccurAlls", spec := "occurAlls", unfollowed := true, recurses := true, apart := false }
def OccurAllsSaid : Prop := occurAllsRow.holds Try.pinned (OpenSpec.ofChange occurAllsSpec)

/-- ITS FALSE NEIGHBOUR: 'it returns false'. Refute it at one input. -/
def occurAllsWrong : ChangeSpec := { name := "occurAlls", fn := fun _ => fun
  | [d1, d2, d3] => { results := [.lit (.bool false)], args := [d1, d2, d3] }
  | _ => none }
def OccurAllsWrongFalsely : Prop := occurAllsRow.holds Try.pinned (OpenSpec.ofChange occurAllsWrong)

/-- 'dragnetlaw16.OccurRules': WHATEVER THE INPUT: true; the input reads as it did. -/
def occurRulesSpec : ChangeSpec := { name := "occurRules", fn := fun _ => fun
  | [d1, d2] => { results := [.lit (.bool true)], args := [d1, d2] }
  | _ => none }
def occurRulesRow : OpenClaim := { program := "ytafdaiidnphbaaa", sum := "aa82dacf9f15c1985c8665fe07692b16b131e775df7d85a5f02a3f757cd116a2", func := "dragnet/dragnetlaw16.OccurRules", spec := "occurRules", unfollowed := true, recurses := true, apart := false }
def OccurRulesSaid : Prop := occurRulesRow.holds Try.pinned (OpenSpec.ofChange occurRulesSpec)

/-- ITS FALSE NEIGHBOUR: 'it returns false'. Refute it at one input. -/
def occurRulesWrong : ChangeSpec := { name := "occurRules", fn := fun _ => fun
  | [d1, d2] => { results := [.lit (.bool false)], args := [d1, d2] }
  | _ => none }
def OccurRulesWrongFalsely : Prop := occurRulesRow.holds Try.pinned (OpenSpec.ofChange occurRulesWrong)

/- THE SECOND FORM. 'bulk': how many values and letters a reading holds, each counted each time it is reached (what is shared counts as often as it is met; a slice's spare places count too). A statement '..UptoSaid' is the law's where the arguments, and the package variables that the reading takes, are together of bulk at most 1048576: NARROWER than '..Said'. Prove '..Said' where nothing that the law and all that it calls make is longer than what came in: it says more and counts as full. Else prove '..UptoSaid'. A law counts once. -/
mutual
def uptoBulk {H : Type} : DataW H → Nat
  | .lit (.string bytes) => bytes.length + 1
  | .lit _ => 1
  | .nil => 1
  | .ptr d => uptoBulk d + 1
  | .slice elems spare => uptoBulkAll elems + uptoBulkAll spare + 1
  | .agg parts => uptoBulkAll parts + 1
  | .iface _ d => uptoBulk d + 1
  | .map entries => uptoBulkEntries entries + 1
  | .held _ => 1
def uptoBulkAll {H : Type} : List (DataW H) → Nat
  | [] => 0
  | d :: r => uptoBulk d + uptoBulkAll r
def uptoBulkEntries {H : Type} : List (Lit × DataW H) → Nat
  | [] => 0
  | x :: r => uptoBulkEntry x + uptoBulkEntries r
def uptoBulkEntry {H : Type} : Lit × DataW H → Nat
  | (.string bytes, d) => bytes.length + uptoBulk d + 1
  | (_, d) => uptoBulk d + 1
 end
def uptoSmall : (H : Type) → List (DataW H) → Bool := fun _ ds => decide (uptoBulkAll ds ≤ 1048576)
def OpenSpec.upto (s : _root_.Go.ChangeSpec) : _root_.Go.OpenSpec := { _root_.Go.OpenSpec.ofChange s with cond := some uptoSmall }

/-- 'dragnetlaw16.OccurSpans', WHERE WHAT IT READS IS OF BULK AT MOST 1048576: true; the input reads as it did. -/
def occurSpansUptoRow : OpenClaim := { program := "ytafdaiidnphbaaa", sum := "aa82dacf9f15c1985c8665fe07692b16b131e775df7d85a5f02a3f757cd116a2", func := "dragnet/dragnetlaw16.OccurSpans", spec := "occurSpans", unfollowed := true, recurses := true, apart := false, narrowed := true }
def OccurSpansUptoSaid : Prop := occurSpansUptoRow.holds Try.pinned (OpenSpec.upto occurSpansSpec)

/-- 'dragnetlaw16.OccurStarts', WHERE WHAT IT READS IS OF BULK AT MOST 1048576: true; the input reads as it did. -/
def occurStartsUptoRow : OpenClaim := { program := "ytafdaiidnphbaaa", sum := "aa82dacf9f15c1985c8665fe07692b16b131e775df7d85a5f02a3f757cd116a2", func := "dragnet/dragnetlaw16.OccurStarts", spec := "occurStarts", unfollowed := true, recurses := true, apart := false, narrowed := true }
def OccurStartsUptoSaid : Prop := occurStartsUptoRow.holds Try.pinned (OpenSpec.upto occurStartsSpec)

/-- 'dragnetlaw16.OccurLists', WHERE WHAT IT READS IS OF BULK AT MOST 1048576: true; the input reads as it did. -/
def occurListsUptoRow : OpenClaim := { program := "ytafdaiidnphbaaa", sum := "aa82dacf9f15c1985c8665fe07692b16b131e775df7d85a5f02a3f757cd116a2", func := "dragnet/dragnetlaw16.OccurLists", spec := "occurLists", unfollowed := true, recurses := true, apart := false, narrowed := true }
def OccurListsUptoSaid : Prop := occurListsUptoRow.holds Try.pinned (OpenSpec.upto occurListsSpec)

/-- 'dragnetlaw16.OccurChunks', WHERE WHAT IT READS IS OF BULK AT MOST 1048576: true; the input reads as it did. -/
def occurChunksUptoRow : OpenClaim := { program := "ytafdaiidnphbaaa", sum := "aa82dacf9f15c1985c8665fe07692b16b131e775df7d85a5f02a3f757cd116a2", func := "dragnet/dragnetlaw16.OccurChunks", spec := "occurChunks", unfollowed := true, recurses := true, apart := false, narrowed := true }
def OccurChunksUptoSaid : Prop := occurChunksUptoRow.holds Try.pinned (OpenSpec.upto occurChunksSpec)

/-- 'dragnetlaw16.OccurLocal', WHERE WHAT IT READS IS OF BULK AT MOST 1048576: true; the input reads as it did. -/
def occurLocalUptoRow : OpenClaim := { program := "ytafdaiidnphbaaa", sum := "aa82dacf9f15c1985c8665fe07692b16b131e775df7d85a5f02a3f757cd116a2", func := "dragnet/dragnetlaw16.OccurLocal", spec := "occurLocal", unfollowed := true, recurses := true, apart := false, narrowed := true }
def OccurLocalUptoSaid : Prop := occurLocalUptoRow.holds Try.pinned (OpenSpec.upto occurLocalSpec)

/-- 'dragnetlaw16.OccurAlls', WHERE WHAT IT READS IS OF BULK AT MOST 1048576: true; the input reads as it did. -/
def occurAllsUptoRow : OpenClaim := { program := "ytafdaiidnphbaaa", sum := "aa82dacf9f15c1985c8665fe07692b16b131e775df7d85a5f02a3f757cd116a2", func := "dragnet/dragnetlaw16.OccurAlls", spec := "occurAlls", unfollowed := true, recurses := true, apart := false, narrowed := true }
def OccurAllsUptoSaid : Prop := occurAllsUptoRow.holds Try.pinned (OpenSpec.upto occurAllsSpec)

/-- 'dragnetlaw16.OccurRules', WHERE WHAT IT READS IS OF BULK AT MOST 1048576: true; the input reads as it did. -/
def occurRulesUptoRow : OpenClaim := { program := "ytafdaiidnphbaaa", sum := "aa82dacf9f15c1985c8665fe07692b16b131e775df7d85a5f02a3f757cd116a2", func := "dragnet/dragnetlaw16.OccurRules", spec := "occurRules", unfollowed := true, recurses := true, apart := false, narrowed := true }
def OccurRulesUptoSaid : Prop := occurRulesUptoRow.holds Try.pinned (OpenSpec.upto occurRulesSpec)

end Rows
end Go.Proofs.Ytafdaiidnphbaaa
