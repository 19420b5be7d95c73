/-
  DERIVED. GIVEN WITH THE SEED: THE CARDS: each row of YtfmngphmmhjicaaDoorRows.lean that lists a variable, with what it lists TIED to the program's text (the seventh form; the later family's looks); each row that meets fmt, with fmt's text TOLD by the authors' own Lean function (tested against real Go, not proved from fmt's source: count such statements apart). THE CARD IS WHAT COUNTS. Prove the row's statement (the work); the ties are given (YtfmngphmmhjicaaDoorTie.lean); close each card by the builder's one call (the guide's Derived/Test/ToyasCard.lean, 'card_holds'). Laid BY PROGRAM, IN A SANDBOX (cutbox-door.mjs). By AI agents, Wed Nov 11 2026. No macro, syntax, notation, axiom, sorry.
-/
import Derived.Test.YtfmngphmmhjicaaDoorRows
import GoSem.ClaimSeven
namespace Go.Proofs.YtfmngphmmhjicaaDoor
namespace Rows

/-- THE TIED CARD OF 'dragnetlaw27.BlocksBack'. -/
def blocksBackCard : Claim7 := { stood := { row := blocksBackRow, standIns := [], harness := (true, "bb2bdf44fbfcb8064622bec54d6487936d9def301811342a99e7e446278b78f2"), looks := false }, kinds := [], alts := [], laidByText := true, laidKinds := [.data, .pinned], laidTests := true, laidLooks := .later }
def BlocksBackCardSaid : Prop := Claim7.holds Tryd.pinned (.plain (OpenSpec.ofChange blocksBackSpec)) blocksBackCard

/-- THE TIED CARD OF 'dragnetlaw27.BlocksJoins'. -/
def blocksJoinsCard : Claim7 := { stood := { row := blocksJoinsRow, standIns := [], harness := (true, "bb2bdf44fbfcb8064622bec54d6487936d9def301811342a99e7e446278b78f2"), looks := false }, kinds := [], alts := [], laidByText := true, laidKinds := [.data, .pinned], laidTests := true, laidLooks := .later }
def BlocksJoinsCardSaid : Prop := Claim7.holds Tryd.pinned (.plain (OpenSpec.ofChange blocksJoinsSpec)) blocksJoinsCard

/-- THE SECOND FORM's CARD OF 'dragnetlaw27.BlocksBack'. -/
def blocksBackUptoCard : Claim7 := { stood := { row := blocksBackUptoRow, standIns := [], harness := (true, "bb2bdf44fbfcb8064622bec54d6487936d9def301811342a99e7e446278b78f2"), looks := false }, kinds := [], alts := [], laidByText := true, laidKinds := [.data, .pinned], laidTests := true, laidLooks := .later }
def BlocksBackUptoCardSaid : Prop := Claim7.holds Tryd.pinned (.plain (OpenSpec.upto blocksBackSpec)) blocksBackUptoCard

/-- THE SECOND FORM's CARD OF 'dragnetlaw27.BlocksJoins'. -/
def blocksJoinsUptoCard : Claim7 := { stood := { row := blocksJoinsUptoRow, standIns := [], harness := (true, "bb2bdf44fbfcb8064622bec54d6487936d9def301811342a99e7e446278b78f2"), looks := false }, kinds := [], alts := [], laidByText := true, laidKinds := [.data, .pinned], laidTests := true, laidLooks := .later }
def BlocksJoinsUptoCardSaid : Prop := Claim7.holds Tryd.pinned (.plain (OpenSpec.upto blocksJoinsSpec)) blocksJoinsUptoCard
end Rows
end Go.Proofs.YtfmngphmmhjicaaDoor
