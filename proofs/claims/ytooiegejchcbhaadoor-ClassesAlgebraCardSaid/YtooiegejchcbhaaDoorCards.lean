/-
  DERIVED. GIVEN WITH THE SEED: THE CARDS: each row of YtooiegejchcbhaaDoorRows.lean that lists a variable, with what it lists TIED to the program's text (the seventh form; the later family's looks); each row that meets fmt, with fmt's text TOLD by the authors' own Lean function (tested against real Go, not proved from fmt's source: count such statements apart). THE CARD IS WHAT COUNTS. Prove the row's statement (the work); the ties are given (YtooiegejchcbhaaDoorTie.lean); close each card by the builder's one call (the guide's Derived/Test/ToyasCard.lean, 'card_holds'). Laid BY PROGRAM, IN A SANDBOX (cutbox-door.mjs). By AI agents, Wed Nov 11 2026. No macro, syntax, notation, axiom, sorry.
-/
import Derived.Test.YtooiegejchcbhaaDoorRows
import GoSem.ClaimSeven
namespace Go.Proofs.YtooiegejchcbhaaDoor
namespace Rows

/-- THE TIED CARD OF 'dragnetlaw03.ClassesBack'. -/
def classesBackCard : Claim7 := { stood := { row := classesBackRow, standIns := [], harness := (true, "22bfa03ded28fcdf6dce186b205dc0d6516f7b640c39f0a6a20e7c48906351c0"), looks := false }, kinds := [], alts := [], laidByText := true, laidKinds := [.data], laidTests := true, laidLooks := .later }
def ClassesBackCardSaid : Prop := Claim7.holds Tryd.pinned (.plain (OpenSpec.ofChange classesBackSpec)) classesBackCard

/-- THE TIED CARD OF 'dragnetlaw03.ClassesKnown'. -/
def classesKnownCard : Claim7 := { stood := { row := classesKnownRow, standIns := [], harness := (true, "22bfa03ded28fcdf6dce186b205dc0d6516f7b640c39f0a6a20e7c48906351c0"), looks := false }, kinds := [], alts := [], laidByText := true, laidKinds := [.data], laidTests := true, laidLooks := .later }
def ClassesKnownCardSaid : Prop := Claim7.holds Tryd.pinned (.plain (OpenSpec.ofChange classesKnownSpec)) classesKnownCard

/-- THE TIED CARD OF 'dragnetlaw03.ClassesMakes'. -/
def classesMakesCard : Claim7 := { stood := { row := classesMakesRow, standIns := [], harness := (true, "22bfa03ded28fcdf6dce186b205dc0d6516f7b640c39f0a6a20e7c48906351c0"), looks := false }, kinds := [], alts := [], laidByText := true, laidKinds := [.data], laidTests := true, laidLooks := .later }
def ClassesMakesCardSaid : Prop := Claim7.holds Tryd.pinned (.plain (OpenSpec.ofChange classesMakesSpec)) classesMakesCard

/-- THE TIED CARD OF 'dragnetlaw03.ClassesLaws'. -/
def classesLawsCard : Claim7 := { stood := { row := classesLawsRow, standIns := [], harness := (true, "22bfa03ded28fcdf6dce186b205dc0d6516f7b640c39f0a6a20e7c48906351c0"), looks := false }, kinds := [], alts := [], laidByText := true, laidKinds := [.data], laidTests := true, laidLooks := .later }
def ClassesLawsCardSaid : Prop := Claim7.holds Tryd.pinned (.plain (OpenSpec.ofChange classesLawsSpec)) classesLawsCard

/-- THE TIED CARD OF 'dragnetlaw03.ClassesAlgebra'. -/
def classesAlgebraCard : Claim7 := { stood := { row := classesAlgebraRow, standIns := [], harness := (true, "22bfa03ded28fcdf6dce186b205dc0d6516f7b640c39f0a6a20e7c48906351c0"), looks := false }, kinds := [], alts := [], laidByText := true, laidKinds := [.data], laidTests := true, laidLooks := .later }
def ClassesAlgebraCardSaid : Prop := Claim7.holds Tryd.pinned (.plain (OpenSpec.ofChange classesAlgebraSpec)) classesAlgebraCard

/-- THE TIED CARD OF 'dragnetlaw03.ClassesCounts'. -/
def classesCountsCard : Claim7 := { stood := { row := classesCountsRow, standIns := [], harness := (true, "22bfa03ded28fcdf6dce186b205dc0d6516f7b640c39f0a6a20e7c48906351c0"), looks := false }, kinds := [], alts := [], laidByText := true, laidKinds := [.data], laidTests := true, laidLooks := .later }
def ClassesCountsCardSaid : Prop := Claim7.holds Tryd.pinned (.plain (OpenSpec.ofChange classesCountsSpec)) classesCountsCard

/-- THE SECOND FORM's CARD OF 'dragnetlaw03.ClassesBack'. -/
def classesBackUptoCard : Claim7 := { stood := { row := classesBackUptoRow, standIns := [], harness := (true, "22bfa03ded28fcdf6dce186b205dc0d6516f7b640c39f0a6a20e7c48906351c0"), looks := false }, kinds := [], alts := [], laidByText := true, laidKinds := [.data], laidTests := true, laidLooks := .later }
def ClassesBackUptoCardSaid : Prop := Claim7.holds Tryd.pinned (.plain (OpenSpec.upto classesBackSpec)) classesBackUptoCard

/-- THE SECOND FORM's CARD OF 'dragnetlaw03.ClassesKnown'. -/
def classesKnownUptoCard : Claim7 := { stood := { row := classesKnownUptoRow, standIns := [], harness := (true, "22bfa03ded28fcdf6dce186b205dc0d6516f7b640c39f0a6a20e7c48906351c0"), looks := false }, kinds := [], alts := [], laidByText := true, laidKinds := [.data], laidTests := true, laidLooks := .later }
def ClassesKnownUptoCardSaid : Prop := Claim7.holds Tryd.pinned (.plain (OpenSpec.upto classesKnownSpec)) classesKnownUptoCard

/-- THE SECOND FORM's CARD OF 'dragnetlaw03.ClassesMakes'. -/
def classesMakesUptoCard : Claim7 := { stood := { row := classesMakesUptoRow, standIns := [], harness := (true, "22bfa03ded28fcdf6dce186b205dc0d6516f7b640c39f0a6a20e7c48906351c0"), looks := false }, kinds := [], alts := [], laidByText := true, laidKinds := [.data], laidTests := true, laidLooks := .later }
def ClassesMakesUptoCardSaid : Prop := Claim7.holds Tryd.pinned (.plain (OpenSpec.upto classesMakesSpec)) classesMakesUptoCard

/-- THE SECOND FORM's CARD OF 'dragnetlaw03.ClassesLaws'. -/
def classesLawsUptoCard : Claim7 := { stood := { row := classesLawsUptoRow, standIns := [], harness := (true, "22bfa03ded28fcdf6dce186b205dc0d6516f7b640c39f0a6a20e7c48906351c0"), looks := false }, kinds := [], alts := [], laidByText := true, laidKinds := [.data], laidTests := true, laidLooks := .later }
def ClassesLawsUptoCardSaid : Prop := Claim7.holds Tryd.pinned (.plain (OpenSpec.upto classesLawsSpec)) classesLawsUptoCard

/-- THE SECOND FORM's CARD OF 'dragnetlaw03.ClassesAlgebra'. -/
def classesAlgebraUptoCard : Claim7 := { stood := { row := classesAlgebraUptoRow, standIns := [], harness := (true, "22bfa03ded28fcdf6dce186b205dc0d6516f7b640c39f0a6a20e7c48906351c0"), looks := false }, kinds := [], alts := [], laidByText := true, laidKinds := [.data], laidTests := true, laidLooks := .later }
def ClassesAlgebraUptoCardSaid : Prop := Claim7.holds Tryd.pinned (.plain (OpenSpec.upto classesAlgebraSpec)) classesAlgebraUptoCard

/-- THE SECOND FORM's CARD OF 'dragnetlaw03.ClassesCounts'. -/
def classesCountsUptoCard : Claim7 := { stood := { row := classesCountsUptoRow, standIns := [], harness := (true, "22bfa03ded28fcdf6dce186b205dc0d6516f7b640c39f0a6a20e7c48906351c0"), looks := false }, kinds := [], alts := [], laidByText := true, laidKinds := [.data], laidTests := true, laidLooks := .later }
def ClassesCountsUptoCardSaid : Prop := Claim7.holds Tryd.pinned (.plain (OpenSpec.upto classesCountsSpec)) classesCountsUptoCard
end Rows
end Go.Proofs.YtooiegejchcbhaaDoor
