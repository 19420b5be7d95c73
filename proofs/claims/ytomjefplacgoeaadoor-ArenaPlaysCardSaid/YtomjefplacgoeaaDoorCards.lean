/-
  DERIVED. GIVEN WITH THE SEED: THE CARDS: each row of YtomjefplacgoeaaDoorRows.lean that lists a variable, with what it lists TIED to the program's text (the seventh form; the later family's looks); each row that meets fmt, with fmt's text TOLD by the authors' own Lean function (tested against real Go, not proved from fmt's source: count such statements apart). THE CARD IS WHAT COUNTS. Prove the row's statement (the work); the ties are given (YtomjefplacgoeaaDoorTie.lean); close each card by the builder's one call (the guide's Derived/Test/ToyasCard.lean, 'card_holds'). Laid BY PROGRAM, IN A SANDBOX (cutbox-door.mjs). By AI agents, Wed Nov 11 2026. No macro, syntax, notation, axiom, sorry.
-/
import Derived.Test.YtomjefplacgoeaaDoorRows
import GoSem.ClaimSeven
namespace Go.Proofs.YtomjefplacgoeaaDoor
namespace Rows

/-- THE TIED CARD OF 'dragnetlaw05.ArenaKeeps'. -/
def arenaKeepsCard : Claim7 := { stood := { row := arenaKeepsRow, standIns := [], harness := (true, "fa0ba3bc22dc5505d8766bf6efcc6355ea8fadaca26ff31e805dd7d45e3f142c"), looks := false }, kinds := [], alts := [], laidByText := true, laidKinds := [.data, .pinned], laidTests := true, laidLooks := .later }
def ArenaKeepsCardSaid : Prop := Claim7.holds Tryd.pinned (.plain (OpenSpec.ofChange arenaKeepsSpec)) arenaKeepsCard

/-- THE TIED CARD OF 'dragnetlaw05.ArenaRegions'. -/
def arenaRegionsCard : Claim7 := { stood := { row := arenaRegionsRow, standIns := [], harness := (true, "fa0ba3bc22dc5505d8766bf6efcc6355ea8fadaca26ff31e805dd7d45e3f142c"), looks := false }, kinds := [], alts := [], laidByText := true, laidKinds := [.data, .pinned], laidTests := true, laidLooks := .later }
def ArenaRegionsCardSaid : Prop := Claim7.holds Tryd.pinned (.plain (OpenSpec.ofChange arenaRegionsSpec)) arenaRegionsCard

/-- THE TIED CARD OF 'dragnetlaw05.ArenaKnown'. -/
def arenaKnownCard : Claim7 := { stood := { row := arenaKnownRow, standIns := [], harness := (true, "fa0ba3bc22dc5505d8766bf6efcc6355ea8fadaca26ff31e805dd7d45e3f142c"), looks := false }, kinds := [], alts := [], laidByText := true, laidKinds := [.data, .pinned], laidTests := true, laidLooks := .later }
def ArenaKnownCardSaid : Prop := Claim7.holds Tryd.pinned (.plain (OpenSpec.ofChange arenaKnownSpec)) arenaKnownCard

/-- THE TIED CARD OF 'dragnetlaw05.ArenaEnds'. -/
def arenaEndsCard : Claim7 := { stood := { row := arenaEndsRow, standIns := [], harness := (true, "fa0ba3bc22dc5505d8766bf6efcc6355ea8fadaca26ff31e805dd7d45e3f142c"), looks := false }, kinds := [], alts := [], laidByText := true, laidKinds := [.data, .pinned], laidTests := true, laidLooks := .later }
def ArenaEndsCardSaid : Prop := Claim7.holds Tryd.pinned (.plain (OpenSpec.ofChange arenaEndsSpec)) arenaEndsCard

/-- THE TIED CARD OF 'dragnetlaw05.ArenaLogs'. -/
def arenaLogsCard : Claim7 := { stood := { row := arenaLogsRow, standIns := [], harness := (true, "fa0ba3bc22dc5505d8766bf6efcc6355ea8fadaca26ff31e805dd7d45e3f142c"), looks := false }, kinds := [], alts := [], laidByText := true, laidKinds := [.data, .pinned], laidTests := true, laidLooks := .later }
def ArenaLogsCardSaid : Prop := Claim7.holds Tryd.pinned (.plain (OpenSpec.ofChange arenaLogsSpec)) arenaLogsCard

/-- THE TIED CARD OF 'dragnetlaw05.ArenaPlays'. -/
def arenaPlaysCard : Claim7 := { stood := { row := arenaPlaysRow, standIns := [], harness := (true, "fa0ba3bc22dc5505d8766bf6efcc6355ea8fadaca26ff31e805dd7d45e3f142c"), looks := false }, kinds := [], alts := [], laidByText := true, laidKinds := [.data, .pinned], laidTests := true, laidLooks := .later }
def ArenaPlaysCardSaid : Prop := Claim7.holds Tryd.pinned (.plain (OpenSpec.ofChange arenaPlaysSpec)) arenaPlaysCard

/-- THE TIED CARD OF 'dragnetlaw05.ArenaNone'. -/
def arenaNoneCard : Claim7 := { stood := { row := arenaNoneRow, standIns := [], harness := (true, "fa0ba3bc22dc5505d8766bf6efcc6355ea8fadaca26ff31e805dd7d45e3f142c"), looks := false }, kinds := [], alts := [], laidByText := true, laidKinds := [.data, .pinned], laidTests := true, laidLooks := .later }
def ArenaNoneCardSaid : Prop := Claim7.holds Tryd.pinned (.plain (OpenSpec.ofChange arenaNoneSpec)) arenaNoneCard

/-- THE SECOND FORM's CARD OF 'dragnetlaw05.ArenaKeeps'. -/
def arenaKeepsUptoCard : Claim7 := { stood := { row := arenaKeepsUptoRow, standIns := [], harness := (true, "fa0ba3bc22dc5505d8766bf6efcc6355ea8fadaca26ff31e805dd7d45e3f142c"), looks := false }, kinds := [], alts := [], laidByText := true, laidKinds := [.data, .pinned], laidTests := true, laidLooks := .later }
def ArenaKeepsUptoCardSaid : Prop := Claim7.holds Tryd.pinned (.plain (OpenSpec.upto arenaKeepsSpec)) arenaKeepsUptoCard

/-- THE SECOND FORM's CARD OF 'dragnetlaw05.ArenaRegions'. -/
def arenaRegionsUptoCard : Claim7 := { stood := { row := arenaRegionsUptoRow, standIns := [], harness := (true, "fa0ba3bc22dc5505d8766bf6efcc6355ea8fadaca26ff31e805dd7d45e3f142c"), looks := false }, kinds := [], alts := [], laidByText := true, laidKinds := [.data, .pinned], laidTests := true, laidLooks := .later }
def ArenaRegionsUptoCardSaid : Prop := Claim7.holds Tryd.pinned (.plain (OpenSpec.upto arenaRegionsSpec)) arenaRegionsUptoCard

/-- THE SECOND FORM's CARD OF 'dragnetlaw05.ArenaKnown'. -/
def arenaKnownUptoCard : Claim7 := { stood := { row := arenaKnownUptoRow, standIns := [], harness := (true, "fa0ba3bc22dc5505d8766bf6efcc6355ea8fadaca26ff31e805dd7d45e3f142c"), looks := false }, kinds := [], alts := [], laidByText := true, laidKinds := [.data, .pinned], laidTests := true, laidLooks := .later }
def ArenaKnownUptoCardSaid : Prop := Claim7.holds Tryd.pinned (.plain (OpenSpec.upto arenaKnownSpec)) arenaKnownUptoCard

/-- THE SECOND FORM's CARD OF 'dragnetlaw05.ArenaEnds'. -/
def arenaEndsUptoCard : Claim7 := { stood := { row := arenaEndsUptoRow, standIns := [], harness := (true, "fa0ba3bc22dc5505d8766bf6efcc6355ea8fadaca26ff31e805dd7d45e3f142c"), looks := false }, kinds := [], alts := [], laidByText := true, laidKinds := [.data, .pinned], laidTests := true, laidLooks := .later }
def ArenaEndsUptoCardSaid : Prop := Claim7.holds Tryd.pinned (.plain (OpenSpec.upto arenaEndsSpec)) arenaEndsUptoCard

/-- THE SECOND FORM's CARD OF 'dragnetlaw05.ArenaLogs'. -/
def arenaLogsUptoCard : Claim7 := { stood := { row := arenaLogsUptoRow, standIns := [], harness := (true, "fa0ba3bc22dc5505d8766bf6efcc6355ea8fadaca26ff31e805dd7d45e3f142c"), looks := false }, kinds := [], alts := [], laidByText := true, laidKinds := [.data, .pinned], laidTests := true, laidLooks := .later }
def ArenaLogsUptoCardSaid : Prop := Claim7.holds Tryd.pinned (.plain (OpenSpec.upto arenaLogsSpec)) arenaLogsUptoCard

/-- THE SECOND FORM's CARD OF 'dragnetlaw05.ArenaPlays'. -/
def arenaPlaysUptoCard : Claim7 := { stood := { row := arenaPlaysUptoRow, standIns := [], harness := (true, "fa0ba3bc22dc5505d8766bf6efcc6355ea8fadaca26ff31e805dd7d45e3f142c"), looks := false }, kinds := [], alts := [], laidByText := true, laidKinds := [.data, .pinned], laidTests := true, laidLooks := .later }
def ArenaPlaysUptoCardSaid : Prop := Claim7.holds Tryd.pinned (.plain (OpenSpec.upto arenaPlaysSpec)) arenaPlaysUptoCard

/-- THE SECOND FORM's CARD OF 'dragnetlaw05.ArenaNone'. -/
def arenaNoneUptoCard : Claim7 := { stood := { row := arenaNoneUptoRow, standIns := [], harness := (true, "fa0ba3bc22dc5505d8766bf6efcc6355ea8fadaca26ff31e805dd7d45e3f142c"), looks := false }, kinds := [], alts := [], laidByText := true, laidKinds := [.data, .pinned], laidTests := true, laidLooks := .later }
def ArenaNoneUptoCardSaid : Prop := Claim7.holds Tryd.pinned (.plain (OpenSpec.upto arenaNoneSpec)) arenaNoneUptoCard
end Rows
end Go.Proofs.YtomjefplacgoeaaDoor
