/-
  DERIVED. GIVEN WITH THE SEED: THE CARDS: each row of YtifkphfhadimaaaGreatDoorRows.lean that lists a variable, with what it lists TIED to the program's text (the seventh form; the later family's looks); each row that meets fmt, with fmt's text TOLD by the authors' own Lean function (tested against real Go, not proved from fmt's source: count such statements apart). THE CARD IS WHAT COUNTS. Prove the row's statement (the work); the ties are given (YtifkphfhadimaaaGreatDoorTie.lean); close each card by the builder's one call (the guide's Derived/Test/ToyasCard.lean, 'card_holds'). Laid BY PROGRAM, IN A SANDBOX (cutbox-door.mjs). By AI agents, Wed Nov 11 2026. No macro, syntax, notation, axiom, sorry.
-/
import Derived.Test.YtifkphfhadimaaaGreatDoorRows
import GoSem.ClaimSeven
namespace Go.Proofs.YtifkphfhadimaaaGreatDoor
namespace Rows

/-- THE TIED CARD OF 'locklesslaw16.LibGuards'. -/
def libGuardsCard : Claim7 := { stood := { row := libGuardsRow, standIns := [], harness := (true, "faa3d123406289e5c76482b4ce5685fff5ec9425f845e56e102cc40499d907fb"), looks := true }, kinds := [], alts := [], laidByText := true, laidKinds := [.data, .data, .data, .data, .sentinel, .sentinel, .pinned], laidTests := true, laidLooks := .later }
def LibGuardsCardSaid : Prop := Claim7.holds Tryz.pinned (.plain (OpenSpec.ofChange libGuardsSpec)) libGuardsCard

/-- THE TIED CARD OF 'locklesslaw16.LibNames'. -/
def libNamesCard : Claim7 := { stood := { row := libNamesRow, standIns := [], harness := (true, "faa3d123406289e5c76482b4ce5685fff5ec9425f845e56e102cc40499d907fb"), looks := true }, kinds := [], alts := [], laidByText := true, laidKinds := [.data, .data, .data, .data, .sentinel, .sentinel, .pinned], laidTests := true, laidLooks := .later }
def LibNamesCardSaid : Prop := Claim7.holds Tryz.pinned (.plain (OpenSpec.ofChange libNamesSpec)) libNamesCard

/-- THE TIED CARD OF 'locklesslaw16.LibSources'. -/
def libSourcesCard : Claim7 := { stood := { row := libSourcesRow, standIns := [], harness := (true, "faa3d123406289e5c76482b4ce5685fff5ec9425f845e56e102cc40499d907fb"), looks := true }, kinds := [], alts := [], laidByText := true, laidKinds := [.data, .data, .data, .data, .sentinel, .sentinel, .pinned], laidTests := true, laidLooks := .later }
def LibSourcesCardSaid : Prop := Claim7.holds Tryz.pinned (.plain (OpenSpec.ofChange libSourcesSpec)) libSourcesCard

/-- THE TIED CARD OF 'locklesslaw16.LibTakes'. -/
def libTakesCard : Claim7 := { stood := { row := libTakesRow, standIns := [], harness := (true, "faa3d123406289e5c76482b4ce5685fff5ec9425f845e56e102cc40499d907fb"), looks := true }, kinds := [], alts := [], laidByText := true, laidKinds := [.data, .data, .data, .data, .sentinel, .sentinel, .pinned], laidTests := true, laidLooks := .later }
def LibTakesCardSaid : Prop := Claim7.holds Tryz.pinned (.plain (OpenSpec.ofChange libTakesSpec)) libTakesCard

/-- THE TIED CARD OF 'locklesslaw16.LibRoutines'. -/
def libRoutinesCard : Claim7 := { stood := { row := libRoutinesRow, standIns := [], harness := (true, "faa3d123406289e5c76482b4ce5685fff5ec9425f845e56e102cc40499d907fb"), looks := true }, kinds := [], alts := [], laidByText := true, laidKinds := [.data, .data, .data, .data, .sentinel, .sentinel, .pinned], laidTests := true, laidLooks := .later }
def LibRoutinesCardSaid : Prop := Claim7.holds Tryz.pinned (.plain (OpenSpec.ofChange libRoutinesSpec)) libRoutinesCard

/-- THE TIED CARD OF 'locklesslaw16.LibPrograms'. -/
def libProgramsCard : Claim7 := { stood := { row := libProgramsRow, standIns := [], harness := (true, "faa3d123406289e5c76482b4ce5685fff5ec9425f845e56e102cc40499d907fb"), looks := true }, kinds := [], alts := [], laidByText := true, laidKinds := [.data, .data, .data, .data, .sentinel, .sentinel, .pinned], laidTests := true, laidLooks := .later }
def LibProgramsCardSaid : Prop := Claim7.holds Tryz.pinned (.plain (OpenSpec.ofChange libProgramsSpec)) libProgramsCard

/-- THE TIED CARD OF 'locklesslaw16.LibFits'. -/
def libFitsCard : Claim7 := { stood := { row := libFitsRow, standIns := [], harness := (true, "faa3d123406289e5c76482b4ce5685fff5ec9425f845e56e102cc40499d907fb"), looks := true }, kinds := [], alts := [], laidByText := true, laidKinds := [.data, .data, .data, .data, .sentinel, .sentinel, .pinned], laidTests := true, laidLooks := .later }
def LibFitsCardSaid : Prop := Claim7.holds Tryz.pinned (.plain (OpenSpec.ofChange libFitsSpec)) libFitsCard

/-- THE TIED CARD OF 'locklesslaw16.LibTable'. -/
def libTableCard : Claim7 := { stood := { row := libTableRow, standIns := [], harness := (true, "faa3d123406289e5c76482b4ce5685fff5ec9425f845e56e102cc40499d907fb"), looks := true }, kinds := [], alts := [], laidByText := true, laidKinds := [.data, .data, .data, .data, .sentinel, .sentinel, .pinned], laidTests := true, laidLooks := .later }
def LibTableCardSaid : Prop := Claim7.holds Tryz.pinned (.plain (OpenSpec.ofChange libTableSpec)) libTableCard

/-- THE TIED CARD OF 'locklesslaw16.LibEach'. -/
def libEachCard : Claim7 := { stood := { row := libEachRow, standIns := [], harness := (true, "faa3d123406289e5c76482b4ce5685fff5ec9425f845e56e102cc40499d907fb"), looks := true }, kinds := [], alts := [], laidByText := true, laidKinds := [.data, .data, .data, .data, .sentinel, .sentinel, .pinned], laidTests := true, laidLooks := .later }
def LibEachCardSaid : Prop := Claim7.holds Tryz.pinned (.plain (OpenSpec.ofChange libEachSpec)) libEachCard

/-- THE TIED CARD OF 'locklesslaw16.LibSpreads'. -/
def libSpreadsCard : Claim7 := { stood := { row := libSpreadsRow, standIns := [], harness := (true, "faa3d123406289e5c76482b4ce5685fff5ec9425f845e56e102cc40499d907fb"), looks := true }, kinds := [], alts := [], laidByText := true, laidKinds := [.data, .data, .data, .data, .sentinel, .sentinel, .pinned], laidTests := true, laidLooks := .later }
def LibSpreadsCardSaid : Prop := Claim7.holds Tryz.pinned (.plain (OpenSpec.ofChange libSpreadsSpec)) libSpreadsCard

/-- THE TIED CARD OF 'locklesslaw16.LibEnds'. -/
def libEndsCard : Claim7 := { stood := { row := libEndsRow, standIns := [], harness := (true, "faa3d123406289e5c76482b4ce5685fff5ec9425f845e56e102cc40499d907fb"), looks := true }, kinds := [], alts := [], laidByText := true, laidKinds := [.data, .data, .data, .data, .sentinel, .sentinel, .pinned], laidTests := true, laidLooks := .later }
def LibEndsCardSaid : Prop := Claim7.holds Tryz.pinned (.plain (OpenSpec.ofChange libEndsSpec)) libEndsCard

/-- THE TIED CARD OF 'locklesslaw16.LibSpreadFits'. -/
def libSpreadFitsCard : Claim7 := { stood := { row := libSpreadFitsRow, standIns := [], harness := (true, "faa3d123406289e5c76482b4ce5685fff5ec9425f845e56e102cc40499d907fb"), looks := true }, kinds := [], alts := [], laidByText := true, laidKinds := [.data, .data, .data, .data, .sentinel, .sentinel, .pinned], laidTests := true, laidLooks := .later }
def LibSpreadFitsCardSaid : Prop := Claim7.holds Tryz.pinned (.plain (OpenSpec.ofChange libSpreadFitsSpec)) libSpreadFitsCard

/-- THE TIED CARD OF 'locklesslaw16.LibTexts'. -/
def libTextsCard : Claim7 := { stood := { row := libTextsRow, standIns := [], harness := (true, "faa3d123406289e5c76482b4ce5685fff5ec9425f845e56e102cc40499d907fb"), looks := true }, kinds := [], alts := [], laidByText := true, laidKinds := [.data, .data, .data, .data, .sentinel, .sentinel, .pinned], laidTests := true, laidLooks := .later }
def LibTextsCardSaid : Prop := Claim7.holds Tryz.pinned (.plain (OpenSpec.ofChange libTextsSpec)) libTextsCard

/-- THE TIED CARD OF 'locklesslaw07.CodeWrites'. -/
def codeWritesCard : Claim7 := { stood := { row := codeWritesRow, standIns := [], harness := (true, "faa3d123406289e5c76482b4ce5685fff5ec9425f845e56e102cc40499d907fb"), looks := true }, kinds := [], alts := [], laidByText := true, laidKinds := [.data, .data, .data, .data, .sentinel, .sentinel, .pinned], laidTests := true, laidLooks := .later }
def CodeWritesCardSaid : Prop := Claim7.holds Tryz.pinned (.plain (OpenSpec.ofChange codeWritesSpec)) codeWritesCard

/-- THE TIED CARD OF 'locklesslaw07.CodeReads'. -/
def codeReadsCard : Claim7 := { stood := { row := codeReadsRow, standIns := [], harness := (true, "faa3d123406289e5c76482b4ce5685fff5ec9425f845e56e102cc40499d907fb"), looks := true }, kinds := [], alts := [], laidByText := true, laidKinds := [.data, .data, .data, .data, .sentinel, .sentinel, .pinned], laidTests := true, laidLooks := .later }
def CodeReadsCardSaid : Prop := Claim7.holds Tryz.pinned (.plain (OpenSpec.ofChange codeReadsSpec)) codeReadsCard

/-- THE TIED CARD OF 'locklesslaw07.CodeBlanks'. -/
def codeBlanksCard : Claim7 := { stood := { row := codeBlanksRow, standIns := [], harness := (true, "faa3d123406289e5c76482b4ce5685fff5ec9425f845e56e102cc40499d907fb"), looks := true }, kinds := [], alts := [], laidByText := true, laidKinds := [.data, .data, .data, .data, .sentinel, .sentinel, .pinned], laidTests := true, laidLooks := .later }
def CodeBlanksCardSaid : Prop := Claim7.holds Tryz.pinned (.plain (OpenSpec.ofChange codeBlanksSpec)) codeBlanksCard

/-- THE TIED CARD OF 'locklesslaw07.CodeInstrs'. -/
def codeInstrsCard : Claim7 := { stood := { row := codeInstrsRow, standIns := [], harness := (true, "faa3d123406289e5c76482b4ce5685fff5ec9425f845e56e102cc40499d907fb"), looks := true }, kinds := [], alts := [], laidByText := true, laidKinds := [.data, .data, .data, .data, .sentinel, .sentinel, .pinned], laidTests := true, laidLooks := .later }
def CodeInstrsCardSaid : Prop := Claim7.holds Tryz.pinned (.plain (OpenSpec.ofChange codeInstrsSpec)) codeInstrsCard

/-- THE TIED CARD OF 'locklesslaw07.CodeChecks'. -/
def codeChecksCard : Claim7 := { stood := { row := codeChecksRow, standIns := [], harness := (true, "faa3d123406289e5c76482b4ce5685fff5ec9425f845e56e102cc40499d907fb"), looks := true }, kinds := [], alts := [], laidByText := true, laidKinds := [.data, .data, .data, .data, .sentinel, .sentinel, .pinned], laidTests := true, laidLooks := .later }
def CodeChecksCardSaid : Prop := Claim7.holds Tryz.pinned (.plain (OpenSpec.ofChange codeChecksSpec)) codeChecksCard

/-- THE TIED CARD OF 'locklesslaw07.CodeReaches'. -/
def codeReachesCard : Claim7 := { stood := { row := codeReachesRow, standIns := [], harness := (true, "faa3d123406289e5c76482b4ce5685fff5ec9425f845e56e102cc40499d907fb"), looks := true }, kinds := [], alts := [], laidByText := true, laidKinds := [.data, .data, .data, .data, .sentinel, .sentinel, .pinned], laidTests := true, laidLooks := .later }
def CodeReachesCardSaid : Prop := Claim7.holds Tryz.pinned (.plain (OpenSpec.ofChange codeReachesSpec)) codeReachesCard

/-- THE TIED CARD OF 'locklesslaw07.CodeSame'. -/
def codeSameCard : Claim7 := { stood := { row := codeSameRow, standIns := [], harness := (true, "faa3d123406289e5c76482b4ce5685fff5ec9425f845e56e102cc40499d907fb"), looks := true }, kinds := [], alts := [], laidByText := true, laidKinds := [.data, .data, .data, .data, .sentinel, .sentinel, .pinned], laidTests := true, laidLooks := .later }
def CodeSameCardSaid : Prop := Claim7.holds Tryz.pinned (.plain (OpenSpec.ofChange codeSameSpec)) codeSameCard

/-- THE TIED CARD OF 'locklesslaw07.CodeFinds'. -/
def codeFindsCard : Claim7 := { stood := { row := codeFindsRow, standIns := [], harness := (true, "faa3d123406289e5c76482b4ce5685fff5ec9425f845e56e102cc40499d907fb"), looks := true }, kinds := [], alts := [], laidByText := true, laidKinds := [.data, .data, .data, .data, .sentinel, .sentinel, .pinned], laidTests := true, laidLooks := .later }
def CodeFindsCardSaid : Prop := Claim7.holds Tryz.pinned (.plain (OpenSpec.ofChange codeFindsSpec)) codeFindsCard

/-- THE SECOND FORM's CARD OF 'locklesslaw16.LibGuards'. -/
def libGuardsUptoCard : Claim7 := { stood := { row := libGuardsUptoRow, standIns := [], harness := (true, "faa3d123406289e5c76482b4ce5685fff5ec9425f845e56e102cc40499d907fb"), looks := true }, kinds := [], alts := [], laidByText := true, laidKinds := [.data, .data, .data, .data, .sentinel, .sentinel, .pinned], laidTests := true, laidLooks := .later }
def LibGuardsUptoCardSaid : Prop := Claim7.holds Tryz.pinned (.plain (OpenSpec.upto libGuardsSpec)) libGuardsUptoCard

/-- THE SECOND FORM's CARD OF 'locklesslaw16.LibNames'. -/
def libNamesUptoCard : Claim7 := { stood := { row := libNamesUptoRow, standIns := [], harness := (true, "faa3d123406289e5c76482b4ce5685fff5ec9425f845e56e102cc40499d907fb"), looks := true }, kinds := [], alts := [], laidByText := true, laidKinds := [.data, .data, .data, .data, .sentinel, .sentinel, .pinned], laidTests := true, laidLooks := .later }
def LibNamesUptoCardSaid : Prop := Claim7.holds Tryz.pinned (.plain (OpenSpec.upto libNamesSpec)) libNamesUptoCard

/-- THE SECOND FORM's CARD OF 'locklesslaw16.LibSources'. -/
def libSourcesUptoCard : Claim7 := { stood := { row := libSourcesUptoRow, standIns := [], harness := (true, "faa3d123406289e5c76482b4ce5685fff5ec9425f845e56e102cc40499d907fb"), looks := true }, kinds := [], alts := [], laidByText := true, laidKinds := [.data, .data, .data, .data, .sentinel, .sentinel, .pinned], laidTests := true, laidLooks := .later }
def LibSourcesUptoCardSaid : Prop := Claim7.holds Tryz.pinned (.plain (OpenSpec.upto libSourcesSpec)) libSourcesUptoCard

/-- THE SECOND FORM's CARD OF 'locklesslaw16.LibTakes'. -/
def libTakesUptoCard : Claim7 := { stood := { row := libTakesUptoRow, standIns := [], harness := (true, "faa3d123406289e5c76482b4ce5685fff5ec9425f845e56e102cc40499d907fb"), looks := true }, kinds := [], alts := [], laidByText := true, laidKinds := [.data, .data, .data, .data, .sentinel, .sentinel, .pinned], laidTests := true, laidLooks := .later }
def LibTakesUptoCardSaid : Prop := Claim7.holds Tryz.pinned (.plain (OpenSpec.upto libTakesSpec)) libTakesUptoCard

/-- THE SECOND FORM's CARD OF 'locklesslaw16.LibRoutines'. -/
def libRoutinesUptoCard : Claim7 := { stood := { row := libRoutinesUptoRow, standIns := [], harness := (true, "faa3d123406289e5c76482b4ce5685fff5ec9425f845e56e102cc40499d907fb"), looks := true }, kinds := [], alts := [], laidByText := true, laidKinds := [.data, .data, .data, .data, .sentinel, .sentinel, .pinned], laidTests := true, laidLooks := .later }
def LibRoutinesUptoCardSaid : Prop := Claim7.holds Tryz.pinned (.plain (OpenSpec.upto libRoutinesSpec)) libRoutinesUptoCard

/-- THE SECOND FORM's CARD OF 'locklesslaw16.LibPrograms'. -/
def libProgramsUptoCard : Claim7 := { stood := { row := libProgramsUptoRow, standIns := [], harness := (true, "faa3d123406289e5c76482b4ce5685fff5ec9425f845e56e102cc40499d907fb"), looks := true }, kinds := [], alts := [], laidByText := true, laidKinds := [.data, .data, .data, .data, .sentinel, .sentinel, .pinned], laidTests := true, laidLooks := .later }
def LibProgramsUptoCardSaid : Prop := Claim7.holds Tryz.pinned (.plain (OpenSpec.upto libProgramsSpec)) libProgramsUptoCard

/-- THE SECOND FORM's CARD OF 'locklesslaw16.LibFits'. -/
def libFitsUptoCard : Claim7 := { stood := { row := libFitsUptoRow, standIns := [], harness := (true, "faa3d123406289e5c76482b4ce5685fff5ec9425f845e56e102cc40499d907fb"), looks := true }, kinds := [], alts := [], laidByText := true, laidKinds := [.data, .data, .data, .data, .sentinel, .sentinel, .pinned], laidTests := true, laidLooks := .later }
def LibFitsUptoCardSaid : Prop := Claim7.holds Tryz.pinned (.plain (OpenSpec.upto libFitsSpec)) libFitsUptoCard

/-- THE SECOND FORM's CARD OF 'locklesslaw16.LibTable'. -/
def libTableUptoCard : Claim7 := { stood := { row := libTableUptoRow, standIns := [], harness := (true, "faa3d123406289e5c76482b4ce5685fff5ec9425f845e56e102cc40499d907fb"), looks := true }, kinds := [], alts := [], laidByText := true, laidKinds := [.data, .data, .data, .data, .sentinel, .sentinel, .pinned], laidTests := true, laidLooks := .later }
def LibTableUptoCardSaid : Prop := Claim7.holds Tryz.pinned (.plain (OpenSpec.upto libTableSpec)) libTableUptoCard

/-- THE SECOND FORM's CARD OF 'locklesslaw16.LibEach'. -/
def libEachUptoCard : Claim7 := { stood := { row := libEachUptoRow, standIns := [], harness := (true, "faa3d123406289e5c76482b4ce5685fff5ec9425f845e56e102cc40499d907fb"), looks := true }, kinds := [], alts := [], laidByText := true, laidKinds := [.data, .data, .data, .data, .sentinel, .sentinel, .pinned], laidTests := true, laidLooks := .later }
def LibEachUptoCardSaid : Prop := Claim7.holds Tryz.pinned (.plain (OpenSpec.upto libEachSpec)) libEachUptoCard

/-- THE SECOND FORM's CARD OF 'locklesslaw16.LibSpreads'. -/
def libSpreadsUptoCard : Claim7 := { stood := { row := libSpreadsUptoRow, standIns := [], harness := (true, "faa3d123406289e5c76482b4ce5685fff5ec9425f845e56e102cc40499d907fb"), looks := true }, kinds := [], alts := [], laidByText := true, laidKinds := [.data, .data, .data, .data, .sentinel, .sentinel, .pinned], laidTests := true, laidLooks := .later }
def LibSpreadsUptoCardSaid : Prop := Claim7.holds Tryz.pinned (.plain (OpenSpec.upto libSpreadsSpec)) libSpreadsUptoCard

/-- THE SECOND FORM's CARD OF 'locklesslaw16.LibEnds'. -/
def libEndsUptoCard : Claim7 := { stood := { row := libEndsUptoRow, standIns := [], harness := (true, "faa3d123406289e5c76482b4ce5685fff5ec9425f845e56e102cc40499d907fb"), looks := true }, kinds := [], alts := [], laidByText := true, laidKinds := [.data, .data, .data, .data, .sentinel, .sentinel, .pinned], laidTests := true, laidLooks := .later }
def LibEndsUptoCardSaid : Prop := Claim7.holds Tryz.pinned (.plain (OpenSpec.upto libEndsSpec)) libEndsUptoCard

/-- THE SECOND FORM's CARD OF 'locklesslaw16.LibSpreadFits'. -/
def libSpreadFitsUptoCard : Claim7 := { stood := { row := libSpreadFitsUptoRow, standIns := [], harness := (true, "faa3d123406289e5c76482b4ce5685fff5ec9425f845e56e102cc40499d907fb"), looks := true }, kinds := [], alts := [], laidByText := true, laidKinds := [.data, .data, .data, .data, .sentinel, .sentinel, .pinned], laidTests := true, laidLooks := .later }
def LibSpreadFitsUptoCardSaid : Prop := Claim7.holds Tryz.pinned (.plain (OpenSpec.upto libSpreadFitsSpec)) libSpreadFitsUptoCard

/-- THE SECOND FORM's CARD OF 'locklesslaw16.LibTexts'. -/
def libTextsUptoCard : Claim7 := { stood := { row := libTextsUptoRow, standIns := [], harness := (true, "faa3d123406289e5c76482b4ce5685fff5ec9425f845e56e102cc40499d907fb"), looks := true }, kinds := [], alts := [], laidByText := true, laidKinds := [.data, .data, .data, .data, .sentinel, .sentinel, .pinned], laidTests := true, laidLooks := .later }
def LibTextsUptoCardSaid : Prop := Claim7.holds Tryz.pinned (.plain (OpenSpec.upto libTextsSpec)) libTextsUptoCard

/-- THE SECOND FORM's CARD OF 'locklesslaw07.CodeWrites'. -/
def codeWritesUptoCard : Claim7 := { stood := { row := codeWritesUptoRow, standIns := [], harness := (true, "faa3d123406289e5c76482b4ce5685fff5ec9425f845e56e102cc40499d907fb"), looks := true }, kinds := [], alts := [], laidByText := true, laidKinds := [.data, .data, .data, .data, .sentinel, .sentinel, .pinned], laidTests := true, laidLooks := .later }
def CodeWritesUptoCardSaid : Prop := Claim7.holds Tryz.pinned (.plain (OpenSpec.upto codeWritesSpec)) codeWritesUptoCard

/-- THE SECOND FORM's CARD OF 'locklesslaw07.CodeReads'. -/
def codeReadsUptoCard : Claim7 := { stood := { row := codeReadsUptoRow, standIns := [], harness := (true, "faa3d123406289e5c76482b4ce5685fff5ec9425f845e56e102cc40499d907fb"), looks := true }, kinds := [], alts := [], laidByText := true, laidKinds := [.data, .data, .data, .data, .sentinel, .sentinel, .pinned], laidTests := true, laidLooks := .later }
def CodeReadsUptoCardSaid : Prop := Claim7.holds Tryz.pinned (.plain (OpenSpec.upto codeReadsSpec)) codeReadsUptoCard

/-- THE SECOND FORM's CARD OF 'locklesslaw07.CodeBlanks'. -/
def codeBlanksUptoCard : Claim7 := { stood := { row := codeBlanksUptoRow, standIns := [], harness := (true, "faa3d123406289e5c76482b4ce5685fff5ec9425f845e56e102cc40499d907fb"), looks := true }, kinds := [], alts := [], laidByText := true, laidKinds := [.data, .data, .data, .data, .sentinel, .sentinel, .pinned], laidTests := true, laidLooks := .later }
def CodeBlanksUptoCardSaid : Prop := Claim7.holds Tryz.pinned (.plain (OpenSpec.upto codeBlanksSpec)) codeBlanksUptoCard

/-- THE SECOND FORM's CARD OF 'locklesslaw07.CodeInstrs'. -/
def codeInstrsUptoCard : Claim7 := { stood := { row := codeInstrsUptoRow, standIns := [], harness := (true, "faa3d123406289e5c76482b4ce5685fff5ec9425f845e56e102cc40499d907fb"), looks := true }, kinds := [], alts := [], laidByText := true, laidKinds := [.data, .data, .data, .data, .sentinel, .sentinel, .pinned], laidTests := true, laidLooks := .later }
def CodeInstrsUptoCardSaid : Prop := Claim7.holds Tryz.pinned (.plain (OpenSpec.upto codeInstrsSpec)) codeInstrsUptoCard

/-- THE SECOND FORM's CARD OF 'locklesslaw07.CodeChecks'. -/
def codeChecksUptoCard : Claim7 := { stood := { row := codeChecksUptoRow, standIns := [], harness := (true, "faa3d123406289e5c76482b4ce5685fff5ec9425f845e56e102cc40499d907fb"), looks := true }, kinds := [], alts := [], laidByText := true, laidKinds := [.data, .data, .data, .data, .sentinel, .sentinel, .pinned], laidTests := true, laidLooks := .later }
def CodeChecksUptoCardSaid : Prop := Claim7.holds Tryz.pinned (.plain (OpenSpec.upto codeChecksSpec)) codeChecksUptoCard

/-- THE SECOND FORM's CARD OF 'locklesslaw07.CodeReaches'. -/
def codeReachesUptoCard : Claim7 := { stood := { row := codeReachesUptoRow, standIns := [], harness := (true, "faa3d123406289e5c76482b4ce5685fff5ec9425f845e56e102cc40499d907fb"), looks := true }, kinds := [], alts := [], laidByText := true, laidKinds := [.data, .data, .data, .data, .sentinel, .sentinel, .pinned], laidTests := true, laidLooks := .later }
def CodeReachesUptoCardSaid : Prop := Claim7.holds Tryz.pinned (.plain (OpenSpec.upto codeReachesSpec)) codeReachesUptoCard

/-- THE SECOND FORM's CARD OF 'locklesslaw07.CodeSame'. -/
def codeSameUptoCard : Claim7 := { stood := { row := codeSameUptoRow, standIns := [], harness := (true, "faa3d123406289e5c76482b4ce5685fff5ec9425f845e56e102cc40499d907fb"), looks := true }, kinds := [], alts := [], laidByText := true, laidKinds := [.data, .data, .data, .data, .sentinel, .sentinel, .pinned], laidTests := true, laidLooks := .later }
def CodeSameUptoCardSaid : Prop := Claim7.holds Tryz.pinned (.plain (OpenSpec.upto codeSameSpec)) codeSameUptoCard

/-- THE SECOND FORM's CARD OF 'locklesslaw07.CodeFinds'. -/
def codeFindsUptoCard : Claim7 := { stood := { row := codeFindsUptoRow, standIns := [], harness := (true, "faa3d123406289e5c76482b4ce5685fff5ec9425f845e56e102cc40499d907fb"), looks := true }, kinds := [], alts := [], laidByText := true, laidKinds := [.data, .data, .data, .data, .sentinel, .sentinel, .pinned], laidTests := true, laidLooks := .later }
def CodeFindsUptoCardSaid : Prop := Claim7.holds Tryz.pinned (.plain (OpenSpec.upto codeFindsSpec)) codeFindsUptoCard
end Rows
end Go.Proofs.YtifkphfhadimaaaGreatDoor
