/-
  DERIVED. GIVEN WITH THE SEED: THE CARDS: each row of YtcjhjphmlfkikaaDoorRows.lean that lists a variable, with what it lists TIED to the program's text (the seventh form; the later family's looks); each row that meets fmt, with fmt's text TOLD by the authors' own Lean function (tested against real Go, not proved from fmt's source: count such statements apart). THE CARD IS WHAT COUNTS. Prove the row's statement (the work); the ties are given (YtcjhjphmlfkikaaDoorTie.lean); close each card by the builder's one call (the guide's Derived/Test/ToyasCard.lean, 'card_holds'). Laid BY PROGRAM, IN A SANDBOX (cutbox-door.mjs). By AI agents, Wed Nov 11 2026. No macro, syntax, notation, axiom, sorry.
-/
import Derived.Test.YtcjhjphmlfkikaaDoorRows
import GoSem.ClaimSeven
namespace Go.Proofs.YtcjhjphmlfkikaaDoor
namespace Rows

/-- THE TIED CARD OF 'locklesslaw17.HistAhead'. -/
def histAheadCard : Claim7 := { stood := { row := histAheadRow, standIns := [], harness := (true, "cc7197deddb0e6c054fd9029ed04948a973811837a6f5325de896bac45ca7310"), looks := true }, kinds := [], alts := [], laidByText := true, laidKinds := [.data, .data, .data, .data, .pinned], laidTests := true, laidLooks := .later }
def HistAheadCardSaid : Prop := Claim7.holds Tryd.pinned (.plain (OpenSpec.ofChange histAheadSpec)) histAheadCard

/-- THE TIED CARD OF 'locklesslaw17.HistBegins'. -/
def histBeginsCard : Claim7 := { stood := { row := histBeginsRow, standIns := [], harness := (true, "cc7197deddb0e6c054fd9029ed04948a973811837a6f5325de896bac45ca7310"), looks := true }, kinds := [], alts := [], laidByText := true, laidKinds := [.data, .data, .data, .data, .pinned], laidTests := true, laidLooks := .later }
def HistBeginsCardSaid : Prop := Claim7.holds Tryd.pinned (.plain (OpenSpec.ofChange histBeginsSpec)) histBeginsCard

/-- THE TIED CARD OF 'locklesslaw17.HistSpans'. -/
def histSpansCard : Claim7 := { stood := { row := histSpansRow, standIns := [], harness := (true, "cc7197deddb0e6c054fd9029ed04948a973811837a6f5325de896bac45ca7310"), looks := true }, kinds := [], alts := [], laidByText := true, laidKinds := [.data, .data, .data, .data, .pinned], laidTests := true, laidLooks := .later }
def HistSpansCardSaid : Prop := Claim7.holds Tryd.pinned (.plain (OpenSpec.ofChange histSpansSpec)) histSpansCard

/-- THE TIED CARD OF 'locklesslaw17.HistParts'. -/
def histPartsCard : Claim7 := { stood := { row := histPartsRow, standIns := [], harness := (true, "cc7197deddb0e6c054fd9029ed04948a973811837a6f5325de896bac45ca7310"), looks := true }, kinds := [], alts := [], laidByText := true, laidKinds := [.data, .data, .data, .data, .pinned], laidTests := true, laidLooks := .later }
def HistPartsCardSaid : Prop := Claim7.holds Tryd.pinned (.plain (OpenSpec.ofChange histPartsSpec)) histPartsCard

/-- THE TIED CARD OF 'locklesslaw17.HistWider'. -/
def histWiderCard : Claim7 := { stood := { row := histWiderRow, standIns := [], harness := (true, "cc7197deddb0e6c054fd9029ed04948a973811837a6f5325de896bac45ca7310"), looks := true }, kinds := [], alts := [], laidByText := true, laidKinds := [.data, .data, .data, .data, .pinned], laidTests := true, laidLooks := .later }
def HistWiderCardSaid : Prop := Claim7.holds Tryd.pinned (.plain (OpenSpec.ofChange histWiderSpec)) histWiderCard

/-- THE TIED CARD OF 'locklesslaw17.HistCompares'. -/
def histComparesCard : Claim7 := { stood := { row := histComparesRow, standIns := [], harness := (true, "cc7197deddb0e6c054fd9029ed04948a973811837a6f5325de896bac45ca7310"), looks := true }, kinds := [], alts := [], laidByText := true, laidKinds := [.data, .data, .data, .data, .pinned], laidTests := true, laidLooks := .later }
def HistComparesCardSaid : Prop := Claim7.holds Tryd.pinned (.plain (OpenSpec.ofChange histComparesSpec)) histComparesCard

/-- THE TIED CARD OF 'locklesslaw17.HistWrites'. -/
def histWritesCard : Claim7 := { stood := { row := histWritesRow, standIns := [], harness := (true, "cc7197deddb0e6c054fd9029ed04948a973811837a6f5325de896bac45ca7310"), looks := true }, kinds := [], alts := [], laidByText := true, laidKinds := [.data, .data, .data, .data, .sentinel, .sentinel, .pinned], laidTests := true, laidLooks := .later }
def HistWritesCardSaid : Prop := Claim7.holds Tryd.pinned (.plain (OpenSpec.ofChange histWritesSpec)) histWritesCard

/-- THE TIED CARD OF 'locklesslaw17.HistReads'. -/
def histReadsCard : Claim7 := { stood := { row := histReadsRow, standIns := [], harness := (true, "cc7197deddb0e6c054fd9029ed04948a973811837a6f5325de896bac45ca7310"), looks := true }, kinds := [], alts := [], laidByText := true, laidKinds := [.data, .data, .data, .data, .sentinel, .sentinel, .pinned], laidTests := true, laidLooks := .later }
def HistReadsCardSaid : Prop := Claim7.holds Tryd.pinned (.plain (OpenSpec.ofChange histReadsSpec)) histReadsCard

/-- THE SECOND FORM's CARD OF 'locklesslaw17.HistAhead'. -/
def histAheadUptoCard : Claim7 := { stood := { row := histAheadUptoRow, standIns := [], harness := (true, "cc7197deddb0e6c054fd9029ed04948a973811837a6f5325de896bac45ca7310"), looks := true }, kinds := [], alts := [], laidByText := true, laidKinds := [.data, .data, .data, .data, .pinned], laidTests := true, laidLooks := .later }
def HistAheadUptoCardSaid : Prop := Claim7.holds Tryd.pinned (.plain (OpenSpec.upto histAheadSpec)) histAheadUptoCard

/-- THE SECOND FORM's CARD OF 'locklesslaw17.HistBegins'. -/
def histBeginsUptoCard : Claim7 := { stood := { row := histBeginsUptoRow, standIns := [], harness := (true, "cc7197deddb0e6c054fd9029ed04948a973811837a6f5325de896bac45ca7310"), looks := true }, kinds := [], alts := [], laidByText := true, laidKinds := [.data, .data, .data, .data, .pinned], laidTests := true, laidLooks := .later }
def HistBeginsUptoCardSaid : Prop := Claim7.holds Tryd.pinned (.plain (OpenSpec.upto histBeginsSpec)) histBeginsUptoCard

/-- THE SECOND FORM's CARD OF 'locklesslaw17.HistSpans'. -/
def histSpansUptoCard : Claim7 := { stood := { row := histSpansUptoRow, standIns := [], harness := (true, "cc7197deddb0e6c054fd9029ed04948a973811837a6f5325de896bac45ca7310"), looks := true }, kinds := [], alts := [], laidByText := true, laidKinds := [.data, .data, .data, .data, .pinned], laidTests := true, laidLooks := .later }
def HistSpansUptoCardSaid : Prop := Claim7.holds Tryd.pinned (.plain (OpenSpec.upto histSpansSpec)) histSpansUptoCard

/-- THE SECOND FORM's CARD OF 'locklesslaw17.HistParts'. -/
def histPartsUptoCard : Claim7 := { stood := { row := histPartsUptoRow, standIns := [], harness := (true, "cc7197deddb0e6c054fd9029ed04948a973811837a6f5325de896bac45ca7310"), looks := true }, kinds := [], alts := [], laidByText := true, laidKinds := [.data, .data, .data, .data, .pinned], laidTests := true, laidLooks := .later }
def HistPartsUptoCardSaid : Prop := Claim7.holds Tryd.pinned (.plain (OpenSpec.upto histPartsSpec)) histPartsUptoCard

/-- THE SECOND FORM's CARD OF 'locklesslaw17.HistWider'. -/
def histWiderUptoCard : Claim7 := { stood := { row := histWiderUptoRow, standIns := [], harness := (true, "cc7197deddb0e6c054fd9029ed04948a973811837a6f5325de896bac45ca7310"), looks := true }, kinds := [], alts := [], laidByText := true, laidKinds := [.data, .data, .data, .data, .pinned], laidTests := true, laidLooks := .later }
def HistWiderUptoCardSaid : Prop := Claim7.holds Tryd.pinned (.plain (OpenSpec.upto histWiderSpec)) histWiderUptoCard

/-- THE SECOND FORM's CARD OF 'locklesslaw17.HistCompares'. -/
def histComparesUptoCard : Claim7 := { stood := { row := histComparesUptoRow, standIns := [], harness := (true, "cc7197deddb0e6c054fd9029ed04948a973811837a6f5325de896bac45ca7310"), looks := true }, kinds := [], alts := [], laidByText := true, laidKinds := [.data, .data, .data, .data, .pinned], laidTests := true, laidLooks := .later }
def HistComparesUptoCardSaid : Prop := Claim7.holds Tryd.pinned (.plain (OpenSpec.upto histComparesSpec)) histComparesUptoCard

/-- THE SECOND FORM's CARD OF 'locklesslaw17.HistWrites'. -/
def histWritesUptoCard : Claim7 := { stood := { row := histWritesUptoRow, standIns := [], harness := (true, "cc7197deddb0e6c054fd9029ed04948a973811837a6f5325de896bac45ca7310"), looks := true }, kinds := [], alts := [], laidByText := true, laidKinds := [.data, .data, .data, .data, .sentinel, .sentinel, .pinned], laidTests := true, laidLooks := .later }
def HistWritesUptoCardSaid : Prop := Claim7.holds Tryd.pinned (.plain (OpenSpec.upto histWritesSpec)) histWritesUptoCard

/-- THE SECOND FORM's CARD OF 'locklesslaw17.HistReads'. -/
def histReadsUptoCard : Claim7 := { stood := { row := histReadsUptoRow, standIns := [], harness := (true, "cc7197deddb0e6c054fd9029ed04948a973811837a6f5325de896bac45ca7310"), looks := true }, kinds := [], alts := [], laidByText := true, laidKinds := [.data, .data, .data, .data, .sentinel, .sentinel, .pinned], laidTests := true, laidLooks := .later }
def HistReadsUptoCardSaid : Prop := Claim7.holds Tryd.pinned (.plain (OpenSpec.upto histReadsSpec)) histReadsUptoCard
end Rows
end Go.Proofs.YtcjhjphmlfkikaaDoor
