/-
  DERIVED. GIVEN WITH THE SEED: THE CARDS: each row of YtobejhpigbllpaaGreatDoorRows.lean that lists a variable, with what it lists TIED to the program's text (the seventh form; the later family's looks); each row that meets fmt, with fmt's text TOLD by the authors' own Lean function (tested against real Go, not proved from fmt's source: count such statements apart). THE CARD IS WHAT COUNTS. Prove the row's statement (the work); the ties are given (YtobejhpigbllpaaGreatDoorTie.lean); close each card by the builder's one call (the guide's Derived/Test/ToyasCard.lean, 'card_holds'). Laid BY PROGRAM, IN A SANDBOX (cutbox-door.mjs). By AI agents, Wed Nov 11 2026. No macro, syntax, notation, axiom, sorry.
-/
import Derived.Test.YtobejhpigbllpaaGreatDoorRows
import GoSem.ClaimSeven
namespace Go.Proofs.YtobejhpigbllpaaGreatDoor
namespace Rows

/-- THE TIED CARD OF 'crawlwaylaw51.TraceLines'. -/
def traceLinesCard : Claim7 := { stood := { row := traceLinesRow, standIns := [], harness := (true, "a2bd42da740eb619d60b3e15c8ac230ae8c9ca57d8cb52c8eae1a8f7f6d0ab1d"), looks := true }, kinds := [], alts := [], laidByText := true, laidKinds := [.data, .data, .data, .sentinel, .sentinel], laidTests := true, laidLooks := .later }
def TraceLinesCardSaid : Prop := Claim7.holds Tryz.pinned (.plain (OpenSpec.ofChange traceLinesSpec)) traceLinesCard

/-- THE TIED CARD OF 'crawlwaylaw51.TraceParses'. -/
def traceParsesCard : Claim7 := { stood := { row := traceParsesRow, standIns := [], harness := (true, "a2bd42da740eb619d60b3e15c8ac230ae8c9ca57d8cb52c8eae1a8f7f6d0ab1d"), looks := true }, kinds := [], alts := [], laidByText := true, laidKinds := [.data, .data, .data, .sentinel, .sentinel], laidTests := true, laidLooks := .later }
def TraceParsesCardSaid : Prop := Claim7.holds Tryz.pinned (.plain (OpenSpec.ofChange traceParsesSpec)) traceParsesCard

/-- THE TIED CARD OF 'crawlwaylaw51.TraceReads'. -/
def traceReadsCard : Claim7 := { stood := { row := traceReadsRow, standIns := [], harness := (true, "a2bd42da740eb619d60b3e15c8ac230ae8c9ca57d8cb52c8eae1a8f7f6d0ab1d"), looks := true }, kinds := [], alts := [], laidByText := true, laidKinds := [.data, .data, .data, .data, .sentinel, .sentinel, .pinned], laidTests := true, laidLooks := .later }
def TraceReadsCardSaid : Prop := Claim7.holds Tryz.pinned (.plain (OpenSpec.ofChange traceReadsSpec)) traceReadsCard

/-- THE TIED CARD OF 'crawlwaylaw39.GetresTexts'. -/
def getresTextsCard : Claim7 := { stood := { row := getresTextsRow, standIns := [], harness := (true, "a2bd42da740eb619d60b3e15c8ac230ae8c9ca57d8cb52c8eae1a8f7f6d0ab1d"), looks := true }, kinds := [], alts := [], laidByText := true, laidKinds := [.data, .data, .data, .sentinel, .sentinel, .widerDeep], laidTests := true, laidLooks := .later }
def GetresTextsCardSaid : Prop := Claim7.holds Tryz.pinned (.plain (OpenSpec.ofChange getresTextsSpec)) getresTextsCard

/-- THE TIED CARD OF 'crawlwaylaw39.GetresApart'. -/
def getresApartCard : Claim7 := { stood := { row := getresApartRow, standIns := [], harness := (true, "a2bd42da740eb619d60b3e15c8ac230ae8c9ca57d8cb52c8eae1a8f7f6d0ab1d"), looks := true }, kinds := [], alts := [], laidByText := true, laidKinds := [.data, .data, .data, .sentinel, .sentinel, .widerDeep], laidTests := true, laidLooks := .later }
def GetresApartCardSaid : Prop := Claim7.holds Tryz.pinned (.plain (OpenSpec.ofChange getresApartSpec)) getresApartCard

/-- THE TIED CARD OF 'crawlwaylaw39.GetresRefuses'. -/
def getresRefusesCard : Claim7 := { stood := { row := getresRefusesRow, standIns := [], harness := (true, "a2bd42da740eb619d60b3e15c8ac230ae8c9ca57d8cb52c8eae1a8f7f6d0ab1d"), looks := true }, kinds := [], alts := [], laidByText := true, laidKinds := [.data, .data, .data, .sentinel, .sentinel, .widerDeep], laidTests := true, laidLooks := .later }
def GetresRefusesCardSaid : Prop := Claim7.holds Tryz.pinned (.plain (OpenSpec.ofChange getresRefusesSpec)) getresRefusesCard

/-- THE SECOND FORM's CARD OF 'crawlwaylaw51.TraceLines'. -/
def traceLinesUptoCard : Claim7 := { stood := { row := traceLinesUptoRow, standIns := [], harness := (true, "a2bd42da740eb619d60b3e15c8ac230ae8c9ca57d8cb52c8eae1a8f7f6d0ab1d"), looks := true }, kinds := [], alts := [], laidByText := true, laidKinds := [.data, .data, .data, .sentinel, .sentinel], laidTests := true, laidLooks := .later }
def TraceLinesUptoCardSaid : Prop := Claim7.holds Tryz.pinned (.plain (OpenSpec.upto traceLinesSpec)) traceLinesUptoCard

/-- THE SECOND FORM's CARD OF 'crawlwaylaw51.TraceParses'. -/
def traceParsesUptoCard : Claim7 := { stood := { row := traceParsesUptoRow, standIns := [], harness := (true, "a2bd42da740eb619d60b3e15c8ac230ae8c9ca57d8cb52c8eae1a8f7f6d0ab1d"), looks := true }, kinds := [], alts := [], laidByText := true, laidKinds := [.data, .data, .data, .sentinel, .sentinel], laidTests := true, laidLooks := .later }
def TraceParsesUptoCardSaid : Prop := Claim7.holds Tryz.pinned (.plain (OpenSpec.upto traceParsesSpec)) traceParsesUptoCard

/-- THE SECOND FORM's CARD OF 'crawlwaylaw51.TraceReads'. -/
def traceReadsUptoCard : Claim7 := { stood := { row := traceReadsUptoRow, standIns := [], harness := (true, "a2bd42da740eb619d60b3e15c8ac230ae8c9ca57d8cb52c8eae1a8f7f6d0ab1d"), looks := true }, kinds := [], alts := [], laidByText := true, laidKinds := [.data, .data, .data, .data, .sentinel, .sentinel, .pinned], laidTests := true, laidLooks := .later }
def TraceReadsUptoCardSaid : Prop := Claim7.holds Tryz.pinned (.plain (OpenSpec.upto traceReadsSpec)) traceReadsUptoCard

/-- THE SECOND FORM's CARD OF 'crawlwaylaw39.GetresTexts'. -/
def getresTextsUptoCard : Claim7 := { stood := { row := getresTextsUptoRow, standIns := [], harness := (true, "a2bd42da740eb619d60b3e15c8ac230ae8c9ca57d8cb52c8eae1a8f7f6d0ab1d"), looks := true }, kinds := [], alts := [], laidByText := true, laidKinds := [.data, .data, .data, .sentinel, .sentinel, .widerDeep], laidTests := true, laidLooks := .later }
def GetresTextsUptoCardSaid : Prop := Claim7.holds Tryz.pinned (.plain (OpenSpec.upto getresTextsSpec)) getresTextsUptoCard

/-- THE SECOND FORM's CARD OF 'crawlwaylaw39.GetresApart'. -/
def getresApartUptoCard : Claim7 := { stood := { row := getresApartUptoRow, standIns := [], harness := (true, "a2bd42da740eb619d60b3e15c8ac230ae8c9ca57d8cb52c8eae1a8f7f6d0ab1d"), looks := true }, kinds := [], alts := [], laidByText := true, laidKinds := [.data, .data, .data, .sentinel, .sentinel, .widerDeep], laidTests := true, laidLooks := .later }
def GetresApartUptoCardSaid : Prop := Claim7.holds Tryz.pinned (.plain (OpenSpec.upto getresApartSpec)) getresApartUptoCard

/-- THE SECOND FORM's CARD OF 'crawlwaylaw39.GetresRefuses'. -/
def getresRefusesUptoCard : Claim7 := { stood := { row := getresRefusesUptoRow, standIns := [], harness := (true, "a2bd42da740eb619d60b3e15c8ac230ae8c9ca57d8cb52c8eae1a8f7f6d0ab1d"), looks := true }, kinds := [], alts := [], laidByText := true, laidKinds := [.data, .data, .data, .sentinel, .sentinel, .widerDeep], laidTests := true, laidLooks := .later }
def GetresRefusesUptoCardSaid : Prop := Claim7.holds Tryz.pinned (.plain (OpenSpec.upto getresRefusesSpec)) getresRefusesUptoCard
end Rows
end Go.Proofs.YtobejhpigbllpaaGreatDoor
