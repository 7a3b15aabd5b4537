/-
  DERIVED. GIVEN WITH THE SEED: THE CARDS: each row of YtfdkkkdbknbmaaaGreatDoorRows.lean that lists a variable, with what it lists TIED to the program's text (the seventh form; the later family's looks); each row that meets fmt, with fmt's text TOLD by the authors' own Lean function (tested against real Go, not proved from fmt's source: count such statements apart). THE CARD IS WHAT COUNTS. Prove the row's statement (the work); the ties are given (YtfdkkkdbknbmaaaGreatDoorTie.lean); close each card by the builder's one call (the guide's Derived/Test/ToyasCard.lean, 'card_holds'). Laid BY PROGRAM, IN A SANDBOX (cutbox-door.mjs). By AI agents, Wed Nov 11 2026. No macro, syntax, notation, axiom, sorry.
-/
import Derived.Test.YtfdkkkdbknbmaaaGreatDoorRows
import GoSem.ClaimSeven
namespace Go.Proofs.YtfdkkkdbknbmaaaGreatDoor
namespace Rows

/-- THE TIED CARD OF 'crawlwaylaw40.GetbackBack'. -/
def getbackBackCard : Claim7 := { stood := { row := getbackBackRow, standIns := [], harness := (true, "3a965d4d99244e30b16a725cc0d668f6a0bffc2ecdb764fda94759938793e71e"), looks := true }, kinds := [], alts := [], laidByText := true, laidKinds := [.data, .data, .data, .data, .sentinel, .sentinel, .widerDeep, .pinned], laidTests := true, laidLooks := .later }
def GetbackBackCardSaid : Prop := Claim7.holds Tryz.pinned (.plain (OpenSpec.ofChange getbackBackSpec)) getbackBackCard

/-- THE TIED CARD OF 'crawlwaylaw40.GetbackReads'. -/
def getbackReadsCard : Claim7 := { stood := { row := getbackReadsRow, standIns := [], harness := (true, "3a965d4d99244e30b16a725cc0d668f6a0bffc2ecdb764fda94759938793e71e"), looks := true }, kinds := [], alts := [], laidByText := true, laidKinds := [.data, .data, .data, .data, .sentinel, .sentinel, .widerDeep, .pinned], laidTests := true, laidLooks := .later }
def GetbackReadsCardSaid : Prop := Claim7.holds Tryz.pinned (.plain (OpenSpec.ofChange getbackReadsSpec)) getbackReadsCard

/-- THE SECOND FORM's CARD OF 'crawlwaylaw40.GetbackBack'. -/
def getbackBackUptoCard : Claim7 := { stood := { row := getbackBackUptoRow, standIns := [], harness := (true, "3a965d4d99244e30b16a725cc0d668f6a0bffc2ecdb764fda94759938793e71e"), looks := true }, kinds := [], alts := [], laidByText := true, laidKinds := [.data, .data, .data, .data, .sentinel, .sentinel, .widerDeep, .pinned], laidTests := true, laidLooks := .later }
def GetbackBackUptoCardSaid : Prop := Claim7.holds Tryz.pinned (.plain (OpenSpec.upto getbackBackSpec)) getbackBackUptoCard

/-- THE SECOND FORM's CARD OF 'crawlwaylaw40.GetbackReads'. -/
def getbackReadsUptoCard : Claim7 := { stood := { row := getbackReadsUptoRow, standIns := [], harness := (true, "3a965d4d99244e30b16a725cc0d668f6a0bffc2ecdb764fda94759938793e71e"), looks := true }, kinds := [], alts := [], laidByText := true, laidKinds := [.data, .data, .data, .data, .sentinel, .sentinel, .widerDeep, .pinned], laidTests := true, laidLooks := .later }
def GetbackReadsUptoCardSaid : Prop := Claim7.holds Tryz.pinned (.plain (OpenSpec.upto getbackReadsSpec)) getbackReadsUptoCard
end Rows
end Go.Proofs.YtfdkkkdbknbmaaaGreatDoor
