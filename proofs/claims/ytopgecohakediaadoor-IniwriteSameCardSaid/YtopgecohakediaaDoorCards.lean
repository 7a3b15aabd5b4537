/-
  DERIVED. GIVEN WITH THE SEED: THE CARDS: each row of YtopgecohakediaaDoorRows.lean that lists a variable, with what it lists TIED to the program's text (the seventh form; the later family's looks); each row that meets fmt, with fmt's text TOLD by the authors' own Lean function (tested against real Go, not proved from fmt's source: count such statements apart). THE CARD IS WHAT COUNTS. Prove the row's statement (the work); the ties are given (YtopgecohakediaaDoorTie.lean); close each card by the builder's one call (the guide's Derived/Test/ToyasCard.lean, 'card_holds'). Laid BY PROGRAM, IN A SANDBOX (cutbox-door.mjs). By AI agents, Wed Nov 11 2026. No macro, syntax, notation, axiom, sorry.
-/
import Derived.Test.YtopgecohakediaaDoorRows
import GoSem.ClaimSeven
namespace Go.Proofs.YtopgecohakediaaDoor
namespace Rows

/-- THE TIED CARD OF 'crawlwaylaw06.LinesSplit'. -/
def linesSplitCard : Claim7 := { stood := { row := linesSplitRow, standIns := [], harness := (true, "b7ff2974573a1d209591f5837ab59b951b45db8e2307eae446f89ab70c1c39e5"), looks := false }, kinds := [], alts := [], laidByText := true, laidKinds := [.data, .pinned], laidTests := true, laidLooks := .later }
def LinesSplitCardSaid : Prop := Claim7.holds Tryd.pinned (.plain (OpenSpec.ofChange linesSplitSpec)) linesSplitCard

/-- THE TIED CARD OF 'crawlwaylaw06.LinesJoin'. -/
def linesJoinCard : Claim7 := { stood := { row := linesJoinRow, standIns := [], harness := (true, "b7ff2974573a1d209591f5837ab59b951b45db8e2307eae446f89ab70c1c39e5"), looks := false }, kinds := [], alts := [], laidByText := true, laidKinds := [.data, .pinned], laidTests := true, laidLooks := .later }
def LinesJoinCardSaid : Prop := Claim7.holds Tryd.pinned (.plain (OpenSpec.ofChange linesJoinSpec)) linesJoinCard

/-- THE TIED CARD OF 'crawlwaylaw36.PairlineBlocks'. -/
def pairlineBlocksCard : Claim7 := { stood := { row := pairlineBlocksRow, standIns := [], harness := (true, "b7ff2974573a1d209591f5837ab59b951b45db8e2307eae446f89ab70c1c39e5"), looks := false }, kinds := [], alts := [], laidByText := true, laidKinds := [.data, .pinned], laidTests := true, laidLooks := .later }
def PairlineBlocksCardSaid : Prop := Claim7.holds Tryd.pinned (.plain (OpenSpec.ofChange pairlineBlocksSpec)) pairlineBlocksCard

/-- THE TIED CARD OF 'crawlwaylaw36.PairlineReads'. -/
def pairlineReadsCard : Claim7 := { stood := { row := pairlineReadsRow, standIns := [], harness := (true, "b7ff2974573a1d209591f5837ab59b951b45db8e2307eae446f89ab70c1c39e5"), looks := false }, kinds := [], alts := [], laidByText := true, laidKinds := [.data, .pinned], laidTests := true, laidLooks := .later }
def PairlineReadsCardSaid : Prop := Claim7.holds Tryd.pinned (.plain (OpenSpec.ofChange pairlineReadsSpec)) pairlineReadsCard

/-- THE TIED CARD OF 'crawlwaylaw36.PairlineMany'. -/
def pairlineManyCard : Claim7 := { stood := { row := pairlineManyRow, standIns := [], harness := (true, "b7ff2974573a1d209591f5837ab59b951b45db8e2307eae446f89ab70c1c39e5"), looks := false }, kinds := [], alts := [], laidByText := true, laidKinds := [.data, .pinned], laidTests := true, laidLooks := .later }
def PairlineManyCardSaid : Prop := Claim7.holds Tryd.pinned (.plain (OpenSpec.ofChange pairlineManySpec)) pairlineManyCard

/-- THE TIED CARD OF 'crawlwaylaw44.IniwriteSame'. -/
def iniwriteSameCard : Claim7 := { stood := { row := iniwriteSameRow, standIns := [], harness := (true, "b7ff2974573a1d209591f5837ab59b951b45db8e2307eae446f89ab70c1c39e5"), looks := false }, kinds := [], alts := [], laidByText := true, laidKinds := [.data, .data, .data], laidTests := true, laidLooks := .later }
def IniwriteSameCardSaid : Prop := Claim7.holds Tryd.pinned (.plain (OpenSpec.ofChange iniwriteSameSpec)) iniwriteSameCard

/-- THE SECOND FORM's CARD OF 'crawlwaylaw06.LinesSplit'. -/
def linesSplitUptoCard : Claim7 := { stood := { row := linesSplitUptoRow, standIns := [], harness := (true, "b7ff2974573a1d209591f5837ab59b951b45db8e2307eae446f89ab70c1c39e5"), looks := false }, kinds := [], alts := [], laidByText := true, laidKinds := [.data, .pinned], laidTests := true, laidLooks := .later }
def LinesSplitUptoCardSaid : Prop := Claim7.holds Tryd.pinned (.plain (OpenSpec.upto linesSplitSpec)) linesSplitUptoCard

/-- THE SECOND FORM's CARD OF 'crawlwaylaw06.LinesJoin'. -/
def linesJoinUptoCard : Claim7 := { stood := { row := linesJoinUptoRow, standIns := [], harness := (true, "b7ff2974573a1d209591f5837ab59b951b45db8e2307eae446f89ab70c1c39e5"), looks := false }, kinds := [], alts := [], laidByText := true, laidKinds := [.data, .pinned], laidTests := true, laidLooks := .later }
def LinesJoinUptoCardSaid : Prop := Claim7.holds Tryd.pinned (.plain (OpenSpec.upto linesJoinSpec)) linesJoinUptoCard

/-- THE SECOND FORM's CARD OF 'crawlwaylaw36.PairlineBlocks'. -/
def pairlineBlocksUptoCard : Claim7 := { stood := { row := pairlineBlocksUptoRow, standIns := [], harness := (true, "b7ff2974573a1d209591f5837ab59b951b45db8e2307eae446f89ab70c1c39e5"), looks := false }, kinds := [], alts := [], laidByText := true, laidKinds := [.data, .pinned], laidTests := true, laidLooks := .later }
def PairlineBlocksUptoCardSaid : Prop := Claim7.holds Tryd.pinned (.plain (OpenSpec.upto pairlineBlocksSpec)) pairlineBlocksUptoCard

/-- THE SECOND FORM's CARD OF 'crawlwaylaw36.PairlineReads'. -/
def pairlineReadsUptoCard : Claim7 := { stood := { row := pairlineReadsUptoRow, standIns := [], harness := (true, "b7ff2974573a1d209591f5837ab59b951b45db8e2307eae446f89ab70c1c39e5"), looks := false }, kinds := [], alts := [], laidByText := true, laidKinds := [.data, .pinned], laidTests := true, laidLooks := .later }
def PairlineReadsUptoCardSaid : Prop := Claim7.holds Tryd.pinned (.plain (OpenSpec.upto pairlineReadsSpec)) pairlineReadsUptoCard

/-- THE SECOND FORM's CARD OF 'crawlwaylaw36.PairlineMany'. -/
def pairlineManyUptoCard : Claim7 := { stood := { row := pairlineManyUptoRow, standIns := [], harness := (true, "b7ff2974573a1d209591f5837ab59b951b45db8e2307eae446f89ab70c1c39e5"), looks := false }, kinds := [], alts := [], laidByText := true, laidKinds := [.data, .pinned], laidTests := true, laidLooks := .later }
def PairlineManyUptoCardSaid : Prop := Claim7.holds Tryd.pinned (.plain (OpenSpec.upto pairlineManySpec)) pairlineManyUptoCard

/-- THE SECOND FORM's CARD OF 'crawlwaylaw44.IniwriteSame'. -/
def iniwriteSameUptoCard : Claim7 := { stood := { row := iniwriteSameUptoRow, standIns := [], harness := (true, "b7ff2974573a1d209591f5837ab59b951b45db8e2307eae446f89ab70c1c39e5"), looks := false }, kinds := [], alts := [], laidByText := true, laidKinds := [.data, .data, .data], laidTests := true, laidLooks := .later }
def IniwriteSameUptoCardSaid : Prop := Claim7.holds Tryd.pinned (.plain (OpenSpec.upto iniwriteSameSpec)) iniwriteSameUptoCard
end Rows
end Go.Proofs.YtopgecohakediaaDoor
