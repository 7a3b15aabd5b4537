/-
  DERIVED. GIVEN WITH THE SEED: THE CARDS: each row of YtggdinpopddhnaaDoorRows.lean that lists a variable, with what it lists TIED to the program's text (the seventh form; the later family's looks); each row that meets fmt, with fmt's text TOLD by the authors' own Lean function (tested against real Go, not proved from fmt's source: count such statements apart). THE CARD IS WHAT COUNTS. Prove the row's statement (the work); the ties are given (YtggdinpopddhnaaDoorTie.lean); close each card by the builder's one call (the guide's Derived/Test/ToyasCard.lean, 'card_holds'). Laid BY PROGRAM, IN A SANDBOX (cutbox-door.mjs). By AI agents, Wed Nov 11 2026. No macro, syntax, notation, axiom, sorry.
-/
import Derived.Test.YtggdinpopddhnaaDoorRows
import GoSem.ClaimSeven
namespace Go.Proofs.YtggdinpopddhnaaDoor
namespace Rows

/-- THE TIED CARD OF 'crawlwaylaw06.LinesCut'. -/
def linesCutCard : Claim7 := { stood := { row := linesCutRow, standIns := [], harness := (true, "e7b3507f1b3add0833599650957472f6fc5dcc176d280646e53e5673ed0367df"), looks := false }, kinds := [], alts := [], laidByText := true, laidKinds := [.data, .pinned], laidTests := true, laidLooks := .later }
def LinesCutCardSaid : Prop := Claim7.holds Tryd.pinned (.plain (OpenSpec.ofChange linesCutSpec)) linesCutCard

/-- THE TIED CARD OF 'crawlwaylaw06.LinesSplit'. -/
def linesSplitCard : Claim7 := { stood := { row := linesSplitRow, standIns := [], harness := (true, "e7b3507f1b3add0833599650957472f6fc5dcc176d280646e53e5673ed0367df"), looks := false }, kinds := [], alts := [], laidByText := true, laidKinds := [.data, .pinned], laidTests := true, laidLooks := .later }
def LinesSplitCardSaid : Prop := Claim7.holds Tryd.pinned (.plain (OpenSpec.ofChange linesSplitSpec)) linesSplitCard

/-- THE TIED CARD OF 'crawlwaylaw06.LinesJoin'. -/
def linesJoinCard : Claim7 := { stood := { row := linesJoinRow, standIns := [], harness := (true, "e7b3507f1b3add0833599650957472f6fc5dcc176d280646e53e5673ed0367df"), looks := false }, kinds := [], alts := [], laidByText := true, laidKinds := [.data, .pinned], laidTests := true, laidLooks := .later }
def LinesJoinCardSaid : Prop := Claim7.holds Tryd.pinned (.plain (OpenSpec.ofChange linesJoinSpec)) linesJoinCard

/-- THE TIED CARD OF 'crawlwaylaw36.PairlineLines'. -/
def pairlineLinesCard : Claim7 := { stood := { row := pairlineLinesRow, standIns := [], harness := (true, "e7b3507f1b3add0833599650957472f6fc5dcc176d280646e53e5673ed0367df"), looks := false }, kinds := [], alts := [], laidByText := true, laidKinds := [.data, .pinned], laidTests := true, laidLooks := .later }
def PairlineLinesCardSaid : Prop := Claim7.holds Tryd.pinned (.plain (OpenSpec.ofChange pairlineLinesSpec)) pairlineLinesCard

/-- THE TIED CARD OF 'crawlwaylaw06.LinesTrim'. -/
def linesTrimCard : Claim7 := { stood := { row := linesTrimRow, standIns := [], harness := (true, "e7b3507f1b3add0833599650957472f6fc5dcc176d280646e53e5673ed0367df"), looks := false }, kinds := [], alts := [], laidByText := true, laidKinds := [.data, .pinned], laidTests := true, laidLooks := .later }
def LinesTrimCardSaid : Prop := Claim7.holds Tryd.pinned (.plain (OpenSpec.ofChange linesTrimSpec)) linesTrimCard

/-- THE TIED CARD OF 'crawlwaylaw36.PairlineBlocks'. -/
def pairlineBlocksCard : Claim7 := { stood := { row := pairlineBlocksRow, standIns := [], harness := (true, "e7b3507f1b3add0833599650957472f6fc5dcc176d280646e53e5673ed0367df"), looks := false }, kinds := [], alts := [], laidByText := true, laidKinds := [.data, .pinned], laidTests := true, laidLooks := .later }
def PairlineBlocksCardSaid : Prop := Claim7.holds Tryd.pinned (.plain (OpenSpec.ofChange pairlineBlocksSpec)) pairlineBlocksCard

/-- THE TIED CARD OF 'crawlwaylaw36.PairlineReads'. -/
def pairlineReadsCard : Claim7 := { stood := { row := pairlineReadsRow, standIns := [], harness := (true, "e7b3507f1b3add0833599650957472f6fc5dcc176d280646e53e5673ed0367df"), looks := false }, kinds := [], alts := [], laidByText := true, laidKinds := [.data, .pinned], laidTests := true, laidLooks := .later }
def PairlineReadsCardSaid : Prop := Claim7.holds Tryd.pinned (.plain (OpenSpec.ofChange pairlineReadsSpec)) pairlineReadsCard

/-- THE TIED CARD OF 'crawlwaylaw36.PairlineMany'. -/
def pairlineManyCard : Claim7 := { stood := { row := pairlineManyRow, standIns := [], harness := (true, "e7b3507f1b3add0833599650957472f6fc5dcc176d280646e53e5673ed0367df"), looks := false }, kinds := [], alts := [], laidByText := true, laidKinds := [.data, .pinned], laidTests := true, laidLooks := .later }
def PairlineManyCardSaid : Prop := Claim7.holds Tryd.pinned (.plain (OpenSpec.ofChange pairlineManySpec)) pairlineManyCard

/-- THE TIED CARD OF 'crawlwaylaw42.InilexReads'. -/
def inilexReadsCard : Claim7 := { stood := { row := inilexReadsRow, standIns := [], harness := (true, "e7b3507f1b3add0833599650957472f6fc5dcc176d280646e53e5673ed0367df"), looks := false }, kinds := [], alts := [], laidByText := true, laidKinds := [.data, .pinned], laidTests := true, laidLooks := .later }
def InilexReadsCardSaid : Prop := Claim7.holds Tryd.pinned (.plain (OpenSpec.ofChange inilexReadsSpec)) inilexReadsCard

/-- THE SECOND FORM's CARD OF 'crawlwaylaw06.LinesCut'. -/
def linesCutUptoCard : Claim7 := { stood := { row := linesCutUptoRow, standIns := [], harness := (true, "e7b3507f1b3add0833599650957472f6fc5dcc176d280646e53e5673ed0367df"), looks := false }, kinds := [], alts := [], laidByText := true, laidKinds := [.data, .pinned], laidTests := true, laidLooks := .later }
def LinesCutUptoCardSaid : Prop := Claim7.holds Tryd.pinned (.plain (OpenSpec.upto linesCutSpec)) linesCutUptoCard

/-- THE SECOND FORM's CARD OF 'crawlwaylaw06.LinesSplit'. -/
def linesSplitUptoCard : Claim7 := { stood := { row := linesSplitUptoRow, standIns := [], harness := (true, "e7b3507f1b3add0833599650957472f6fc5dcc176d280646e53e5673ed0367df"), looks := false }, kinds := [], alts := [], laidByText := true, laidKinds := [.data, .pinned], laidTests := true, laidLooks := .later }
def LinesSplitUptoCardSaid : Prop := Claim7.holds Tryd.pinned (.plain (OpenSpec.upto linesSplitSpec)) linesSplitUptoCard

/-- THE SECOND FORM's CARD OF 'crawlwaylaw06.LinesJoin'. -/
def linesJoinUptoCard : Claim7 := { stood := { row := linesJoinUptoRow, standIns := [], harness := (true, "e7b3507f1b3add0833599650957472f6fc5dcc176d280646e53e5673ed0367df"), looks := false }, kinds := [], alts := [], laidByText := true, laidKinds := [.data, .pinned], laidTests := true, laidLooks := .later }
def LinesJoinUptoCardSaid : Prop := Claim7.holds Tryd.pinned (.plain (OpenSpec.upto linesJoinSpec)) linesJoinUptoCard

/-- THE SECOND FORM's CARD OF 'crawlwaylaw36.PairlineLines'. -/
def pairlineLinesUptoCard : Claim7 := { stood := { row := pairlineLinesUptoRow, standIns := [], harness := (true, "e7b3507f1b3add0833599650957472f6fc5dcc176d280646e53e5673ed0367df"), looks := false }, kinds := [], alts := [], laidByText := true, laidKinds := [.data, .pinned], laidTests := true, laidLooks := .later }
def PairlineLinesUptoCardSaid : Prop := Claim7.holds Tryd.pinned (.plain (OpenSpec.upto pairlineLinesSpec)) pairlineLinesUptoCard

/-- THE SECOND FORM's CARD OF 'crawlwaylaw06.LinesTrim'. -/
def linesTrimUptoCard : Claim7 := { stood := { row := linesTrimUptoRow, standIns := [], harness := (true, "e7b3507f1b3add0833599650957472f6fc5dcc176d280646e53e5673ed0367df"), looks := false }, kinds := [], alts := [], laidByText := true, laidKinds := [.data, .pinned], laidTests := true, laidLooks := .later }
def LinesTrimUptoCardSaid : Prop := Claim7.holds Tryd.pinned (.plain (OpenSpec.upto linesTrimSpec)) linesTrimUptoCard

/-- THE SECOND FORM's CARD OF 'crawlwaylaw36.PairlineBlocks'. -/
def pairlineBlocksUptoCard : Claim7 := { stood := { row := pairlineBlocksUptoRow, standIns := [], harness := (true, "e7b3507f1b3add0833599650957472f6fc5dcc176d280646e53e5673ed0367df"), looks := false }, kinds := [], alts := [], laidByText := true, laidKinds := [.data, .pinned], laidTests := true, laidLooks := .later }
def PairlineBlocksUptoCardSaid : Prop := Claim7.holds Tryd.pinned (.plain (OpenSpec.upto pairlineBlocksSpec)) pairlineBlocksUptoCard

/-- THE SECOND FORM's CARD OF 'crawlwaylaw36.PairlineReads'. -/
def pairlineReadsUptoCard : Claim7 := { stood := { row := pairlineReadsUptoRow, standIns := [], harness := (true, "e7b3507f1b3add0833599650957472f6fc5dcc176d280646e53e5673ed0367df"), looks := false }, kinds := [], alts := [], laidByText := true, laidKinds := [.data, .pinned], laidTests := true, laidLooks := .later }
def PairlineReadsUptoCardSaid : Prop := Claim7.holds Tryd.pinned (.plain (OpenSpec.upto pairlineReadsSpec)) pairlineReadsUptoCard

/-- THE SECOND FORM's CARD OF 'crawlwaylaw36.PairlineMany'. -/
def pairlineManyUptoCard : Claim7 := { stood := { row := pairlineManyUptoRow, standIns := [], harness := (true, "e7b3507f1b3add0833599650957472f6fc5dcc176d280646e53e5673ed0367df"), looks := false }, kinds := [], alts := [], laidByText := true, laidKinds := [.data, .pinned], laidTests := true, laidLooks := .later }
def PairlineManyUptoCardSaid : Prop := Claim7.holds Tryd.pinned (.plain (OpenSpec.upto pairlineManySpec)) pairlineManyUptoCard

/-- THE SECOND FORM's CARD OF 'crawlwaylaw42.InilexReads'. -/
def inilexReadsUptoCard : Claim7 := { stood := { row := inilexReadsUptoRow, standIns := [], harness := (true, "e7b3507f1b3add0833599650957472f6fc5dcc176d280646e53e5673ed0367df"), looks := false }, kinds := [], alts := [], laidByText := true, laidKinds := [.data, .pinned], laidTests := true, laidLooks := .later }
def InilexReadsUptoCardSaid : Prop := Claim7.holds Tryd.pinned (.plain (OpenSpec.upto inilexReadsSpec)) inilexReadsUptoCard
end Rows
end Go.Proofs.YtggdinpopddhnaaDoor
