/-
  DERIVED. GIVEN WITH THE SEED: THE CARDS: each row of YtkmdppdlglikkaaDoorRows.lean that lists a variable, with what it lists TIED to the program's text (the seventh form; the later family's looks); each row that meets fmt, with fmt's text TOLD by the authors' own Lean function (tested against real Go, not proved from fmt's source: count such statements apart). THE CARD IS WHAT COUNTS. Prove the row's statement (the work); the ties are given (YtkmdppdlglikkaaDoorTie.lean); close each card by the builder's one call (the guide's Derived/Test/ToyasCard.lean, 'card_holds'). Laid BY PROGRAM, IN A SANDBOX (cutbox-door.mjs). By AI agents, Wed Nov 11 2026. No macro, syntax, notation, axiom, sorry.
-/
import Derived.Test.YtkmdppdlglikkaaDoorRows
import GoSem.ClaimSeven
namespace Go.Proofs.YtkmdppdlglikkaaDoor
namespace Rows

/-- THE TIED CARD OF 'crawlwaylaw42.InilexMany'. -/
def inilexManyCard : Claim7 := { stood := { row := inilexManyRow, standIns := [], harness := (true, "65112d92bb9882fa58288a6fc7dc9602ff486810147353a5fe1eef3028688d1b"), looks := false }, kinds := [], alts := [], laidByText := true, laidKinds := [.data, .pinned], laidTests := true, laidLooks := .later }
def InilexManyCardSaid : Prop := Claim7.holds Tryd.pinned (.plain (OpenSpec.ofChange inilexManySpec)) inilexManyCard

/-- THE SECOND FORM's CARD OF 'crawlwaylaw42.InilexMany'. -/
def inilexManyUptoCard : Claim7 := { stood := { row := inilexManyUptoRow, standIns := [], harness := (true, "65112d92bb9882fa58288a6fc7dc9602ff486810147353a5fe1eef3028688d1b"), looks := false }, kinds := [], alts := [], laidByText := true, laidKinds := [.data, .pinned], laidTests := true, laidLooks := .later }
def InilexManyUptoCardSaid : Prop := Claim7.holds Tryd.pinned (.plain (OpenSpec.upto inilexManySpec)) inilexManyUptoCard
end Rows
end Go.Proofs.YtkmdppdlglikkaaDoor
