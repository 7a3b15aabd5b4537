/-
  NARROWER THAN 'FOR EVERY INPUT', by the rows' own cells (each row's printed sentence says how): LinesCut: laid · LinesSplit: laid · LinesJoin: laid · PairlineLines: laid · LinesTrim: laid · PairlineBlocks: laid · PairlineReads: laid · PairlineMany: laid · InilexReads: laid.
  DERIVED. THE GIVEN ROWS OF THIS SEAT. 9 by the template 'for every input the law returns true; each argument reads behind the call as it read before'; 0 by the template 'total and deterministic' (their statements: YtggdinpopddhnaaDoorTotals.lean).
  GIVEN WITH THE SEED: the statements are not yours to turn. If you find one false, say at which input.
  Laid BY PROGRAM, IN A SANDBOX (cutbox-rows.mjs): the forced cells as the released guide's own fill.sh prints them over the translation ecb4d8cbd46610c0… (all of the seat's roots in one cut). By AI agents, Wed Nov 11 2026. No macro, syntax, notation, axiom, sorry.
-/
import Derived.Test.YtggdinpopddhnaaDoorChecked
import GoSem.PinnedTables
import GoSem.Claim
import GoSem.ClaimJoined
import GoSem.ClaimMapViews
import Derived.JoinedTies
import Derived.KernelRfl
namespace Go.Proofs.YtggdinpopddhnaaDoor
/- THE CELL 'sum', in the pinned program and in every row, IS THE sha256 OF THE DUMP (.gsa) THAT YtggdinpopddhnaaDoorProg.lean LOADS. Nothing in Lean hashes anything: it is a label: what it is worth is what the hold of that sum in a sandbox is worth. -/
noncomputable def Tryd.pinned : Pinned := { name := "ytggdinpopddhnaadoor", sum := "ecb4d8cbd46610c047fbe30a4cf63b05de5ee42190e061db939afedf15d82e30", checked := Tryd.checked }
namespace Rows
def none {H : Type} : Left H := { results := [], args := [] }

/- WHAT THE LISTED PACKAGE-LEVEL VARIABLES READ AS WHEN THE CALL BEGINS. Each datum BY PROGRAM (the guide's laid-datum.mjs) off the statement by which the dump's own 'gosem.cut.vars' lays the variable. In a bare row this is a premise. The card (YtggdinpopddhnaaDoorCards.lean) ties it to the program's text. -/
def laid_unicode_utf8_acceptRanges {H : Type} : DataW H := .agg [.agg [.lit (.int .u8 128), .lit (.int .u8 191)], .agg [.lit (.int .u8 160), .lit (.int .u8 191)], .agg [.lit (.int .u8 128), .lit (.int .u8 159)], .agg [.lit (.int .u8 144), .lit (.int .u8 191)], .agg [.lit (.int .u8 128), .lit (.int .u8 143)], .agg [.lit (.int .u8 0), .lit (.int .u8 0)], .agg [.lit (.int .u8 0), .lit (.int .u8 0)], .agg [.lit (.int .u8 0), .lit (.int .u8 0)], .agg [.lit (.int .u8 0), .lit (.int .u8 0)], .agg [.lit (.int .u8 0), .lit (.int .u8 0)], .agg [.lit (.int .u8 0), .lit (.int .u8 0)], .agg [.lit (.int .u8 0), .lit (.int .u8 0)], .agg [.lit (.int .u8 0), .lit (.int .u8 0)], .agg [.lit (.int .u8 0), .lit (.int .u8 0)], .agg [.lit (.int .u8 0), .lit (.int .u8 0)], .agg [.lit (.int .u8 0), .lit (.int .u8 0)]]
/-- One of Go's own tables, pinned by name: the form's constant. -/
def laid_unicode_utf8_first : DataW Unit := Go.Pinned.utf8First

/-- 'crawlwaylaw06.LinesCut': WHATEVER THE INPUT: true; the input reads as it did. -/
def linesCutSpec : ChangeSpec := { name := "linesCut", fn := fun _ => fun
  | [d1, d2] => { results := [.lit (.bool true)], args := [d1, d2] }
  | _ => none }
def linesCutRow : OpenClaim := { program := "ytggdinpopddhnaadoor", sum := "ecb4d8cbd46610c047fbe30a4cf63b05de5ee42190e061db939afedf15d82e30", func := "crawlway/crawlwaylaw06.LinesCut", spec := "linesCut", inPlace := ["internal/bytealg.CountString", "internal/bytealg.IndexByteString", "internal/bytealg.IndexString"], named := ["unicode/utf8.first", "unicode/utf8.acceptRanges", "internal/bytealg.MaxLen"], apart := false, laid := [("unicode/utf8.acceptRanges", laid_unicode_utf8_acceptRanges), ("unicode/utf8.first", laid_unicode_utf8_first)] }
def LinesCutSaid : Prop := linesCutRow.holds Tryd.pinned (OpenSpec.ofChange linesCutSpec)

/-- ITS FALSE NEIGHBOUR: 'it returns false'. Refute it at one input. -/
def linesCutWrong : ChangeSpec := { name := "linesCut", fn := fun _ => fun
  | [d1, d2] => { results := [.lit (.bool false)], args := [d1, d2] }
  | _ => none }
def LinesCutWrongFalsely : Prop := linesCutRow.holds Tryd.pinned (OpenSpec.ofChange linesCutWrong)

/-- 'crawlwaylaw06.LinesSplit': WHATEVER THE INPUT: true; the input reads as it did. -/
def linesSplitSpec : ChangeSpec := { name := "linesSplit", fn := fun _ => fun
  | [d] => { results := [.lit (.bool true)], args := [d] }
  | _ => none }
def linesSplitRow : OpenClaim := { program := "ytggdinpopddhnaadoor", sum := "ecb4d8cbd46610c047fbe30a4cf63b05de5ee42190e061db939afedf15d82e30", func := "crawlway/crawlwaylaw06.LinesSplit", spec := "linesSplit", inPlace := ["internal/bytealg.CountString", "internal/bytealg.IndexByteString", "internal/bytealg.IndexString", "internal/abi.NoEscape"], named := ["unicode/utf8.first", "unicode/utf8.acceptRanges", "internal/bytealg.MaxLen"], apart := false, laid := [("unicode/utf8.acceptRanges", laid_unicode_utf8_acceptRanges), ("unicode/utf8.first", laid_unicode_utf8_first)] }
def LinesSplitSaid : Prop := linesSplitRow.holds Tryd.pinned (OpenSpec.ofChange linesSplitSpec)

/-- ITS FALSE NEIGHBOUR: 'it returns false'. Refute it at one input. -/
def linesSplitWrong : ChangeSpec := { name := "linesSplit", fn := fun _ => fun
  | [d] => { results := [.lit (.bool false)], args := [d] }
  | _ => none }
def LinesSplitWrongFalsely : Prop := linesSplitRow.holds Tryd.pinned (OpenSpec.ofChange linesSplitWrong)

/-- 'crawlwaylaw06.LinesJoin': WHATEVER THE INPUT: true; the input reads as it did. -/
def linesJoinSpec : ChangeSpec := { name := "linesJoin", fn := fun _ => fun
  | [d] => { results := [.lit (.bool true)], args := [d] }
  | _ => none }
def linesJoinRow : OpenClaim := { program := "ytggdinpopddhnaadoor", sum := "ecb4d8cbd46610c047fbe30a4cf63b05de5ee42190e061db939afedf15d82e30", func := "crawlway/crawlwaylaw06.LinesJoin", spec := "linesJoin", inPlace := ["internal/bytealg.CountString", "internal/bytealg.IndexByteString", "internal/bytealg.IndexString", "internal/abi.NoEscape"], named := ["unicode/utf8.first", "unicode/utf8.acceptRanges", "internal/bytealg.MaxLen"], apart := false, laid := [("unicode/utf8.acceptRanges", laid_unicode_utf8_acceptRanges), ("unicode/utf8.first", laid_unicode_utf8_first)] }
def LinesJoinSaid : Prop := linesJoinRow.holds Tryd.pinned (OpenSpec.ofChange linesJoinSpec)

/-- ITS FALSE NEIGHBOUR: 'it returns false'. Refute it at one input. -/
def linesJoinWrong : ChangeSpec := { name := "linesJoin", fn := fun _ => fun
  | [d] => { results := [.lit (.bool false)], args := [d] }
  | _ => none }
def LinesJoinWrongFalsely : Prop := linesJoinRow.holds Tryd.pinned (OpenSpec.ofChange linesJoinWrong)

/-- 'crawlwaylaw36.PairlineLines': WHATEVER THE INPUT: true; the input reads as it did. -/
def pairlineLinesSpec : ChangeSpec := { name := "pairlineLines", fn := fun _ => fun
  | [d1, d2, d3] => { results := [.lit (.bool true)], args := [d1, d2, d3] }
  | _ => none }
def pairlineLinesRow : OpenClaim := { program := "ytggdinpopddhnaadoor", sum := "ecb4d8cbd46610c047fbe30a4cf63b05de5ee42190e061db939afedf15d82e30", func := "crawlway/crawlwaylaw36.PairlineLines", spec := "pairlineLines", inPlace := ["internal/bytealg.CountString", "internal/bytealg.IndexByteString", "internal/bytealg.IndexString"], named := ["unicode/utf8.first", "unicode/utf8.acceptRanges", "internal/bytealg.MaxLen"], apart := false, laid := [("unicode/utf8.acceptRanges", laid_unicode_utf8_acceptRanges), ("unicode/utf8.first", laid_unicode_utf8_first)] }
def PairlineLinesSaid : Prop := pairlineLinesRow.holds Tryd.pinned (OpenSpec.ofChange pairlineLinesSpec)

/-- ITS FALSE NEIGHBOUR: 'it returns false'. Refute it at one input. -/
def pairlineLinesWrong : ChangeSpec := { name := "pairlineLines", fn := fun _ => fun
  | [d1, d2, d3] => { results := [.lit (.bool false)], args := [d1, d2, d3] }
  | _ => none }
def PairlineLinesWrongFalsely : Prop := pairlineLinesRow.holds Tryd.pinned (OpenSpec.ofChange pairlineLinesWrong)

/-- 'crawlwaylaw06.LinesTrim': WHATEVER THE INPUT: true; the input reads as it did. -/
def linesTrimSpec : ChangeSpec := { name := "linesTrim", fn := fun _ => fun
  | [d] => { results := [.lit (.bool true)], args := [d] }
  | _ => none }
def linesTrimRow : OpenClaim := { program := "ytggdinpopddhnaadoor", sum := "ecb4d8cbd46610c047fbe30a4cf63b05de5ee42190e061db939afedf15d82e30", func := "crawlway/crawlwaylaw06.LinesTrim", spec := "linesTrim", inPlace := ["internal/bytealg.CountString", "internal/bytealg.IndexByteString", "internal/bytealg.IndexString"], named := ["unicode/utf8.first", "unicode/utf8.acceptRanges", "internal/bytealg.MaxLen"], apart := false, laid := [("unicode/utf8.acceptRanges", laid_unicode_utf8_acceptRanges), ("unicode/utf8.first", laid_unicode_utf8_first)] }
def LinesTrimSaid : Prop := linesTrimRow.holds Tryd.pinned (OpenSpec.ofChange linesTrimSpec)

/-- ITS FALSE NEIGHBOUR: 'it returns false'. Refute it at one input. -/
def linesTrimWrong : ChangeSpec := { name := "linesTrim", fn := fun _ => fun
  | [d] => { results := [.lit (.bool false)], args := [d] }
  | _ => none }
def LinesTrimWrongFalsely : Prop := linesTrimRow.holds Tryd.pinned (OpenSpec.ofChange linesTrimWrong)

/-- 'crawlwaylaw36.PairlineBlocks': WHATEVER THE INPUT: true; the input reads as it did. -/
def pairlineBlocksSpec : ChangeSpec := { name := "pairlineBlocks", fn := fun _ => fun
  | [d] => { results := [.lit (.bool true)], args := [d] }
  | _ => none }
def pairlineBlocksRow : OpenClaim := { program := "ytggdinpopddhnaadoor", sum := "ecb4d8cbd46610c047fbe30a4cf63b05de5ee42190e061db939afedf15d82e30", func := "crawlway/crawlwaylaw36.PairlineBlocks", spec := "pairlineBlocks", inPlace := ["internal/bytealg.CountString", "internal/bytealg.IndexByteString", "internal/bytealg.IndexString", "internal/abi.NoEscape"], named := ["unicode/utf8.first", "unicode/utf8.acceptRanges", "internal/bytealg.MaxLen"], apart := false, laid := [("unicode/utf8.acceptRanges", laid_unicode_utf8_acceptRanges), ("unicode/utf8.first", laid_unicode_utf8_first)] }
def PairlineBlocksSaid : Prop := pairlineBlocksRow.holds Tryd.pinned (OpenSpec.ofChange pairlineBlocksSpec)

/-- ITS FALSE NEIGHBOUR: 'it returns false'. Refute it at one input. -/
def pairlineBlocksWrong : ChangeSpec := { name := "pairlineBlocks", fn := fun _ => fun
  | [d] => { results := [.lit (.bool false)], args := [d] }
  | _ => none }
def PairlineBlocksWrongFalsely : Prop := pairlineBlocksRow.holds Tryd.pinned (OpenSpec.ofChange pairlineBlocksWrong)

/-- 'crawlwaylaw36.PairlineReads': WHATEVER THE INPUT: true; the input reads as it did. -/
def pairlineReadsSpec : ChangeSpec := { name := "pairlineReads", fn := fun _ => fun
  | [d] => { results := [.lit (.bool true)], args := [d] }
  | _ => none }
def pairlineReadsRow : OpenClaim := { program := "ytggdinpopddhnaadoor", sum := "ecb4d8cbd46610c047fbe30a4cf63b05de5ee42190e061db939afedf15d82e30", func := "crawlway/crawlwaylaw36.PairlineReads", spec := "pairlineReads", inPlace := ["internal/bytealg.CountString", "internal/bytealg.IndexByteString", "internal/bytealg.IndexString", "internal/abi.NoEscape"], named := ["unicode/utf8.first", "unicode/utf8.acceptRanges", "internal/bytealg.MaxLen"], apart := false, laid := [("unicode/utf8.acceptRanges", laid_unicode_utf8_acceptRanges), ("unicode/utf8.first", laid_unicode_utf8_first)] }
def PairlineReadsSaid : Prop := pairlineReadsRow.holds Tryd.pinned (OpenSpec.ofChange pairlineReadsSpec)

/-- ITS FALSE NEIGHBOUR: 'it returns false'. Refute it at one input. -/
def pairlineReadsWrong : ChangeSpec := { name := "pairlineReads", fn := fun _ => fun
  | [d] => { results := [.lit (.bool false)], args := [d] }
  | _ => none }
def PairlineReadsWrongFalsely : Prop := pairlineReadsRow.holds Tryd.pinned (OpenSpec.ofChange pairlineReadsWrong)

/-- 'crawlwaylaw36.PairlineMany': WHATEVER THE INPUT: true; the input reads as it did. -/
def pairlineManySpec : ChangeSpec := { name := "pairlineMany", fn := fun _ => fun
  | [d] => { results := [.lit (.bool true)], args := [d] }
  | _ => none }
def pairlineManyRow : OpenClaim := { program := "ytggdinpopddhnaadoor", sum := "ecb4d8cbd46610c047fbe30a4cf63b05de5ee42190e061db939afedf15d82e30", func := "crawlway/crawlwaylaw36.PairlineMany", spec := "pairlineMany", inPlace := ["internal/bytealg.CountString", "internal/bytealg.IndexByteString", "internal/bytealg.IndexString", "internal/abi.NoEscape"], named := ["unicode/utf8.first", "unicode/utf8.acceptRanges", "internal/bytealg.MaxLen"], apart := false, laid := [("unicode/utf8.acceptRanges", laid_unicode_utf8_acceptRanges), ("unicode/utf8.first", laid_unicode_utf8_first)] }
def PairlineManySaid : Prop := pairlineManyRow.holds Tryd.pinned (OpenSpec.ofChange pairlineManySpec)

/-- ITS FALSE NEIGHBOUR: 'it returns false'. Refute it at one input. -/
def pairlineManyWrong : ChangeSpec := { name := "pairlineMany", fn := fun _ => fun
  | [d] => { results := [.lit (.bool false)], args := [d] }
  | _ => none }
def PairlineManyWrongFalsely : Prop := pairlineManyRow.holds Tryd.pinned (OpenSpec.ofChange pairlineManyWrong)

/-- 'crawlwaylaw42.InilexReads': WHATEVER THE INPUT: true; the input reads as it did. -/
def inilexReadsSpec : ChangeSpec := { name := "inilexReads", fn := fun _ => fun
  | [d] => { results := [.lit (.bool true)], args := [d] }
  | _ => none }
def inilexReadsRow : OpenClaim := { program := "ytggdinpopddhnaadoor", sum := "ecb4d8cbd46610c047fbe30a4cf63b05de5ee42190e061db939afedf15d82e30", func := "crawlway/crawlwaylaw42.InilexReads", spec := "inilexReads", inPlace := ["internal/bytealg.CountString", "internal/bytealg.IndexByteString", "internal/bytealg.IndexString"], named := ["unicode/utf8.first", "unicode/utf8.acceptRanges", "internal/bytealg.MaxLen"], apart := false, laid := [("unicode/utf8.acceptRanges", laid_unicode_utf8_acceptRanges), ("unicode/utf8.first", laid_unicode_utf8_first)] }
def InilexReadsSaid : Prop := inilexReadsRow.holds Tryd.pinned (OpenSpec.ofChange inilexReadsSpec)

/-- ITS FALSE NEIGHBOUR: 'it returns false'. Refute it at one input. -/
def inilexReadsWrong : ChangeSpec := { name := "inilexReads", fn := fun _ => fun
  | [d] => { results := [.lit (.bool false)], args := [d] }
  | _ => none }
def InilexReadsWrongFalsely : Prop := inilexReadsRow.holds Tryd.pinned (OpenSpec.ofChange inilexReadsWrong)

/- THE SECOND FORM. 'bulk': how many values and letters a reading holds, each counted each time it is reached (what is shared counts as often as it is met; a slice's spare places count too). A statement '..UptoSaid' is the law's where the arguments, and the package variables that the reading takes, are together of bulk at most 1048576: NARROWER than '..Said'. Prove '..Said' where nothing that the law and all that it calls make is longer than what came in: it says more and counts as full. Else prove '..UptoSaid'. A law counts once. -/
mutual
def uptoBulk {H : Type} : DataW H → Nat
  | .lit (.string bytes) => bytes.length + 1
  | .lit _ => 1
  | .nil => 1
  | .ptr d => uptoBulk d + 1
  | .slice elems spare => uptoBulkAll elems + uptoBulkAll spare + 1
  | .agg parts => uptoBulkAll parts + 1
  | .iface _ d => uptoBulk d + 1
  | .map entries => uptoBulkEntries entries + 1
  | .held _ => 1
def uptoBulkAll {H : Type} : List (DataW H) → Nat
  | [] => 0
  | d :: r => uptoBulk d + uptoBulkAll r
def uptoBulkEntries {H : Type} : List (Lit × DataW H) → Nat
  | [] => 0
  | x :: r => uptoBulkEntry x + uptoBulkEntries r
def uptoBulkEntry {H : Type} : Lit × DataW H → Nat
  | (.string bytes, d) => bytes.length + uptoBulk d + 1
  | (_, d) => uptoBulk d + 1
 end
def uptoSmall : (H : Type) → List (DataW H) → Bool := fun _ ds => decide (uptoBulkAll ds ≤ 1048576)
def OpenSpec.upto (s : _root_.Go.ChangeSpec) : _root_.Go.OpenSpec := { _root_.Go.OpenSpec.ofChange s with cond := some uptoSmall }

/-- 'crawlwaylaw06.LinesCut', WHERE WHAT IT READS IS OF BULK AT MOST 1048576: true; the input reads as it did. -/
def linesCutUptoRow : OpenClaim := { program := "ytggdinpopddhnaadoor", sum := "ecb4d8cbd46610c047fbe30a4cf63b05de5ee42190e061db939afedf15d82e30", func := "crawlway/crawlwaylaw06.LinesCut", spec := "linesCut", inPlace := ["internal/bytealg.CountString", "internal/bytealg.IndexByteString", "internal/bytealg.IndexString"], named := ["unicode/utf8.first", "unicode/utf8.acceptRanges", "internal/bytealg.MaxLen"], apart := false, laid := [("unicode/utf8.acceptRanges", laid_unicode_utf8_acceptRanges), ("unicode/utf8.first", laid_unicode_utf8_first)], narrowed := true }
def LinesCutUptoSaid : Prop := linesCutUptoRow.holds Tryd.pinned (OpenSpec.upto linesCutSpec)

/-- 'crawlwaylaw06.LinesSplit', WHERE WHAT IT READS IS OF BULK AT MOST 1048576: true; the input reads as it did. -/
def linesSplitUptoRow : OpenClaim := { program := "ytggdinpopddhnaadoor", sum := "ecb4d8cbd46610c047fbe30a4cf63b05de5ee42190e061db939afedf15d82e30", func := "crawlway/crawlwaylaw06.LinesSplit", spec := "linesSplit", inPlace := ["internal/bytealg.CountString", "internal/bytealg.IndexByteString", "internal/bytealg.IndexString", "internal/abi.NoEscape"], named := ["unicode/utf8.first", "unicode/utf8.acceptRanges", "internal/bytealg.MaxLen"], apart := false, laid := [("unicode/utf8.acceptRanges", laid_unicode_utf8_acceptRanges), ("unicode/utf8.first", laid_unicode_utf8_first)], narrowed := true }
def LinesSplitUptoSaid : Prop := linesSplitUptoRow.holds Tryd.pinned (OpenSpec.upto linesSplitSpec)

/-- 'crawlwaylaw06.LinesJoin', WHERE WHAT IT READS IS OF BULK AT MOST 1048576: true; the input reads as it did. -/
def linesJoinUptoRow : OpenClaim := { program := "ytggdinpopddhnaadoor", sum := "ecb4d8cbd46610c047fbe30a4cf63b05de5ee42190e061db939afedf15d82e30", func := "crawlway/crawlwaylaw06.LinesJoin", spec := "linesJoin", inPlace := ["internal/bytealg.CountString", "internal/bytealg.IndexByteString", "internal/bytealg.IndexString", "internal/abi.NoEscape"], named := ["unicode/utf8.first", "unicode/utf8.acceptRanges", "internal/bytealg.MaxLen"], apart := false, laid := [("unicode/utf8.acceptRanges", laid_unicode_utf8_acceptRanges), ("unicode/utf8.first", laid_unicode_utf8_first)], narrowed := true }
def LinesJoinUptoSaid : Prop := linesJoinUptoRow.holds Tryd.pinned (OpenSpec.upto linesJoinSpec)

/-- 'crawlwaylaw36.PairlineLines', WHERE WHAT IT READS IS OF BULK AT MOST 1048576: true; the input reads as it did. -/
def pairlineLinesUptoRow : OpenClaim := { program := "ytggdinpopddhnaadoor", sum := "ecb4d8cbd46610c047fbe30a4cf63b05de5ee42190e061db939afedf15d82e30", func := "crawlway/crawlwaylaw36.PairlineLines", spec := "pairlineLines", inPlace := ["internal/bytealg.CountString", "internal/bytealg.IndexByteString", "internal/bytealg.IndexString"], named := ["unicode/utf8.first", "unicode/utf8.acceptRanges", "internal/bytealg.MaxLen"], apart := false, laid := [("unicode/utf8.acceptRanges", laid_unicode_utf8_acceptRanges), ("unicode/utf8.first", laid_unicode_utf8_first)], narrowed := true }
def PairlineLinesUptoSaid : Prop := pairlineLinesUptoRow.holds Tryd.pinned (OpenSpec.upto pairlineLinesSpec)

/-- 'crawlwaylaw06.LinesTrim', WHERE WHAT IT READS IS OF BULK AT MOST 1048576: true; the input reads as it did. -/
def linesTrimUptoRow : OpenClaim := { program := "ytggdinpopddhnaadoor", sum := "ecb4d8cbd46610c047fbe30a4cf63b05de5ee42190e061db939afedf15d82e30", func := "crawlway/crawlwaylaw06.LinesTrim", spec := "linesTrim", inPlace := ["internal/bytealg.CountString", "internal/bytealg.IndexByteString", "internal/bytealg.IndexString"], named := ["unicode/utf8.first", "unicode/utf8.acceptRanges", "internal/bytealg.MaxLen"], apart := false, laid := [("unicode/utf8.acceptRanges", laid_unicode_utf8_acceptRanges), ("unicode/utf8.first", laid_unicode_utf8_first)], narrowed := true }
def LinesTrimUptoSaid : Prop := linesTrimUptoRow.holds Tryd.pinned (OpenSpec.upto linesTrimSpec)

/-- 'crawlwaylaw36.PairlineBlocks', WHERE WHAT IT READS IS OF BULK AT MOST 1048576: true; the input reads as it did. -/
def pairlineBlocksUptoRow : OpenClaim := { program := "ytggdinpopddhnaadoor", sum := "ecb4d8cbd46610c047fbe30a4cf63b05de5ee42190e061db939afedf15d82e30", func := "crawlway/crawlwaylaw36.PairlineBlocks", spec := "pairlineBlocks", inPlace := ["internal/bytealg.CountString", "internal/bytealg.IndexByteString", "internal/bytealg.IndexString", "internal/abi.NoEscape"], named := ["unicode/utf8.first", "unicode/utf8.acceptRanges", "internal/bytealg.MaxLen"], apart := false, laid := [("unicode/utf8.acceptRanges", laid_unicode_utf8_acceptRanges), ("unicode/utf8.first", laid_unicode_utf8_first)], narrowed := true }
def PairlineBlocksUptoSaid : Prop := pairlineBlocksUptoRow.holds Tryd.pinned (OpenSpec.upto pairlineBlocksSpec)

/-- 'crawlwaylaw36.PairlineReads', WHERE WHAT IT READS IS OF BULK AT MOST 1048576: true; the input reads as it did. -/
def pairlineReadsUptoRow : OpenClaim := { program := "ytggdinpopddhnaadoor", sum := "ecb4d8cbd46610c047fbe30a4cf63b05de5ee42190e061db939afedf15d82e30", func := "crawlway/crawlwaylaw36.PairlineReads", spec := "pairlineReads", inPlace := ["internal/bytealg.CountString", "internal/bytealg.IndexByteString", "internal/bytealg.IndexString", "internal/abi.NoEscape"], named := ["unicode/utf8.first", "unicode/utf8.acceptRanges", "internal/bytealg.MaxLen"], apart := false, laid := [("unicode/utf8.acceptRanges", laid_unicode_utf8_acceptRanges), ("unicode/utf8.first", laid_unicode_utf8_first)], narrowed := true }
def PairlineReadsUptoSaid : Prop := pairlineReadsUptoRow.holds Tryd.pinned (OpenSpec.upto pairlineReadsSpec)

/-- 'crawlwaylaw36.PairlineMany', WHERE WHAT IT READS IS OF BULK AT MOST 1048576: true; the input reads as it did. -/
def pairlineManyUptoRow : OpenClaim := { program := "ytggdinpopddhnaadoor", sum := "ecb4d8cbd46610c047fbe30a4cf63b05de5ee42190e061db939afedf15d82e30", func := "crawlway/crawlwaylaw36.PairlineMany", spec := "pairlineMany", inPlace := ["internal/bytealg.CountString", "internal/bytealg.IndexByteString", "internal/bytealg.IndexString", "internal/abi.NoEscape"], named := ["unicode/utf8.first", "unicode/utf8.acceptRanges", "internal/bytealg.MaxLen"], apart := false, laid := [("unicode/utf8.acceptRanges", laid_unicode_utf8_acceptRanges), ("unicode/utf8.first", laid_unicode_utf8_first)], narrowed := true }
def PairlineManyUptoSaid : Prop := pairlineManyUptoRow.holds Tryd.pinned (OpenSpec.upto pairlineManySpec)

/-- 'crawlwaylaw42.InilexReads', WHERE WHAT IT READS IS OF BULK AT MOST 1048576: true; the input reads as it did. -/
def inilexReadsUptoRow : OpenClaim := { program := "ytggdinpopddhnaadoor", sum := "ecb4d8cbd46610c047fbe30a4cf63b05de5ee42190e061db939afedf15d82e30", func := "crawlway/crawlwaylaw42.InilexReads", spec := "inilexReads", inPlace := ["internal/bytealg.CountString", "internal/bytealg.IndexByteString", "internal/bytealg.IndexString"], named := ["unicode/utf8.first", "unicode/utf8.acceptRanges", "internal/bytealg.MaxLen"], apart := false, laid := [("unicode/utf8.acceptRanges", laid_unicode_utf8_acceptRanges), ("unicode/utf8.first", laid_unicode_utf8_first)], narrowed := true }
def InilexReadsUptoSaid : Prop := inilexReadsUptoRow.holds Tryd.pinned (OpenSpec.upto inilexReadsSpec)

end Rows
end Go.Proofs.YtggdinpopddhnaaDoor
