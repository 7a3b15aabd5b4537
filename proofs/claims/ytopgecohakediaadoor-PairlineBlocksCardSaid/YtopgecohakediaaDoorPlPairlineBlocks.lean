/-
  The law PairlineBlocks, plainly: it stands in J.
-/
import Derived.Test.YtopgecohakediaaDoorPlJ
