/-
  The law PairlineReads, plainly: it stands in J.
-/
import Derived.Test.YtopgecohakediaaDoorPlJ
