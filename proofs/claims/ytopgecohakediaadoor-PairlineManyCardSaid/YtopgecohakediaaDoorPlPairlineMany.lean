/-
  The law PairlineMany, plainly: it stands in J.
-/
import Derived.Test.YtopgecohakediaaDoorPlJ
