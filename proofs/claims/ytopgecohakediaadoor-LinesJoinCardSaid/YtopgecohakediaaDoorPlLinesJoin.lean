/-
  The law LinesJoin, plainly: it stands in H.
-/
import Derived.Test.YtopgecohakediaaDoorPlH
