/-
  The law LinesSplit, plainly: it stands in H.
-/
import Derived.Test.YtopgecohakediaaDoorPlH
