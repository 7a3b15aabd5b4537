/-
  The law IniwriteSame, plainly: it stands in J.
-/
import Derived.Test.YtopgecohakediaaDoorPlK
