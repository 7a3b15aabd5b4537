/-
  All walks. Printed by mkwalk.py.
-/
import Derived.Test.YtopgecohakediaaDoorWk0
