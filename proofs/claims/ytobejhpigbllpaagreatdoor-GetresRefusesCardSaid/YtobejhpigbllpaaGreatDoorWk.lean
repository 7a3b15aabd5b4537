/-
  All walks. Printed by mkwalk.py.
-/
import Derived.Test.YtobejhpigbllpaaGreatDoorWk0
