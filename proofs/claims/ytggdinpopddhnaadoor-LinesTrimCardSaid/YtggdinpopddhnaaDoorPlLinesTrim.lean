/-
  The law LinesTrim, plainly: it stands in C.
-/
import Derived.Test.YtggdinpopddhnaaDoorPlC
