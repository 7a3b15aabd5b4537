/-
  The law InilexReads, plainly: it stands in F.
-/
import Derived.Test.YtggdinpopddhnaaDoorPlF
