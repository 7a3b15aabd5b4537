/-
  The law PairlineLines, plainly: it stands in E.
-/
import Derived.Test.YtggdinpopddhnaaDoorPlE
