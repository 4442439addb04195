/-
  Printed by gen.py: all parts.
-/
import Derived.Test.YtdlefnpnnpohmaaF1
import Derived.Test.YtdlefnpnnpohmaaF2
import Derived.Test.YtdlefnpnnpohmaaF3
