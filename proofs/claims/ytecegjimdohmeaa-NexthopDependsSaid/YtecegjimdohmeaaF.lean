/-
  Printed by gen.py: all parts.
-/
import Derived.Test.YtecegjimdohmeaaF1
import Derived.Test.YtecegjimdohmeaaF2
import Derived.Test.YtecegjimdohmeaaF3
import Derived.Test.YtecegjimdohmeaaF4
