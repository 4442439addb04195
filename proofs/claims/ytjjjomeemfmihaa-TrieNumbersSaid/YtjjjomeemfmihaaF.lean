/-
  Printed by gen.py: all parts.
-/
import Derived.Test.YtjjjomeemfmihaaF1
import Derived.Test.YtjjjomeemfmihaaF2
import Derived.Test.YtjjjomeemfmihaaF3
import Derived.Test.YtjjjomeemfmihaaF4
