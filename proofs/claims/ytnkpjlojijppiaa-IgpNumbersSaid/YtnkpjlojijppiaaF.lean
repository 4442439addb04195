/-
  Printed by gen.py: all parts.
-/
import Derived.Test.YtnkpjlojijppiaaF1
import Derived.Test.YtnkpjlojijppiaaF2
import Derived.Test.YtnkpjlojijppiaaF3
import Derived.Test.YtnkpjlojijppiaaF4
