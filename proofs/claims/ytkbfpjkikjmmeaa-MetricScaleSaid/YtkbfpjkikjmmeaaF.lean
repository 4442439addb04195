/-
  Printed by gen.py: all parts.
-/
import Derived.Test.YtkbfpjkikjmmeaaF1
import Derived.Test.YtkbfpjkikjmmeaaF2
import Derived.Test.YtkbfpjkikjmmeaaF3
