/-
  Printed by gen.py: all parts.
-/
import Derived.Test.YtnfmkedblnajlaaF1
import Derived.Test.YtnfmkedblnajlaaF2
import Derived.Test.YtnfmkedblnajlaaF3
import Derived.Test.YtnfmkedblnajlaaF4
