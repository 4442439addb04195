/-
  Printed by gen.py: all parts.
-/
import Derived.Test.YtflffabmfoldeaaF1
import Derived.Test.YtflffabmfoldeaaF2
import Derived.Test.YtflffabmfoldeaaF3
import Derived.Test.YtflffabmfoldeaaF4
