/-
  Printed by gen.py: all parts.
-/
import Derived.Test.YtfcgkkgdnagmcaaF1
import Derived.Test.YtfcgkkgdnagmcaaF2
