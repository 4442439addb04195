/-
  Printed by gen.py: all parts.
-/
import Derived.Test.YtmgigplbclkpaaaF1
import Derived.Test.YtmgigplbclkpaaaF2
import Derived.Test.YtmgigplbclkpaaaF3
import Derived.Test.YtmgigplbclkpaaaF4
import Derived.Test.YtmgigplbclkpaaaF5
