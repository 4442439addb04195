/-
  What the laws of package wire share.
-/
import Derived.Test.YtmgigplbclkpaaaWireC
import Derived.Test.YtmgigplbclkpaaaSpBytes
import Derived.Test.YtmgigplbclkpaaaSpRow
import Derived.Test.YtmgigplbclkpaaaSpArg
namespace Go.Proofs.Ytmgigplbclkpaaa
set_option linter.unusedVariables false
set_option linter.unusedSimpArgs false
open Go.Sp
open Go.RowKit (Below)

theorem wireU8 : intB Try.prog 5 .u8 = true := by kernel_rfl
theorem wireStr : Try.prog.underlying 9 = some .string := by kernel_rfl
end Go.Proofs.Ytmgigplbclkpaaa
