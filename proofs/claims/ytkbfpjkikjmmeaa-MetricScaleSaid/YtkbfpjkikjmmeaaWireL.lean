/-
  What the laws of package wire share.
-/
import Derived.Test.YtkbfpjkikjmmeaaWireC
import Derived.Test.YtkbfpjkikjmmeaaSpBytes
import Derived.Test.YtkbfpjkikjmmeaaSpRow
import Derived.Test.YtkbfpjkikjmmeaaSpArg
namespace Go.Proofs.Ytkbfpjkikjmmeaa
set_option linter.unusedVariables false
set_option linter.unusedSimpArgs false
open Go.Sp
open Go.RowKit (Below)

theorem wireU8 : intB Try.prog 5 .u8 = true := by kernel_rfl
theorem wireStr : Try.prog.underlying 9 = some .string := by kernel_rfl
end Go.Proofs.Ytkbfpjkikjmmeaa
