/-
  What the laws of package wire share.
-/
import Derived.Test.YtnkpjlojijppiaaWireC
import Derived.Test.YtnkpjlojijppiaaSpBytes
import Derived.Test.YtnkpjlojijppiaaSpRow
import Derived.Test.YtnkpjlojijppiaaSpArg
namespace Go.Proofs.Ytnkpjlojijppiaa
set_option linter.unusedVariables false
set_option linter.unusedSimpArgs false
open Go.Sp
open Go.RowKit (Below)

theorem wireU8 : intB Try.prog 5 .u8 = true := by kernel_rfl
theorem wireStr : Try.prog.underlying 9 = some .string := by kernel_rfl
end Go.Proofs.Ytnkpjlojijppiaa
