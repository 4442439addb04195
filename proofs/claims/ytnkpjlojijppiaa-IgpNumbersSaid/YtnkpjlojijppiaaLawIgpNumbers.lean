/-
  IgpNumbers: for every input the law returns true, and each argument reads behind the call as it read before. No condition.
-/
import Derived.Test.YtnkpjlojijppiaaIgpPlays
import Derived.Test.YtnkpjlojijppiaaSpArg
import Derived.Test.YtnkpjlojijppiaaRows
namespace Go.Proofs.Ytnkpjlojijppiaa
set_option linter.unusedVariables false
set_option linter.unusedSimpArgs false
open Go.Sp Go.RowKit

set_option maxRecDepth 100000 in
theorem igpNumbers_lifted (os : Os) (started : os.Started) (H : Type) (enc : TypeId × Value → H) :
    ReturnsInHanded {} Try.checked os 6 .any (Rows.igpNumbersSpec.pre6 enc Try.prog Try.f6 Rows.igpNumbersRow.domain false) (Rows.igpNumbersSpec.post enc Try.prog Try.f6 false true false false) :=
  law_row (C := Try.checked) (n := 8) (shs := []) (tb := 4) (by kernel_rfl) started (by kernel_rfl) Try.func6
    (ChangeSpec.witness6 (enc := enc) (C := Try.checked) false ⟨#[], #[], []⟩ 8 (by kernel_rfl) (by kernel_rfl) (by kernel_rfl) (by kernel_rfl))
    (by kernel_rfl) (by kernel_rfl) rfl (by kernel_rfl) rfl
    (fun ds h => by
      have h : ds.length = 0 := h
      obtain rfl := List.eq_nil_of_length_eq_zero h
      exact ⟨rfl, rfl, rfl⟩)
    (by kernel_rfl) inumbers_law

theorem igpNumbers_holds : Rows.IgpNumbersSaid :=
  OpenClaim.holds_of_wide 6 Try.f6 rfl rfl rfl rfl rfl rfl rfl ⟨rfl, rfl, rfl, rfl, rfl⟩ rfl rfl rfl rfl rfl (by kernel_rfl) Try.func6 (by kernel_rfl)
    (of_decide_eq_true (by kernel_rfl)) (by unfold Func.isWrapper; first | (rw [if_pos (by decide +kernel)]; kernel_rfl) | (rw [if_neg (by decide +kernel)]; exact ⟨rfl, rfl⟩))
    (fun os started H enc _ => igpNumbers_lifted os started H enc)
end Go.Proofs.Ytnkpjlojijppiaa
