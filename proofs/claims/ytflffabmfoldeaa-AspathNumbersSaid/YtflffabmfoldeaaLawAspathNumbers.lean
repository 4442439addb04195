/-
  AspathNumbers: for every input the law returns true, and each argument reads behind the call as it read before. No condition.
-/
import Derived.Test.YtflffabmfoldeaaAspNumbers
import Derived.Test.YtflffabmfoldeaaSpArg
import Derived.Test.YtflffabmfoldeaaRows
namespace Go.Proofs.Ytflffabmfoldeaa
set_option linter.unusedVariables false
set_option linter.unusedSimpArgs false
open Go.Sp Go.RowKit

set_option maxRecDepth 100000 in
theorem aspathNumbers_lifted (os : Os) (started : os.Started) (H : Type) (enc : TypeId × Value → H) :
    ReturnsInHanded {} Try.checked os 7 .any (Rows.aspathNumbersSpec.pre6 enc Try.prog Try.f7 Rows.aspathNumbersRow.domain false) (Rows.aspathNumbersSpec.post enc Try.prog Try.f7 false true false false) :=
  law_row (C := Try.checked) (n := 8) (shs := []) (tb := 4) (by kernel_rfl) started (by kernel_rfl) Try.func7
    (ChangeSpec.witness6 (enc := enc) (C := Try.checked) false ⟨#[], #[], []⟩ 8 (by kernel_rfl) (by kernel_rfl) (by kernel_rfl) (by kernel_rfl))
    (by kernel_rfl) (by kernel_rfl) rfl (by kernel_rfl) rfl
    (fun ds h => by
      have h : ds.length = 0 := h
      obtain rfl := List.eq_nil_of_length_eq_zero h
      exact ⟨rfl, rfl, rfl⟩)
    (by kernel_rfl) apnum_law

theorem aspathNumbers_holds : Rows.AspathNumbersSaid :=
  OpenClaim.holds_of_wide 7 Try.f7 rfl rfl rfl rfl rfl rfl rfl ⟨rfl, rfl, rfl, rfl, rfl⟩ rfl rfl rfl rfl rfl (by kernel_rfl) Try.func7 (by kernel_rfl)
    (of_decide_eq_true (by kernel_rfl)) (by unfold Func.isWrapper; first | (rw [if_pos (by decide +kernel)]; kernel_rfl) | (rw [if_neg (by decide +kernel)]; exact ⟨rfl, rfl⟩))
    (fun os started H enc _ => aspathNumbers_lifted os started H enc)
end Go.Proofs.Ytflffabmfoldeaa
