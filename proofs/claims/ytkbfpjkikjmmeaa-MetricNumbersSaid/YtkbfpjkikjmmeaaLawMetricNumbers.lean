/-
  MetricNumbers: for every input the law returns true, and each argument reads behind the call as it read before. No condition.
-/
import Derived.Test.YtkbfpjkikjmmeaaMetNumbers
import Derived.Test.YtkbfpjkikjmmeaaSpArg
import Derived.Test.YtkbfpjkikjmmeaaRows
namespace Go.Proofs.Ytkbfpjkikjmmeaa
set_option linter.unusedVariables false
set_option linter.unusedSimpArgs false
open Go.Sp Go.RowKit

set_option maxRecDepth 100000 in
theorem metricNumbers_lifted (os : Os) (started : os.Started) (H : Type) (enc : TypeId × Value → H) :
    ReturnsInHanded {} Try.checked os 9 .any (Rows.metricNumbersSpec.pre6 enc Try.prog Try.f9 Rows.metricNumbersRow.domain false) (Rows.metricNumbersSpec.post enc Try.prog Try.f9 false true false false) :=
  law_row (C := Try.checked) (n := 8) (shs := []) (tb := 4) (by kernel_rfl) started (by kernel_rfl) Try.func9
    (ChangeSpec.witness6 (enc := enc) (C := Try.checked) false ⟨#[], #[], []⟩ 8 (by kernel_rfl) (by kernel_rfl) (by kernel_rfl) (by kernel_rfl))
    (by kernel_rfl) (by kernel_rfl) rfl (by kernel_rfl) rfl
    (fun ds h => by
      have h : ds.length = 0 := h
      obtain rfl := List.eq_nil_of_length_eq_zero h
      exact ⟨rfl, rfl, rfl⟩)
    (by kernel_rfl) mnl_law

theorem metricNumbers_holds : Rows.MetricNumbersSaid :=
  OpenClaim.holds_of_wide 9 Try.f9 rfl rfl rfl rfl rfl rfl rfl ⟨rfl, rfl, rfl, rfl, rfl⟩ rfl rfl rfl rfl rfl (by kernel_rfl) Try.func9 (by kernel_rfl)
    (of_decide_eq_true (by kernel_rfl)) (by unfold Func.isWrapper; first | (rw [if_pos (by decide +kernel)]; kernel_rfl) | (rw [if_neg (by decide +kernel)]; exact ⟨rfl, rfl⟩))
    (fun os started H enc _ => metricNumbers_lifted os started H enc)
end Go.Proofs.Ytkbfpjkikjmmeaa
