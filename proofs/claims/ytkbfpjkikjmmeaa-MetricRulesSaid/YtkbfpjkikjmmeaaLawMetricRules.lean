/-
  MetricRules: for every input the law returns true, and each argument reads behind the call as it read before. No condition.
-/
import Derived.Test.YtkbfpjkikjmmeaaMetRules
import Derived.Test.YtkbfpjkikjmmeaaSpArg
import Derived.Test.YtkbfpjkikjmmeaaRows
namespace Go.Proofs.Ytkbfpjkikjmmeaa
set_option linter.unusedVariables false
set_option linter.unusedSimpArgs false
open Go.Sp Go.RowKit

set_option maxRecDepth 100000 in
theorem metricRules_lifted (os : Os) (started : os.Started) (H : Type) (enc : TypeId × Value → H) :
    ReturnsInHanded {} Try.checked os 8 .any (Rows.metricRulesSpec.pre6 enc Try.prog Try.f8 Rows.metricRulesRow.domain false) (Rows.metricRulesSpec.post enc Try.prog Try.f8 false true false false) :=
  law_row (C := Try.checked) (n := 8) (shs := [(false, .cons .flo .nil), (false, .cons .flo .nil), (false, .cons .flo .nil)]) (tb := 4) (by kernel_rfl) started (by kernel_rfl) Try.func8
    (ChangeSpec.witness6 (enc := enc) (C := Try.checked) false ⟨#[], #[.float .f64 0, .float .f64 0, .float .f64 0], []⟩ 8 (by kernel_rfl) (by kernel_rfl) (by kernel_rfl) (by kernel_rfl))
    (by kernel_rfl) (by kernel_rfl) rfl (by kernel_rfl) rfl
    (fun ds h => by
      have h : ds.length = 3 := h
      obtain ⟨d0, d1, d2, rfl⟩ : ∃ d0 d1 d2, ds = [d0, d1, d2] := by
        match ds, h with
        | [d0, d1, d2], _ => exact ⟨d0, d1, d2, rfl⟩
      exact ⟨rfl, rfl, rfl⟩)
    (by kernel_rfl) mrl_law

theorem metricRules_holds : Rows.MetricRulesSaid :=
  OpenClaim.holds_of_wide 8 Try.f8 rfl rfl rfl rfl rfl rfl rfl ⟨rfl, rfl, rfl, rfl, rfl⟩ rfl rfl rfl rfl rfl (by kernel_rfl) Try.func8 (by kernel_rfl)
    (of_decide_eq_true (by kernel_rfl)) (by unfold Func.isWrapper; first | (rw [if_pos (by decide +kernel)]; kernel_rfl) | (rw [if_neg (by decide +kernel)]; exact ⟨rfl, rfl⟩))
    (fun os started H enc _ => metricRules_lifted os started H enc)
end Go.Proofs.Ytkbfpjkikjmmeaa
