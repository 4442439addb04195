/-
  AspathJoins: for every input the law returns true, and each argument reads behind the call as it read before. No condition.
-/
import Derived.Test.YtflffabmfoldeaaAspJoins
import Derived.Test.YtflffabmfoldeaaSpArg
import Derived.Test.YtflffabmfoldeaaRows
namespace Go.Proofs.Ytflffabmfoldeaa
set_option linter.unusedVariables false
set_option linter.unusedSimpArgs false
open Go.Sp Go.RowKit

set_option maxRecDepth 100000 in
theorem aspathJoins_lifted (os : Os) (started : os.Started) (H : Type) (enc : TypeId × Value → H) :
    ReturnsInHanded {} Try.checked os 5 .any (Rows.aspathJoinsSpec.pre6 enc Try.prog Try.f5 Rows.aspathJoinsRow.domain false) (Rows.aspathJoinsSpec.post enc Try.prog Try.f5 false true false false) :=
  law_row (C := Try.checked) (n := 8) (shs := [(false, .cons (.slice (.cons (.int .i64) (.cons (.slice (.cons (.int .u32) .nil)) .nil))) .nil), (false, .cons (.slice (.cons (.int .i64) (.cons (.slice (.cons (.int .u32) .nil)) .nil))) .nil), (false, .cons (.int .u32) .nil)]) (tb := 4) (by kernel_rfl) started (by kernel_rfl) Try.func5
    (ChangeSpec.witness6 (enc := enc) (C := Try.checked) false ⟨#[], #[.slice none 0 0, .slice none 0 0, .int .u32 0], []⟩ 8 (by kernel_rfl) (by kernel_rfl) (by kernel_rfl) (by kernel_rfl))
    (by kernel_rfl) (by kernel_rfl) rfl (by kernel_rfl) rfl
    (fun ds h => by
      have h : ds.length = 3 := h
      obtain ⟨d0, d1, d2, rfl⟩ : ∃ d0 d1 d2, ds = [d0, d1, d2] := by
        match ds, h with
        | [d0, d1, d2], _ => exact ⟨d0, d1, d2, rfl⟩
      exact ⟨rfl, rfl, rfl⟩)
    (by kernel_rfl) apjoins_law

theorem aspathJoins_holds : Rows.AspathJoinsSaid :=
  OpenClaim.holds_of_wide 5 Try.f5 rfl rfl rfl rfl rfl rfl rfl ⟨rfl, rfl, rfl, rfl, rfl⟩ rfl rfl rfl rfl rfl (by kernel_rfl) Try.func5 (by kernel_rfl)
    (of_decide_eq_true (by kernel_rfl)) (by unfold Func.isWrapper; first | (rw [if_pos (by decide +kernel)]; kernel_rfl) | (rw [if_neg (by decide +kernel)]; exact ⟨rfl, rfl⟩))
    (fun os started H enc _ => aspathJoins_lifted os started H enc)
end Go.Proofs.Ytflffabmfoldeaa
