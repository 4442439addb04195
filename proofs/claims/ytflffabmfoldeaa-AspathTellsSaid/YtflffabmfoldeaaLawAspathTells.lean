/-
  AspathTells: for every input the law returns true, and each argument reads behind the call as it read before. No condition.
-/
import Derived.Test.YtflffabmfoldeaaAspTells
import Derived.Test.YtflffabmfoldeaaSpArg
import Derived.Test.YtflffabmfoldeaaRows
namespace Go.Proofs.Ytflffabmfoldeaa
set_option linter.unusedVariables false
set_option linter.unusedSimpArgs false
open Go.Sp Go.RowKit

set_option maxRecDepth 100000 in
theorem aspathTells_lifted (os : Os) (started : os.Started) (H : Type) (enc : TypeId × Value → H) :
    ReturnsInHanded {} Try.checked os 8 .any (Rows.aspathTellsSpec.pre6 enc Try.prog Try.f8 Rows.aspathTellsRow.domain false) (Rows.aspathTellsSpec.post enc Try.prog Try.f8 false true false false) :=
  law_row (C := Try.checked) (n := 8) (shs := [(false, .cons (.slice (.cons (.int .i64) (.cons (.slice (.cons (.int .u32) .nil)) .nil))) .nil), (false, .cons (.slice (.cons (.int .i64) (.cons (.slice (.cons (.int .u32) .nil)) .nil))) .nil), (false, .cons (.int .u32) .nil), (false, .cons (.int .i64) .nil), (false, .cons (.slice (.cons (.int .u8) .nil)) .nil), (false, .cons (.int .i64) .nil), (false, .cons (.int .u8) .nil)]) (tb := 4) (by kernel_rfl) started (by kernel_rfl) Try.func8
    (ChangeSpec.witness6 (enc := enc) (C := Try.checked) false ⟨#[], #[.slice none 0 0, .slice none 0 0, .int .u32 0, .int .i64 0, .slice none 0 0, .int .i64 0, .int .u8 0], []⟩ 8 (by kernel_rfl) (by kernel_rfl) (by kernel_rfl) (by kernel_rfl))
    (by kernel_rfl) (by kernel_rfl) rfl (by kernel_rfl) rfl
    (fun ds h => by
      have h : ds.length = 7 := h
      obtain ⟨d0, d1, d2, d3, d4, d5, d6, rfl⟩ : ∃ d0 d1 d2 d3 d4 d5 d6, ds = [d0, d1, d2, d3, d4, d5, d6] := by
        match ds, h with
        | [d0, d1, d2, d3, d4, d5, d6], _ => exact ⟨d0, d1, d2, d3, d4, d5, d6, rfl⟩
      exact ⟨rfl, rfl, rfl⟩)
    (by kernel_rfl) aptells_law

theorem aspathTells_holds : Rows.AspathTellsSaid :=
  OpenClaim.holds_of_wide 8 Try.f8 rfl rfl rfl rfl rfl rfl rfl ⟨rfl, rfl, rfl, rfl, rfl⟩ rfl rfl rfl rfl rfl (by kernel_rfl) Try.func8 (by kernel_rfl)
    (of_decide_eq_true (by kernel_rfl)) (by unfold Func.isWrapper; first | (rw [if_pos (by decide +kernel)]; kernel_rfl) | (rw [if_neg (by decide +kernel)]; exact ⟨rfl, rfl⟩))
    (fun os started H enc _ => aspathTells_lifted os started H enc)
end Go.Proofs.Ytflffabmfoldeaa
