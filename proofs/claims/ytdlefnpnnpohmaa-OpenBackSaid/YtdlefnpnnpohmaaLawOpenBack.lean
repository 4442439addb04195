/-
  OpenBack: for every input the law returns true, and each argument reads behind the call as it read before. No condition.
-/
import Derived.Test.YtdlefnpnnpohmaaOpenBack
import Derived.Test.YtdlefnpnnpohmaaSpArg
import Derived.Test.YtdlefnpnnpohmaaRows
namespace Go.Proofs.Ytdlefnpnnpohmaa
set_option linter.unusedVariables false
set_option linter.unusedSimpArgs false
open Go.Sp Go.RowKit

set_option maxRecDepth 100000 in
theorem openBack_lifted (os : Os) (started : os.Started) (H : Type) (enc : TypeId × Value → H) :
    ReturnsInHanded {} Try.checked os 7 .any (Rows.openBackSpec.pre6 enc Try.prog Try.f7 Rows.openBackRow.domain false) (Rows.openBackSpec.post enc Try.prog Try.f7 false true false false) :=
  law_row (C := Try.checked) (n := 8) (shs := [(false, .cons (.int .i64) .nil), (false, .cons (.int .i64) .nil), (false, .cons (.int .u32) .nil), (false, .cons (.int .u8) .nil), (false, .cons (.int .u8) .nil), (false, .cons (.slice (.cons (.int .u8) .nil)) .nil), (false, .cons (.int .i64) .nil)]) (tb := 4) (by kernel_rfl) started (by kernel_rfl) Try.func7
    (ChangeSpec.witness6 (enc := enc) (C := Try.checked) false ⟨#[], #[.int .i64 0, .int .i64 0, .int .u32 0, .int .u8 0, .int .u8 0, .slice none 0 0, .int .i64 0], []⟩ 8 (by kernel_rfl) (by kernel_rfl) (by kernel_rfl) (by kernel_rfl))
    (by kernel_rfl) (by kernel_rfl) rfl (by kernel_rfl) rfl
    (fun ds h => by
      have h : ds.length = 7 := h
      obtain ⟨d0, d1, d2, d3, d4, d5, d6, rfl⟩ : ∃ d0 d1 d2 d3 d4 d5 d6, ds = [d0, d1, d2, d3, d4, d5, d6] := by
        match ds, h with
        | [d0, d1, d2, d3, d4, d5, d6], _ => exact ⟨d0, d1, d2, d3, d4, d5, d6, rfl⟩
      exact ⟨rfl, rfl, rfl⟩)
    (by kernel_rfl) back_law

theorem openBack_holds : Rows.OpenBackSaid :=
  OpenClaim.holds_of_wide 7 Try.f7 rfl rfl rfl rfl rfl rfl rfl ⟨rfl, rfl, rfl, rfl, rfl⟩ rfl rfl rfl rfl rfl (by kernel_rfl) Try.func7 (by kernel_rfl)
    (of_decide_eq_true (by kernel_rfl)) (by unfold Func.isWrapper; first | (rw [if_pos (by decide +kernel)]; kernel_rfl) | (rw [if_neg (by decide +kernel)]; exact ⟨rfl, rfl⟩))
    (fun os started H enc _ => openBack_lifted os started H enc)
end Go.Proofs.Ytdlefnpnnpohmaa
