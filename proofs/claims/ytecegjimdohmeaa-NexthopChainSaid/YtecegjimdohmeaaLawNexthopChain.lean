/-
  NexthopChain: for every input the law returns true, and each argument reads behind the call as it read before. No condition.
-/
import Derived.Test.YtecegjimdohmeaaNexChain
import Derived.Test.YtecegjimdohmeaaSpArg
import Derived.Test.YtecegjimdohmeaaRows
namespace Go.Proofs.Ytecegjimdohmeaa
set_option linter.unusedVariables false
set_option linter.unusedSimpArgs false
open Go.Sp Go.RowKit

set_option maxRecDepth 100000 in
theorem nexthopChain_lifted (os : Os) (started : os.Started) (H : Type) (enc : TypeId × Value → H) :
    ReturnsInHanded {} Try.checked os 3 .any (Rows.nexthopChainSpec.pre6 enc Try.prog Try.f3 Rows.nexthopChainRow.domain false) (Rows.nexthopChainSpec.post enc Try.prog Try.f3 false true false false) :=
  law_row (C := Try.checked) (n := 8) (shs := [(false, .cons (.int .i64) .nil), (false, .cons (.int .i64) .nil), (false, .cons .flo .nil), (false, .cons .bool .nil)]) (tb := 4) (by kernel_rfl) started (by kernel_rfl) Try.func3
    (ChangeSpec.witness6 (enc := enc) (C := Try.checked) false ⟨#[], #[.int .i64 0, .int .i64 0, .float .f64 0, .bool false], []⟩ 8 (by kernel_rfl) (by kernel_rfl) (by kernel_rfl) (by kernel_rfl))
    (by kernel_rfl) (by kernel_rfl) rfl (by kernel_rfl) rfl
    (fun ds h => by
      have h : ds.length = 4 := h
      obtain ⟨d0, d1, d2, d3, rfl⟩ : ∃ d0 d1 d2 d3, ds = [d0, d1, d2, d3] := by
        match ds, h with
        | [d0, d1, d2, d3], _ => exact ⟨d0, d1, d2, d3, rfl⟩
      exact ⟨rfl, rfl, rfl⟩)
    (by kernel_rfl) nclaw_law

theorem nexthopChain_holds : Rows.NexthopChainSaid :=
  OpenClaim.holds_of_wide 3 Try.f3 rfl rfl rfl rfl rfl rfl rfl ⟨rfl, rfl, rfl, rfl, rfl⟩ rfl rfl rfl rfl rfl (by kernel_rfl) Try.func3 (by kernel_rfl)
    (of_decide_eq_true (by kernel_rfl)) (by unfold Func.isWrapper; first | (rw [if_pos (by decide +kernel)]; kernel_rfl) | (rw [if_neg (by decide +kernel)]; exact ⟨rfl, rfl⟩))
    (fun os started H enc _ => nexthopChain_lifted os started H enc)
end Go.Proofs.Ytecegjimdohmeaa
