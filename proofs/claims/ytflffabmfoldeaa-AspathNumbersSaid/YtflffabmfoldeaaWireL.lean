/-
  What the laws of package wire share.
-/
import Derived.Test.YtflffabmfoldeaaWireC
import Derived.Test.YtflffabmfoldeaaSpBytes
import Derived.Test.YtflffabmfoldeaaSpRow
import Derived.Test.YtflffabmfoldeaaSpArg
namespace Go.Proofs.Ytflffabmfoldeaa
set_option linter.unusedVariables false
set_option linter.unusedSimpArgs false
open Go.Sp
open Go.RowKit (Below)

theorem wireU8 : intB Try.prog 5 .u8 = true := by kernel_rfl
theorem wireStr : Try.prog.underlying 9 = some .string := by kernel_rfl
theorem b2s_c {w : World} {s : SV} {bs : List UInt8} (h : Rd 1 w s (bv bs)) : (convert 40 9 s.v).run Try.prog w = .ok (.string (baOf bs)) w :=
  b2s_rd wireSl wireU8 wireStr h

theorem cut_c {w : World} {s : SV} {bs : List UInt8} (h : Rd 1 w s (bv bs)) (n : Nat) :
    Calls Try.prog 22 #[s.v, .int .i64 n] w (R22 fun r w' => w' = w ∧ ∀ w1, Rd 1 w1 s (bv bs) → Rd 1 w1 r (bv (bs.take n))) := by
  have hl := h.len
  have hc := h.cap
  rw [bv_length, Nat.mul_one] at hl
  refine F22_ok (M.ite_by (fun hb => ?_) (fun hb => ?_))
  · have hb := of_decide_eq_true hb
    refine ⟨by omega, by omega, by omega, rfl, fun w1 h1 => ?_⟩
    have := h1.sub (l := 0) (u := n) (Nat.zero_le _) (by omega)
    simp only [Nat.zero_mul, List.drop_zero, Nat.sub_zero, Nat.mul_one, bv_take] at this
    exact this
  · have hb := of_decide_eq_false hb
    rw [List.take_of_length_le (by omega)]
    exact ⟨rfl, fun w1 h1 => h1⟩

end Go.Proofs.Ytflffabmfoldeaa
