/-
  What the functions of the packages signpostbook and signpostkeep do, that many laws use.
-/
import Derived.Test.YtflffabmfoldeaaWireL
import Derived.Test.YtflffabmfoldeaaSpArg
namespace Go.Proofs.Ytflffabmfoldeaa
set_option linter.unusedVariables false
set_option linter.unusedSimpArgs false
open Go.Sp

theorem tmod_fix (n m : Int) (hm : 0 < m) : (if Int.tmod n m < 0 then Int.tmod n m + m else Int.tmod n m) = n % m := by
  rw [Int.tmod_eq_emod]
  have h1 := Int.emod_nonneg n (by omega : m ≠ 0)
  have h2 := Int.emod_lt_of_pos n hm
  have h3 : (m.natAbs : Int) = m := Int.natAbs_of_nonneg (by omega)
  split
  · rw [if_neg (by omega)]; omega
  · rename_i h
    have : n % m ≠ 0 := fun h0 => h (.inr (Int.dvd_of_emod_eq_zero h0))
    rw [h3, if_pos (by omega)]; omega
theorem within_c {w : World} (n lo hi : Int) (h1 : -1099511627776 ≤ lo) (h2 : lo ≤ hi) (h3 : hi ≤ 1099511627776) :
    Calls Try.prog 9 #[.int .i64 n, .int .i64 lo, .int .i64 hi] w (R9 fun r w' => r = lo + n % (hi - lo + 1) ∧ lo ≤ r ∧ r ≤ hi ∧ w' = w) := by
  have e : IntKind.i64.wrap ((IntKind.i64.wrap (hi - lo)) + (1 : Int)) = hi - lo + 1 := by
    rw [w64 (n := hi - lo) (by omega) (by omega), w64 (by omega) (by omega)]
  have h4 := Int.emod_nonneg n (by omega : hi - lo + 1 ≠ 0)
  have h5 := Int.emod_lt_of_pos n (by omega : 0 < hi - lo + 1)
  have hf := tmod_fix n (hi - lo + 1) (by omega)
  refine F9_ok ?_
  unfold F9
  rw [e]
  refine ⟨by omega, M.join_by (fun J => J (n % (hi - lo + 1)) w) ?_ ?_⟩
  · dsimp only
    rw [w64 (by omega) (by omega)]
    exact ⟨rfl, by omega, by omega, rfl⟩
  · intro J hJ
    refine M.ite_by (fun hb => ?_) (fun hb => ?_)
    · have hb := of_decide_eq_true hb
      rw [if_pos hb] at hf
      have h6 : -(hi - lo + 1) ≤ Int.tmod n (hi - lo + 1) := by omega
      rw [w64 (n := Int.tmod n (hi - lo + 1) + hi) (by omega) (by omega), w64 (n := Int.tmod n (hi - lo + 1) + hi - lo) (by omega) (by omega), w64 (by omega) (by omega),
        show Int.tmod n (hi - lo + 1) + hi - lo + 1 = n % (hi - lo + 1) by omega]
      exact hJ
    · have hb := of_decide_eq_false hb
      rw [if_neg hb] at hf
      rw [hf]; exact hJ
end Go.Proofs.Ytflffabmfoldeaa
