/-
  What the laws on tables of prefixes share.
-/
import Derived.Test.YtecegjimdohmeaaTrieD
namespace Go.Proofs.Ytecegjimdohmeaa
set_option linter.unusedVariables false
set_option linter.unusedSimpArgs false
open Go.Sp
open Go.RowKit (Below)

theorem bOr_u32 (x y : Int) : ∃ n : Nat, bOr .u32 x y = (n : Int) ∧ n < 4294967296 := by
  unfold bOr
  rw [IntKind.wrap_u32]
  refine ⟨(((BitVec.ofInt IntKind.u32.bits x ||| BitVec.ofInt IntKind.u32.bits y).toNat : Int) % 4294967296).toNat, ?_, ?_⟩
  · omega
  · omega
/-- The prefix that the laws make of two numbers. -/
def kpA (A : Int) : Nat := (bOr .u32 (167772160 : Int) (bShl .u32 (Int.tmod A (64 : Int)) (18 : Int))).toNat
def kpN (N : Int) : Nat := (8 + N % 7).toNat
def kp (A N : Int) : Key := (topN (kpA A) (kpN N), (kpN N : Int))
theorem kpN_le (N : Int) : kpN N ≤ 14 := by unfold kpN; omega
theorem kpA_lt (A : Int) : kpA A < 4294967296 := by
  obtain ⟨n, h1, h2⟩ := bOr_u32 (167772160 : Int) (bShl .u32 (Int.tmod A (64 : Int)) (18 : Int))
  unfold kpA
  rw [h1, Int.toNat_natCast]; exact h2
theorem kp_lt (A N : Int) : (kp A N).1 < 4294967296 := topN_lt (kpA_lt A)
theorem kp_right (A N : Int) : rightP (kp A N).1 (kp A N).2 = true := by
  have := kpN_le N
  exact rightP_iff _ _ |>.2 ⟨by show (0 : Int) ≤ (kpN N : Int); omega, by show (kpN N : Int) ≤ 32; omega, by
    show lowN (topN (kpA A) (kpN N)) ((kpN N : Int)).toNat = 0
    rw [Int.toNat_natCast]; exact lowN_top _ _⟩
end Go.Proofs.Ytecegjimdohmeaa
