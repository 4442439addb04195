/-
  What the functions of package wire do to memory, each proved from its printed formula.
-/
import Derived.Test.YtkbfpjkikjmmeaaF
import Derived.Test.YtkbfpjkikjmmeaaSpNum
namespace Go.Proofs.Ytkbfpjkikjmmeaa
set_option linter.unusedVariables false
set_option linter.unusedSimpArgs false
open Go.Sp

theorem wireEl : elemB Try.prog 5 1 1 = true := by kernel_rfl
/-- What Raw does: the bytes that come back, those that are left, is it bad now. -/
def rawBad (bs : List UInt8) (bad : Bool) (n : Int) : Bool := bad || decide ((bs.length : Int) < n)
def rawOut (bs : List UInt8) (bad : Bool) (n : Int) : List UInt8 := if rawBad bs bad n then [] else bs.take n.toNat
def rawLeft (bs : List UInt8) (bad : Bool) (n : Int) : List UInt8 := if rawBad bs bad n then bs else bs.drop n.toNat

theorem rawOut_le (bs : List UInt8) (bad : Bool) (n : Int) : (rawOut bs bad n).length ≤ n.toNat ∧ (rawOut bs bad n).length ≤ bs.length := by
  unfold rawOut; split
  · simp
  · simp; omega

theorem take_succ_getElem {bs : List UInt8} {k : Nat} (hk : k < bs.length) : bs.take (k + 1) = bs.take k ++ [bs[k]] := by
  rw [List.take_succ_eq_append_getElem hk]

theorem beB_take (n k : Nat) : beB n (k + 1) = UInt8.ofNat (n / 256 ^ k) :: beB n k := rfl
theorem byte_of (n k : Nat) (hk : k ≤ 7) : IntKind.u8.wrap (bShr .u64 (n : Int) (IntKind.i64.wrap (8 * (k : Int)))) = ((UInt8.ofNat (n / 256 ^ k)).toNat : Int) := by
  rw [w64 (by omega) (by omega), show (8 * (k : Int)) = ((8 * k : Nat) : Int) by omega, bShr_nat .u64 n (8 * k) (by show 8 * k ≤ 64; omega), IntKind.wrap_u8]
  rw [Nat.pow_mul]
  simp [UInt8.toNat_ofNat']

theorem wrap_u64_nat (n : Int) : ∃ m : Nat, IntKind.u64.wrap n = (m : Int) ∧ (m : Int) = n % 18446744073709551616 := by
  rw [IntKind.wrap_u64]
  exact ⟨(n % 18446744073709551616).toNat, by omega, by omega⟩
/-- The lowest k bytes of a number of Go's. -/
def lowB (n : Int) (k : Nat) : List UInt8 := beB (n % 18446744073709551616).toNat k
theorem rawOut_app (a b : List UInt8) (n : Int) (hn : n = a.length) : rawOut (a ++ b) false n = a ∧ rawLeft (a ++ b) false n = b ∧ rawBad (a ++ b) false n = false := by
  have h : rawBad (a ++ b) false n = false := by simp [rawBad]; omega
  refine ⟨?_, ?_, h⟩
  · simp only [rawOut, h]
    rw [show n.toNat = a.length by omega]; simp
  · simp only [rawLeft, h]
    rw [show n.toNat = a.length by omega]; simp
end Go.Proofs.Ytkbfpjkikjmmeaa
