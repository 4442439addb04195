/-
  Addresses and the highest bits of them, in plain numbers.
-/
import Derived.Test.YtecegjimdohmeaaSpBytes
namespace Go.Sp
set_option linter.unusedVariables false
set_option linter.unusedSimpArgs false
/-- So many of the highest bits. -/
def maskN (n : Nat) : Nat := 4294967296 - 2 ^ (32 - n)
def topN (a n : Nat) : Nat := a / 2 ^ (32 - n) * 2 ^ (32 - n)
def lowN (a n : Nat) : Nat := a % 2 ^ (32 - n)
/-- A number brought into 0 .. 32. -/
def clampN (n : Int) : Nat := (min (max n 0) 32).toNat
theorem clampN_le (n : Int) : clampN n ≤ 32 := by unfold clampN; omega
theorem clampN_cast (n : Int) : (clampN n : Int) = min (max n 0) 32 := by unfold clampN; omega
theorem clampN_nat {n : Nat} (h : n ≤ 32) : clampN (n : Int) = n := by unfold clampN; omega
theorem pow_le32 {n : Nat} (h : n ≤ 32) : 2 ^ n ≤ 4294967296 := Nat.le_trans (Nat.pow_le_pow_right (by omega) h) (by decide)
theorem maskN_lt (n : Nat) : maskN n < 4294967296 := by
  have : 0 < 2 ^ (32 - n) := Nat.two_pow_pos _
  unfold maskN; omega
theorem maskN_eq {n : Nat} (h : n ≤ 32) : maskN n = (2 ^ n - 1) * 2 ^ (32 - n) := by
  unfold maskN
  rw [Nat.sub_mul, Nat.one_mul, ← Nat.pow_add, show n + (32 - n) = 32 by omega]
theorem and_top {a n : Nat} (ha : a < 4294967296) (h : n ≤ 32) : a &&& maskN n = topN a n := by
  rw [maskN_eq h]
  unfold topN
  apply Nat.eq_of_testBit_eq
  intro i
  rw [Nat.testBit_and, ← Nat.shiftLeft_eq, ← Nat.shiftLeft_eq, ← Nat.shiftRight_eq_div_pow, Nat.testBit_shiftLeft, Nat.testBit_shiftLeft, Nat.testBit_shiftRight, Nat.testBit_two_pow_sub_one]
  by_cases hi : 32 - n ≤ i
  · rw [show 32 - n + (i - (32 - n)) = i by omega]
    by_cases h2 : i < 32
    · simp [hi]; omega
    · have : a.testBit i = false := Nat.testBit_lt_two_pow (Nat.lt_of_lt_of_le ha (Nat.le_trans (by decide : 4294967296 ≤ 2 ^ 32) (Nat.pow_le_pow_right (by omega) (by omega))))
      simp [this]
  · simp [hi]
theorem bAnd_top {a n : Nat} (ha : a < 4294967296) (h : n ≤ 32) : bAnd .u32 (a : Int) (maskN n : Int) = (topN a n : Int) := by
  rw [bAnd_nat .u32 a (maskN n) ha (maskN_lt n) rfl, and_top ha h]
theorem bAndNot_low {a n : Nat} (ha : a < 4294967296) (h : n ≤ 32) : bAndNot .u32 (a : Int) (maskN n : Int) = (lowN a n : Int) := by
  unfold bAndNot
  have hp : 0 < 2 ^ (32 - n) := Nat.two_pow_pos _
  have hle := pow_le32 (show 32 - n ≤ 32 by omega)
  rw [BitVec.toNat_and, BitVec.toNat_not, bits_ofInt .u32 a ha, bits_ofInt .u32 (maskN n) (maskN_lt n)]
  have e : 2 ^ IntKind.u32.bits - 1 - maskN n = 2 ^ (32 - n) - 1 := by
    show 4294967296 - 1 - maskN n = _
    unfold maskN; omega
  rw [e, Nat.and_two_pow_sub_one_eq_mod]
  have : a % 2 ^ (32 - n) < 2 ^ (32 - n) := Nat.mod_lt _ hp
  exact wu32 (by omega) (by omega)
theorem topN_lt {a n : Nat} (ha : a < 4294967296) : topN a n < 4294967296 := Nat.lt_of_le_of_lt (Nat.div_mul_le_self _ _) ha
theorem topN_low (a n : Nat) : topN a n + lowN a n = a := Nat.div_add_mod' a (2 ^ (32 - n))
theorem lowN_top (a n : Nat) : lowN (topN a n) n = 0 := by unfold lowN topN; simp
theorem topN_of_low {a n : Nat} (h : lowN a n = 0) : topN a n = a := by have := topN_low a n; omega
/-- Is it a right prefix? -/
def rightP (a : Nat) (n : Int) : Bool := decide (0 ≤ n) && (decide (n ≤ 32) && lowN a n.toNat == 0)
theorem rightP_iff (a : Nat) (n : Int) : rightP a n = true ↔ 0 ≤ n ∧ n ≤ 32 ∧ lowN a n.toNat = 0 := by
  simp [rightP]
theorem mask_shl {n : Nat} (h0 : 0 < n) (h : n ≤ 32) : bShl .u32 4294967295 ((32 : Int) - (n : Int)) = (maskN n : Int) := by
  unfold bShl
  rw [show ((32 : Int) - (n : Int)).toNat = 32 - n by omega, Nat.min_eq_left (by show 32 - n ≤ 32; omega)]
  have hp : 0 < 2 ^ (32 - n) := Nat.two_pow_pos _
  have hle := pow_le32 (show 32 - n ≤ 32 by omega)
  have e : (4294967295 : Int) * 2 ^ (32 - n) = ((4294967295 * 2 ^ (32 - n) : Nat) : Int) := by simp
  rw [e, IntKind.wrap_u32]
  unfold maskN
  have hd : 4294967296 = 2 ^ n * 2 ^ (32 - n) := by rw [← Nat.pow_add, show n + (32 - n) = 32 by omega]
  have h2 : 4294967295 * 2 ^ (32 - n) = 4294967296 - 2 ^ (32 - n) + 4294967296 * (2 ^ (32 - n) - 1) := by
    have : 4294967296 * (2 ^ (32 - n) - 1) = 4294967296 * 2 ^ (32 - n) - 4294967296 := by rw [Nat.mul_sub, Nat.mul_one]
    omega
  rw [h2]
  omega
/-- One bit more. -/
theorem mask_or {i : Nat} (h : i < 32) : bOr .u32 (maskN i : Int) (bShl .u32 1 ((31 - i : Nat) : Int)) = (maskN (i + 1) : Int) := by
  have hp : 0 < 2 ^ (31 - i) := Nat.two_pow_pos _
  have hle := pow_le32 (show 31 - i ≤ 32 by omega)
  have hlt : 2 ^ (31 - i) < 4294967296 := Nat.lt_of_le_of_lt (Nat.pow_le_pow_right (by omega) (show 31 - i ≤ 31 by omega)) (by decide)
  have e1 : bShl .u32 1 ((31 - i : Nat) : Int) = ((2 ^ (31 - i) : Nat) : Int) := by
    unfold bShl
    rw [Int.toNat_natCast, Nat.min_eq_left (by show 31 - i ≤ 32; omega), Int.one_mul]
    have e : (2 : Int) ^ (31 - i) = ((2 ^ (31 - i) : Nat) : Int) := by simp
    rw [e]
    exact wu32 (by omega) (by omega)
  rw [e1, bOr_nat .u32 _ _ (maskN_lt i) hlt rfl]
  have hs : 2 ^ (32 - i) = 2 * 2 ^ (31 - i) := by rw [show 32 - i = (31 - i) + 1 by omega, Nat.pow_succ, Nat.mul_comm]
  have hle2 := pow_le32 (show 32 - i ≤ 32 by omega)
  rw [maskN_eq (by omega : i ≤ 32), ← Nat.shiftLeft_eq, ← Nat.shiftLeft_add_eq_or_of_lt (by omega), Nat.shiftLeft_eq, ← maskN_eq (by omega)]
  unfold maskN
  rw [show 32 - (i + 1) = 31 - i by omega]
  omega
theorem maskN_zero : maskN 0 = 0 := rfl
end Go.Sp
