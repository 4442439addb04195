/-
  Plain laws on bytes and numbers.
-/
import Derived.Test.YtflffabmfoldeaaSpNum
namespace Go.Sp
set_option linter.unusedVariables false
set_option linter.unusedSimpArgs false
theorem be_foldl (l : List UInt8) : ∀ a : Nat, l.foldl (fun x b => x * 256 + b.toNat) a = a * 256 ^ l.length + be l := by
  induction l with
  | nil => intro a; simp [be]
  | cons b l ih =>
    intro a
    have h0 := ih (0 * 256 + b.toNat)
    simp only [List.foldl_cons, List.length_cons, ih (a * 256 + b.toNat), be, Nat.pow_succ]
    simp only [be] at h0
    rw [h0]
    simp only [Nat.zero_mul, Nat.zero_add, Nat.add_mul, Nat.mul_assoc, Nat.mul_comm 256]
    omega
theorem be_cons (b : UInt8) (l : List UInt8) : be (b :: l) = b.toNat * 256 ^ l.length + be l := by
  have := be_foldl l (0 * 256 + b.toNat)
  simp only [be, List.foldl_cons]
  rw [this]; simp [be]
theorem be_beB (n k : Nat) : be (beB n k) = n % 256 ^ k := by
  induction k with
  | zero => simp [beB, be, Nat.mod_one]
  | succ k ih =>
    have h1 : n % 256 ^ (k + 1) = n % 256 ^ k + 256 ^ k * (n / 256 ^ k % 256) := by rw [Nat.pow_succ, Nat.mod_mul]
    have h2 : (UInt8.ofNat (n / 256 ^ k)).toNat = n / 256 ^ k % 256 := UInt8.toNat_ofNat'
    rw [beB, be_cons, ih, beB_length, h1, h2, Nat.mul_comm, Nat.add_comm]
theorem beB_mod (n k : Nat) : beB (n % 256 ^ k) k = beB n k := by
  have : ∀ (j m : Nat), j ≤ k → beB (n % 256 ^ k) j = beB n j := by
    intro j
    induction j with
    | zero => intro _ _; rfl
    | succ j ih =>
      intro m hj
      rw [beB, beB, ih m (by omega)]
      congr 1
      apply UInt8.toNat_inj.1
      simp only [UInt8.toNat_ofNat']
      obtain ⟨d, rfl⟩ : ∃ d, k = j + 1 + d := ⟨k - (j + 1), by omega⟩
      rw [Nat.pow_add, Nat.pow_succ]
      rw [show 256 ^ j * 256 * 256 ^ d = 256 ^ j * (256 * 256 ^ d) by rw [Nat.mul_assoc]]
      rw [Nat.mod_mul_right_div_self, Nat.mod_mul_right_mod]
  exact this k 0 (Nat.le_refl _)
theorem toNat_ofInt64 (n : Int) : (BitVec.ofInt 64 n).toNat = (n % 18446744073709551616).toNat := by
  simp [BitVec.toNat_ofInt]
theorem bAnd64_low (n : Int) (k : Nat) (hk : k ≤ 32) : bAnd .i64 n ((2 ^ k - 1 : Nat) : Int) = n % ((2 ^ k : Nat) : Int) := by
  have hle : 2 ^ k ≤ 2 ^ 32 := Nat.pow_le_pow_right (by omega) hk
  have e32 : (2 : Nat) ^ 32 = 4294967296 := by decide
  have hpos : 0 < 2 ^ k := Nat.two_pow_pos k
  have hdvd : (((2 ^ k : Nat) : Int)) ∣ 18446744073709551616 := by
    have : 2 ^ k * 2 ^ (64 - k) = 18446744073709551616 := by
      rw [← Nat.pow_add, show k + (64 - k) = 64 by omega]
    exact Int.natCast_dvd_natCast.2 ⟨_, this.symm⟩
  unfold bAnd
  show IntKind.i64.wrap (((BitVec.ofInt 64 n) &&& (BitVec.ofInt 64 ((2 ^ k - 1 : Nat) : Int))).toNat : Int) = _
  rw [BitVec.toNat_and, toNat_ofInt64, toNat_ofInt64]
  have h1 : ((((2 ^ k - 1 : Nat) : Int)) % 18446744073709551616).toNat = 2 ^ k - 1 := by omega
  rw [h1, Nat.and_two_pow_sub_one_eq_mod]
  have hm : ((((n % 18446744073709551616).toNat % 2 ^ k : Nat)) : Int) = n % ((2 ^ k : Nat) : Int) := by
    rw [Int.natCast_emod, Int.toNat_of_nonneg (by omega), Int.emod_emod_of_dvd _ hdvd]
  have hlt := Nat.mod_lt (n % 18446744073709551616).toNat hpos
  rw [w64 (by omega) (by omega), hm]
theorem lowB_be (n : Int) (k : Nat) (hk : k ≤ 8) : (be (beB (n % 18446744073709551616).toNat k) : Int) = n % ((256 ^ k : Nat) : Int) := by
  have hdvd : (((256 ^ k : Nat) : Int)) ∣ 18446744073709551616 := by
    have : 256 ^ k * 256 ^ (8 - k) = 18446744073709551616 := by
      rw [← Nat.pow_add, show k + (8 - k) = 8 by omega]
    exact Int.natCast_dvd_natCast.2 ⟨_, this.symm⟩
  rw [be_beB, Int.natCast_emod, Int.toNat_of_nonneg (by omega), Int.emod_emod_of_dvd _ hdvd]
theorem bXor_u8 (x y : Int) : ∃ c : UInt8, bXor .u8 x y = (c.toNat : Int) := by
  unfold bXor
  rw [IntKind.wrap_u8]
  refine ⟨UInt8.ofNat (((BitVec.ofInt IntKind.u8.bits x ^^^ BitVec.ofInt IntKind.u8.bits y).toNat : Int) % 256).toNat, ?_⟩
  rw [UInt8.toNat_ofNat']
  omega
theorem bOr_u8 (x y : Int) : ∃ c : UInt8, bOr .u8 x y = (c.toNat : Int) := by
  unfold bOr
  rw [IntKind.wrap_u8]
  refine ⟨UInt8.ofNat (((BitVec.ofInt IntKind.u8.bits x ||| BitVec.ofInt IntKind.u8.bits y).toNat : Int) % 256).toNat, ?_⟩
  rw [UInt8.toNat_ofNat']
  omega
theorem wrap_u8_byte (x : Int) : ∃ c : UInt8, IntKind.u8.wrap x = (c.toNat : Int) := by
  rw [IntKind.wrap_u8]
  refine ⟨UInt8.ofNat (x % 256).toNat, ?_⟩
  rw [UInt8.toNat_ofNat']
  omega
theorem bv_set (bs : List UInt8) (i : Nat) (c : UInt8) : (bv bs).set i (Value.int .u8 (c.toNat : Int)) = bv (bs.set i c) := by
  simp [bv, List.map_set]
end Go.Sp
