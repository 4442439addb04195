/-
  Costs lie as their bits do.
-/
import Derived.Test.YtkbfpjkikjmmeaaSpFlo
namespace Go.Sp
set_option linter.unusedVariables false
set_option linter.unusedSimpArgs false
/-- The bits of a cost without an end. -/
def fInf : Nat := 9218868437227405312
theorem d_least : Ieee.double.leastPlace = -1074 := by decide
theorem d_binade : Ieee.double.binade = 4503599627370496 := by decide
theorem d_inf : Ieee.double.infRung = 9218868437227405312 := by decide
theorem d_sign : Ieee.double.signWeight = 9223372036854775808 := by decide
def fMag (x : Nat) : Nat := if x < 4503599627370496 then x else 4503599627370496 + x % 4503599627370496
def fExp (x : Nat) : Nat := x / 4503599627370496 - 1
theorem read_pos {x : Nat} (h : x < 9218868437227405312) : Ieee.double.read x = .number false (fMag x) (-1074 + (fExp x : Int)) := by
  unfold Ieee.Format.read
  rw [d_least, d_binade, d_inf, d_sign]
  have h1 : x / 9223372036854775808 = 0 := Nat.div_eq_of_lt (by omega)
  have h2 : x % 9223372036854775808 = x := Nat.mod_eq_of_lt (by omega)
  rw [h1, h2]
  by_cases hx : x < 4503599627370496
  · have h3 : fExp x = 0 := by unfold fExp; omega
    simp [hx, fMag, h3]
  · simp [hx, fMag, h, fExp]
theorem read_inf : Ieee.double.read 9218868437227405312 = .infinity false := by decide +kernel
theorem mag_exp_lt {x y : Nat} (h : x < y) : fMag x * 2 ^ (fExp x - min (fExp x) (fExp y)) < fMag y * 2 ^ (fExp y - min (fExp x) (fExp y)) := by
  have hle : fExp x ≤ fExp y := by unfold fExp; omega
  rw [show fExp x - min (fExp x) (fExp y) = 0 by omega, show fExp y - min (fExp x) (fExp y) = fExp y - fExp x by omega, Nat.pow_zero, Nat.mul_one]
  by_cases he : fExp x = fExp y
  · rw [he, Nat.sub_self, Nat.pow_zero, Nat.mul_one]
    unfold fExp at he
    unfold fMag
    split <;> split <;> omega
  · have h1 : fMag x < 9007199254740992 := by unfold fMag; split <;> omega
    have h2 : 4503599627370496 ≤ fMag y := by unfold fMag; unfold fExp at he hle; split <;> omega
    have h3 : 2 ≤ 2 ^ (fExp y - fExp x) := by
      have : 2 ^ 1 ≤ 2 ^ (fExp y - fExp x) := Nat.pow_le_pow_right (by omega) (by omega)
      simpa using this
    have h4 : fMag y * 2 ≤ fMag y * 2 ^ (fExp y - fExp x) := Nat.mul_le_mul_left _ h3
    omega
theorem cmp_lt {a b : Int} (h : a < b) : compare a b = .lt := by
  show compareOfLessAndEq a b = _
  unfold compareOfLessAndEq
  rw [if_pos h]
theorem cmp_eq (a : Int) : compare a a = .eq := by
  show compareOfLessAndEq a a = _
  unfold compareOfLessAndEq
  rw [if_neg (Int.lt_irrefl a), if_pos rfl]
theorem cmp_gt {a b : Int} (h : b < a) : compare a b = .gt := by
  show compareOfLessAndEq a b = _
  unfold compareOfLessAndEq
  rw [if_neg (by omega), if_neg (by omega)]
theorem order_fin {x y : Nat} (hx : x < 9218868437227405312) (hy : y < 9218868437227405312) : Ieee.double.order x y = some (compare (x : Int) (y : Int)) := by
  unfold Ieee.Format.order
  rw [read_pos hx, read_pos hy]
  simp only [Ieee.Datum.order, Ieee.signed, Bool.false_eq_true, if_false, Nat.shiftLeft_eq]
  have e1 : (-1074 + (fExp x : Int) - min (-1074 + (fExp x : Int)) (-1074 + (fExp y : Int))).toNat = fExp x - min (fExp x) (fExp y) := by omega
  have e2 : (-1074 + (fExp y : Int) - min (-1074 + (fExp x : Int)) (-1074 + (fExp y : Int))).toNat = fExp y - min (fExp x) (fExp y) := by omega
  rw [e1, e2]
  rcases Nat.lt_trichotomy x y with h | h | h
  · rw [cmp_lt (Int.ofNat_lt.2 (mag_exp_lt h)), cmp_lt (Int.ofNat_lt.2 h)]
  · subst h; rw [cmp_eq, cmp_eq]
  · have := mag_exp_lt h
    rw [Nat.min_comm] at this
    rw [cmp_gt (Int.ofNat_lt.2 this), cmp_gt (Int.ofNat_lt.2 h)]
theorem order_pos {x y : Nat} (hx : x ≤ fInf) (hy : y ≤ fInf) : Ieee.double.order x y = some (compare (x : Int) (y : Int)) := by
  unfold fInf at hx hy
  by_cases h1 : x = 9218868437227405312
  · subst h1
    by_cases h2 : y = 9218868437227405312
    · subst h2
      decide +kernel
    · have h3 : y < 9218868437227405312 := by omega
      unfold Ieee.Format.order
      rw [read_inf, read_pos h3, cmp_gt (Int.ofNat_lt.2 h3)]
      rfl
  · have h3 : x < 9218868437227405312 := by omega
    by_cases h2 : y = 9218868437227405312
    · subst h2
      unfold Ieee.Format.order
      rw [read_inf, read_pos h3, cmp_lt (Int.ofNat_lt.2 h3)]
      rfl
    · exact order_fin h3 (by omega)
theorem fLss_pos {x y : Nat} (hx : x ≤ fInf) (hy : y ≤ fInf) : fLss x y = decide (x < y) := by
  unfold fLss
  rw [order_pos hx hy]
  rcases Nat.lt_trichotomy x y with h | h | h
  · rw [cmp_lt (Int.ofNat_lt.2 h), decide_eq_true h]; rfl
  · subst h; rw [cmp_eq, decide_eq_false (by omega)]; rfl
  · rw [cmp_gt (Int.ofNat_lt.2 h), decide_eq_false (by omega)]; rfl
theorem fEql_pos {x y : Nat} (hx : x ≤ fInf) (hy : y ≤ fInf) : fEql x y = decide (x = y) := by
  unfold fEql
  rw [order_pos hx hy]
  rcases Nat.lt_trichotomy x y with h | h | h
  · rw [cmp_lt (Int.ofNat_lt.2 h), decide_eq_false (by omega)]; rfl
  · subst h; rw [cmp_eq, decide_eq_true rfl]; rfl
  · rw [cmp_gt (Int.ofNat_lt.2 h), decide_eq_false (by omega)]; rfl
theorem read_nan {x : Nat} (h : 9218868437227405312 < x) (h2 : x < 9223372036854775808) : ∃ t, Ieee.double.read x = .nan false t := by
  unfold Ieee.Format.read
  rw [d_least, d_binade, d_inf, d_sign]
  have h1 : x / 9223372036854775808 = 0 := Nat.div_eq_of_lt h2
  have h3 : x % 9223372036854775808 = x := Nat.mod_eq_of_lt h2
  rw [h1, h3]
  exact ⟨x - 9218868437227405312, by simp [show ¬ x < 4503599627370496 by omega, show ¬ x < 9218868437227405312 by omega, show ¬ x = 9218868437227405312 by omega]⟩
theorem read_neg {x : Nat} (h : 9223372036854775808 ≤ x) (h2 : x < 18446744073709551616) : (∃ m e, Ieee.double.read x = .number true m e) ∨ Ieee.double.read x = .infinity true ∨ ∃ t, Ieee.double.read x = .nan true t := by
  unfold Ieee.Format.read
  rw [d_least, d_binade, d_inf, d_sign]
  have h1 : x / 9223372036854775808 = 1 := by omega
  rw [h1]
  by_cases c1 : x % 9223372036854775808 < 4503599627370496
  · exact .inl ⟨_, _, by simp [c1]; exact ⟨rfl, rfl⟩⟩
  · by_cases c2 : x % 9223372036854775808 < 9218868437227405312
    · exact .inl ⟨_, _, by simp [c1, c2]; exact ⟨rfl, rfl⟩⟩
    · by_cases c3 : x % 9223372036854775808 = 9218868437227405312
      · exact .inr (.inl (by simp [c3]))
      · exact .inr (.inr ⟨_, by simp [c1, c2, c3]; rfl⟩)
end Go.Sp
