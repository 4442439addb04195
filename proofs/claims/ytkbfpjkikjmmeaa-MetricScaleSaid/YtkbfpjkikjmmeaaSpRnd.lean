/-
  Sums of costs: what a float nearest to a whole number of the least units is.
-/
import Derived.Test.YtkbfpjkikjmmeaaSpDecO
namespace Go.Sp
set_option linter.unusedVariables false
set_option linter.unusedSimpArgs false
/-- A cost in least units. -/
def val (x : Nat) : Nat := fMag x * 2 ^ fExp x
/-- n by 2^d, to the nearest, between two to the even one. -/
def rev (n d : Nat) : Nat := n / 2 ^ d + (if 2 ^ d < 2 * (n % 2 ^ d) ∨ (2 ^ d = 2 * (n % 2 ^ d) ∧ n / 2 ^ d % 2 = 1) then 1 else 0)
/-- The float nearest to so many least units. -/
def rnd (n : Nat) : Nat := min ((n.log2 - 52) * 4503599627370496 + rev n (n.log2 - 52)) fInf
theorem rev_zero (n : Nat) : rev n 0 = n := by
  unfold rev
  simp [Nat.mod_one]
theorem rev_le {n m d : Nat} (h : n ≤ m) : rev n d ≤ rev m d := by
  unfold rev
  have hp : 0 < 2 ^ d := Nat.two_pow_pos d
  have hd := Nat.div_le_div_right (c := 2 ^ d) h
  have h1 := Nat.div_add_mod n (2 ^ d)
  have h2 := Nat.div_add_mod m (2 ^ d)
  generalize 2 ^ d = g at *
  by_cases he : n / g = m / g
  · rw [he] at h1 ⊢
    have hr : n % g ≤ m % g := by omega
    split
    · rename_i h3
      rw [if_pos]
      · exact Nat.le_refl _
      · rcases h3 with h3 | ⟨h3, h4⟩
        · left; omega
        · by_cases h5 : m % g = n % g
          · right; rw [h5]; exact ⟨h3, h4⟩
          · left; omega
    · split <;> omega
  · have : n / g < m / g := by omega
    split <;> split <;> omega
theorem rev_exact {a d : Nat} : rev (a * 2 ^ d) d = a := by
  unfold rev
  rw [Nat.mul_div_cancel _ (Nat.two_pow_pos d), Nat.mul_mod_left]
  have := Nat.two_pow_pos d
  rw [if_neg (by omega)]; rfl
theorem log2_lt' (n : Nat) : n < 2 ^ (n.log2 + 1) := Nat.lt_log2_self
theorem rnd_mono {n m : Nat} (h : n ≤ m) : rnd n ≤ rnd m := by
  unfold rnd
  have key : (n.log2 - 52) * 4503599627370496 + rev n (n.log2 - 52) ≤ (m.log2 - 52) * 4503599627370496 + rev m (m.log2 - 52) := by
    by_cases hn : n = 0
    · subst hn
      have : rev 0 (Nat.log2 0 - 52) = 0 := by unfold rev; simp
      rw [this]; simp
    have hl : n.log2 ≤ m.log2 := by
      have hm : m ≠ 0 := by omega
      exact (Nat.le_log2 hm).2 (Nat.le_trans (Nat.log2_self_le hn) h)
    by_cases he : n.log2 - 52 = m.log2 - 52
    · rw [he]
      have := rev_le (d := m.log2 - 52) h
      omega
    · have hlt : n.log2 - 52 + 1 ≤ m.log2 - 52 := by omega
      have hm : m ≠ 0 := by omega
      -- above
      have h1 : rev n (n.log2 - 52) ≤ 9007199254740992 := by
        have h2 : n / 2 ^ (n.log2 - 52) < 9007199254740992 := by
          apply Nat.div_lt_of_lt_mul
          have h3 := log2_lt' n
          have h4 : 2 ^ (n.log2 - 52) * 9007199254740992 = 2 ^ (n.log2 - 52 + 53) := by rw [Nat.pow_add]
          rw [h4]
          exact Nat.lt_of_lt_of_le h3 (Nat.pow_le_pow_right (by omega) (by omega))
        unfold rev
        split <;> omega
      have h2 : 4503599627370496 ≤ rev m (m.log2 - 52) := by
        have h3 : 4503599627370496 ≤ m / 2 ^ (m.log2 - 52) := by
          rw [Nat.le_div_iff_mul_le (Nat.two_pow_pos _)]
          have h4 := Nat.log2_self_le hm
          have h5 : 4503599627370496 * 2 ^ (m.log2 - 52) = 2 ^ (52 + (m.log2 - 52)) := by rw [Nat.pow_add]
          rw [h5, show 52 + (m.log2 - 52) = m.log2 by omega]
          exact h4
        unfold rev
        omega
      have h3 := Nat.mul_le_mul_right 4503599627370496 hlt
      rw [Nat.add_mul] at h3
      omega
  omega
theorem rnd_val {x : Nat} (h : x < 9218868437227405312) : rnd (val x) = x := by
  unfold rnd val fMag fExp fInf
  by_cases hx : x < 4503599627370496
  · rw [if_pos hx, Nat.div_eq_of_lt hx, show 0 - 1 = 0 from rfl, Nat.pow_zero, Nat.mul_one]
    have hl : x.log2 - 52 = 0 := by
      by_cases h0 : x = 0
      · subst h0; decide
      · have : x.log2 < 52 := (Nat.log2_lt h0).2 (by omega)
        omega
    rw [hl, rev_zero]
    omega
  · rw [if_neg hx]
    have hq : 1 ≤ x / 4503599627370496 := (Nat.le_div_iff_mul_le (by omega)).2 (by omega)
    have hm := Nat.mod_lt x (show 0 < 4503599627370496 by omega)
    have hdm := Nat.div_add_mod x 4503599627370496
    generalize x / 4503599627370496 = q at *
    generalize x % 4503599627370496 = r at *
    have hne : (4503599627370496 + r) * 2 ^ (q - 1) ≠ 0 := Nat.mul_ne_zero (by omega) (Nat.ne_of_gt (Nat.two_pow_pos _))
    have hl : ((4503599627370496 + r) * 2 ^ (q - 1)).log2 = 52 + (q - 1) := by
      apply Nat.le_antisymm
      · have : ((4503599627370496 + r) * 2 ^ (q - 1)).log2 < 52 + (q - 1) + 1 := by
          rw [Nat.log2_lt hne, show 52 + (q - 1) + 1 = 53 + (q - 1) by omega, Nat.pow_add]
          exact Nat.mul_lt_mul_of_pos_right (by omega) (Nat.two_pow_pos _)
        omega
      · rw [Nat.le_log2 hne, Nat.pow_add]
        exact Nat.mul_le_mul_right _ (by omega)
    rw [hl, show 52 + (q - 1) - 52 = q - 1 by omega, rev_exact]
    omega
theorem cut_even (n d : Nat) (hd : d ≤ n.log2 + 2) : Ieee.Toward.even.cut false n d = rev n d := by
  unfold Ieee.Toward.cut rev
  simp only [Nat.min_eq_left hd, Nat.one_shiftLeft]
  congr 1
  by_cases h1 : 2 ^ d < 2 * (n % 2 ^ d)
  · simp [h1]
  · by_cases h2 : 2 ^ d = 2 * (n % 2 ^ d) ∧ n / 2 ^ d % 2 = 1
    · rw [if_pos (.inr h2)]
      simp [h1, ← h2.1, h2.2]
    · rw [if_neg (by rintro (h | h); exact h1 h; exact h2 h)]
      simp only [h1, decide_false, Bool.false_or]
      cases h3 : (2 ^ d == 2 * (n % 2 ^ d) && n / 2 ^ d % 2 == 1) with
      | false => rfl
      | true => simp at h3; exact absurd h3 h2
theorem nearest_units (n : Nat) : Ieee.double.nearest false n (-1074) = rnd n := by
  unfold Ieee.Format.nearest rnd
  have e1 : Ieee.double.fractionBits = 52 := rfl
  simp only [e1, d_least, d_binade, d_inf, Ieee.Format.word, Bool.false_eq_true, if_false]
  by_cases h0 : n = 0
  · rw [if_pos h0, h0]
    have : rev 0 (Nat.log2 0 - 52) = 0 := by unfold rev; simp
    rw [this]; simp
  rw [if_neg h0]
  unfold fInf
  by_cases hL : n.log2 ≤ 52
  · have hm : max ((-1074 : Int) + n.log2 - (52 : Nat)) (-1074) = -1074 := by omega
    rw [hm]
    have : n.log2 - 52 = 0 := by omega
    rw [this]
    simp only [Int.sub_self, Int.toNat_zero, Nat.shiftLeft_zero]
    rw [cut_even n 0 (by omega)]
  · have hm : max ((-1074 : Int) + n.log2 - (52 : Nat)) (-1074) = -1074 + (n.log2 - 52 : Nat) := by omega
    rw [hm]
    have h1 : ((-1074 : Int) - (-1074 + (n.log2 - 52 : Nat))).toNat = 0 := by omega
    have h2 : ((-1074 : Int) + (n.log2 - 52 : Nat) - -1074).toNat = n.log2 - 52 := by omega
    rw [h1, h2, Nat.shiftLeft_zero, cut_even n _ (by omega)]
theorem rev_scale (m e k : Nat) : rev (m * 2 ^ k) (e + k) = rev m e := by
  unfold rev
  have hk := Nat.two_pow_pos k
  rw [Nat.pow_add, Nat.mul_div_mul_right _ _ hk, Nat.mul_mod_mul_right]
  congr 1
  have h1 : (2 ^ e * 2 ^ k < 2 * (m % 2 ^ e * 2 ^ k)) ↔ 2 ^ e < 2 * (m % 2 ^ e) := by
    rw [← Nat.mul_assoc]; exact Nat.mul_lt_mul_right hk
  have h2 : (2 ^ e * 2 ^ k = 2 * (m % 2 ^ e * 2 ^ k)) ↔ 2 ^ e = 2 * (m % 2 ^ e) := by
    rw [← Nat.mul_assoc]; exact Nat.mul_left_inj (by omega)
  simp only [h1, h2]
theorem log2_scale {m : Nat} (h : m ≠ 0) (k : Nat) : (m * 2 ^ k).log2 = m.log2 + k := by
  have hne : m * 2 ^ k ≠ 0 := Nat.mul_ne_zero h (Nat.ne_of_gt (Nat.two_pow_pos _))
  apply Nat.le_antisymm
  · have : (m * 2 ^ k).log2 < m.log2 + k + 1 := by
      rw [Nat.log2_lt hne, show m.log2 + k + 1 = (m.log2 + 1) + k by omega, Nat.pow_add]
      exact Nat.mul_lt_mul_of_pos_right (log2_lt' m) (Nat.two_pow_pos _)
    omega
  · rw [Nat.le_log2 hne, Nat.pow_add]
    exact Nat.mul_le_mul_right _ (Nat.log2_self_le h)
theorem nearest_scale (m k : Nat) : Ieee.double.nearest false m (-1074 + (k : Int)) = rnd (m * 2 ^ k) := by
  unfold Ieee.Format.nearest rnd
  have e1 : Ieee.double.fractionBits = 52 := rfl
  simp only [e1, d_least, d_binade, d_inf, Ieee.Format.word, Bool.false_eq_true, if_false]
  by_cases h0 : m = 0
  · rw [if_pos h0, h0, Nat.zero_mul]
    have : rev 0 (Nat.log2 0 - 52) = 0 := by unfold rev; simp
    rw [this]; simp
  rw [if_neg h0, log2_scale h0]
  unfold fInf
  have hm : max ((-1074 : Int) + (k : Int) + m.log2 - (52 : Nat)) (-1074) = -1074 + (m.log2 + k - 52 : Nat) := by omega
  rw [hm]
  have h1 : ((-1074 : Int) + (k : Int) - (-1074 + (m.log2 + k - 52 : Nat))).toNat = k - (m.log2 + k - 52) := by omega
  have h2 : ((-1074 : Int) + (m.log2 + k - 52 : Nat) - -1074).toNat = m.log2 + k - 52 := by omega
  have h3 : ((-1074 : Int) + (m.log2 + k - 52 : Nat) - (-1074 + (k : Int))).toNat = (m.log2 + k - 52) - k := by omega
  rw [h1, h2, h3]
  congr 1
  congr 1
  by_cases hd : m.log2 + k - 52 ≤ k
  · rw [show m.log2 + k - 52 - k = 0 by omega, cut_even _ 0 (by omega), rev_zero, Nat.shiftLeft_eq]
    have : m * 2 ^ k = m * 2 ^ (k - (m.log2 + k - 52)) * 2 ^ (m.log2 + k - 52) := by
      rw [Nat.mul_assoc, ← Nat.pow_add, show k - (m.log2 + k - 52) + (m.log2 + k - 52) = k by omega]
    rw [this, rev_exact]
  · rw [show k - (m.log2 + k - 52) = 0 by omega, Nat.shiftLeft_zero, cut_even _ _ (by omega)]
    have := rev_scale m (m.log2 + k - 52 - k) k
    rw [show m.log2 + k - 52 - k + k = m.log2 + k - 52 by omega] at this
    exact this.symm
theorem add_fin {a b : Nat} (ha : a < 9218868437227405312) (hb : b < 9218868437227405312) : Ieee.double.add a b = some (rnd (val a + val b)) := by
  unfold Ieee.Format.add
  rw [read_pos ha, read_pos hb]
  unfold Ieee.Datum.sum
  simp only [Ieee.signed, Bool.false_eq_true, if_false, Option.map_some, Bool.and_false]
  have hmin : min ((-1074 : Int) + (fExp a : Int)) (-1074 + (fExp b : Int)) = -1074 + (min (fExp a) (fExp b) : Nat) := by omega
  rw [hmin]
  have h1 : ((-1074 : Int) + (fExp a : Int) - (-1074 + (min (fExp a) (fExp b) : Nat))).toNat = fExp a - min (fExp a) (fExp b) := by omega
  have h2 : ((-1074 : Int) + (fExp b : Int) - (-1074 + (min (fExp a) (fExp b) : Nat))).toNat = fExp b - min (fExp a) (fExp b) := by omega
  rw [h1, h2, Nat.shiftLeft_eq, Nat.shiftLeft_eq]
  have hnn : ¬ ((fMag a * 2 ^ (fExp a - min (fExp a) (fExp b)) : Nat) : Int) + ((fMag b * 2 ^ (fExp b - min (fExp a) (fExp b)) : Nat) : Int) < 0 := by omega
  have hneg : (if ((fMag a * 2 ^ (fExp a - min (fExp a) (fExp b)) : Nat) : Int) + ((fMag b * 2 ^ (fExp b - min (fExp a) (fExp b)) : Nat) : Int) = 0 then false else decide (((fMag a * 2 ^ (fExp a - min (fExp a) (fExp b)) : Nat) : Int) + ((fMag b * 2 ^ (fExp b - min (fExp a) (fExp b)) : Nat) : Int) < 0)) = false := by
    rw [decide_eq_false hnn]; split <;> rfl
  have habs : (((fMag a * 2 ^ (fExp a - min (fExp a) (fExp b)) : Nat) : Int) + ((fMag b * 2 ^ (fExp b - min (fExp a) (fExp b)) : Nat) : Int)).natAbs = fMag a * 2 ^ (fExp a - min (fExp a) (fExp b)) + fMag b * 2 ^ (fExp b - min (fExp a) (fExp b)) := by omega
  rw [habs]
  congr 1
  show Ieee.double.write _ = _
  have hw : ∀ (s : Bool) (n : Nat), s = false → Ieee.double.write (.number s n (-1074 + ((min (fExp a) (fExp b) : Nat) : Int))) = rnd (n * 2 ^ min (fExp a) (fExp b)) := fun s n h => by
    subst h; exact nearest_scale n _
  rw [hw _ _ (by simpa using hneg)]
  congr 1
  unfold val
  rw [Nat.add_mul, Nat.mul_assoc, Nat.mul_assoc, ← Nat.pow_add, ← Nat.pow_add, Nat.sub_add_cancel (Nat.min_le_left _ _), Nat.sub_add_cancel (Nat.min_le_right _ _)]
/-- The sum of two costs. -/
def addB (a b : Nat) : Nat := if a < 9218868437227405312 ∧ b < 9218868437227405312 then rnd (val a + val b) else 9218868437227405312
theorem fl_add {a b : Nat} (ha : a ≤ fInf) (hb : b ≤ fInf) : floatBits .add .f64 a b = some (addB a b) := by
  show Ieee.double.add a b = _
  unfold addB
  unfold fInf at ha hb
  by_cases h1 : a < 9218868437227405312
  · by_cases h2 : b < 9218868437227405312
    · rw [if_pos ⟨h1, h2⟩, add_fin h1 h2]
    · obtain rfl : b = 9218868437227405312 := by omega
      rw [if_neg (by omega)]
      unfold Ieee.Format.add
      rw [read_pos h1, read_inf]
      rfl
  · obtain rfl : a = 9218868437227405312 := by omega
    rw [if_neg (by omega)]
    unfold Ieee.Format.add
    rw [read_inf]
    by_cases h2 : b < 9218868437227405312
    · rw [read_pos h2]; rfl
    · obtain rfl : b = 9218868437227405312 := by omega
      rw [read_inf]; rfl
theorem rnd_le (n : Nat) : rnd n ≤ fInf := Nat.min_le_right _ _
theorem addB_le (a b : Nat) : addB a b ≤ fInf := by
  unfold addB
  split
  · exact rnd_le _
  · exact Nat.le_refl _
theorem addB_comm (a b : Nat) : addB a b = addB b a := by
  unfold addB
  by_cases h : a < 9218868437227405312 ∧ b < 9218868437227405312
  · rw [if_pos h, if_pos ⟨h.2, h.1⟩, Nat.add_comm]
  · rw [if_neg h, if_neg (fun k => h ⟨k.2, k.1⟩)]
theorem val_zero : val 0 = 0 := by unfold val fMag; simp
theorem addB_zero {c : Nat} (h : c ≤ fInf) : addB 0 c = c := by
  unfold addB
  unfold fInf at h
  by_cases h1 : c < 9218868437227405312
  · rw [if_pos ⟨by omega, h1⟩, val_zero, Nat.zero_add, rnd_val h1]
  · rw [if_neg (by omega)]; omega
theorem val_lt {x y : Nat} (h : x < y) : val x < val y := by
  have := mag_exp_lt h
  have hp := Nat.two_pow_pos (min (fExp x) (fExp y))
  have h2 := (Nat.mul_lt_mul_right hp).2 this
  rw [Nat.mul_assoc, Nat.mul_assoc, ← Nat.pow_add, ← Nat.pow_add, Nat.sub_add_cancel (Nat.min_le_left _ _), Nat.sub_add_cancel (Nat.min_le_right _ _)] at h2
  exact h2
theorem val_le {x y : Nat} (h : x ≤ y) : val x ≤ val y := by
  rcases Nat.lt_or_eq_of_le h with h | h
  · exact Nat.le_of_lt (val_lt h)
  · rw [h]; exact Nat.le_refl _
theorem addB_mono {a b c d : Nat} (h1 : a ≤ c) (h2 : b ≤ d) : addB a b ≤ addB c d := by
  unfold addB
  by_cases h : c < 9218868437227405312 ∧ d < 9218868437227405312
  · rw [if_pos h, if_pos ⟨by omega, by omega⟩]
    exact rnd_mono (Nat.add_le_add (val_le h1) (val_le h2))
  · rw [if_neg h]
    split
    · exact rnd_le _
    · exact Nat.le_refl _
theorem addB_ge {a b : Nat} (ha : a ≤ fInf) : a ≤ addB a b := by
  have := addB_mono (Nat.le_refl a) (Nat.zero_le b)
  rw [addB_comm, addB_zero ha] at this
  exact this
theorem cleanN_id {s : Nat} (h : s ≤ fInf) : cleanN s = s := by
  unfold cleanN
  have h0 : fGeq s 0 = true := by
    unfold fGeq
    rw [order_pos h (by unfold fInf; omega)]
    rcases Nat.eq_zero_or_pos s with h | h
    · subst h; rw [show compare ((0 : Nat) : Int) ((0 : Nat) : Int) = .eq from rfl]; rfl
    · rw [cmp_gt (by omega)]; rfl
  rw [if_pos h0, fEql_pos h (by unfold fInf; omega)]
  by_cases hs : s = 0
  · rw [hs]; rfl
  · rw [decide_eq_false hs]; rfl
/-- A float that may be a cost: its bits lie below those of all that end, or it is nought with a sign. -/
theorem geq_zero {x : Nat} (hx : x < 18446744073709551616) (h : fGeq x 0 = true) : x ≤ fInf ∨ x = 9223372036854775808 := by
  by_cases h1 : x ≤ fInf
  · exact .inl h1
  right
  unfold fInf at h1
  have hrd0 : Ieee.double.read 0 = .number false 0 (-1074) := by decide +kernel
  unfold fGeq Ieee.Format.order at h
  rw [hrd0] at h
  by_cases h2 : x < 9223372036854775808
  · obtain ⟨t, ht⟩ := read_nan (x := x) (by omega) h2
    rw [ht] at h
    simp [Ieee.Datum.order] at h
  · rcases read_neg (x := x) (by omega) hx with ⟨m, e, hr⟩ | hr | ⟨t, hr⟩
    · -- a number below nought, or nought
      have hr0 := hr
      rw [hr] at h
      unfold Ieee.Datum.order at h
      simp only [Ieee.signed, if_true, Bool.false_eq_true, if_false, Nat.zero_shiftLeft] at h
      have hm : m = 0 := by
        apply Classical.byContradiction
        intro hm
        have hp : 0 < m <<< (e - min e (-1074)).toNat := by
          rw [Nat.shiftLeft_eq]
          exact Nat.mul_pos (by omega) (Nat.two_pow_pos _)
        rw [cmp_lt (show -((m <<< (e - min e (-1074)).toNat : Nat) : Int) < ((0 : Nat) : Int) by omega)] at h
        simp at h
      subst hm
      unfold Ieee.Format.read at hr0
      rw [d_sign, d_binade, d_inf] at hr0
      dsimp only at hr0
      have hmod : x % 9223372036854775808 = x - 9223372036854775808 := by omega
      rw [hmod] at hr0
      split at hr0
      · simp only [Ieee.Datum.number.injEq] at hr0
        omega
      · split at hr0
        · simp only [Ieee.Datum.number.injEq] at hr0
          omega
        · split at hr0 <;> cases hr0
    · rw [hr] at h; simp [Ieee.Datum.order] at h
    · rw [hr] at h; simp [Ieee.Datum.order] at h
end Go.Sp
