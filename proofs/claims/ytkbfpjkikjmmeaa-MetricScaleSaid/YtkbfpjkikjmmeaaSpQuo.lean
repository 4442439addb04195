/-
  Quotients of floats, products with whole numbers, whole parts.
-/
import Derived.Test.YtkbfpjkikjmmeaaSpDiv
namespace Go.Sp
set_option linter.unusedVariables false
set_option linter.unusedSimpArgs false
theorem cut_even_all (n d : Nat) : Ieee.Toward.even.cut false n d = rev n d := by
  by_cases h : d ≤ n.log2 + 2
  · exact cut_even n d h
  · have hn := log2_lt' n
    have h2 : 2 ^ (n.log2 + 2) = 2 * 2 ^ (n.log2 + 1) := by rw [Nat.pow_succ 2 (n.log2 + 1), Nat.mul_comm]
    have h3 : 2 ^ (n.log2 + 2) ≤ 2 ^ d := Nat.pow_le_pow_right (by omega) (by omega)
    unfold Ieee.Toward.cut rev
    simp only [Nat.min_eq_right (show n.log2 + 2 ≤ d by omega), Nat.one_shiftLeft]
    rw [Nat.div_eq_of_lt (show n < 2 ^ (n.log2 + 2) by omega), Nat.mod_eq_of_lt (show n < 2 ^ (n.log2 + 2) by omega), Nat.div_eq_of_lt (show n < 2 ^ d by omega), Nat.mod_eq_of_lt (show n < 2 ^ d by omega)]
    rw [if_neg (by omega)]
    have e1 : decide (2 ^ (n.log2 + 2) < 2 * n) = false := decide_eq_false (by omega)
    rw [e1]
    simp
/-- The float nearest to so many parts of a least unit, 2^D of which are one. -/
def rndD (n D : Nat) : Nat := min ((max (n.log2 - 52) D - D) * 4503599627370496 + rev n (max (n.log2 - 52) D)) fInf
theorem rndD_zero (n : Nat) : rndD n 0 = rnd n := by
  unfold rndD rnd
  rw [Nat.max_eq_left (Nat.zero_le _), Nat.sub_zero]
theorem nearest_gen (m K D : Nat) : Ieee.double.nearest false m (-1074 + (K : Int) - (D : Int)) = rndD (m * 2 ^ K) D := by
  unfold Ieee.Format.nearest rndD
  have e1 : Ieee.double.fractionBits = 52 := rfl
  simp only [e1, d_least, d_binade, d_inf, Ieee.Format.word, Bool.false_eq_true, if_false]
  by_cases h0 : m = 0
  · rw [if_pos h0, h0, Nat.zero_mul]
    have hz : ∀ d, rev 0 d = 0 := fun d => by unfold rev; simp
    have hl : Nat.log2 0 = 0 := by decide
    rw [hz, hl]; simp
  rw [if_neg h0, log2_scale h0]
  unfold fInf
  generalize hd : max (m.log2 + K - 52) D = d
  have hm : max ((-1074 : Int) + (K : Int) - (D : Int) + m.log2 - (52 : Nat)) (-1074) = -1074 + (d - D : Nat) := by omega
  rw [hm]
  have h1 : ((-1074 : Int) + (K : Int) - (D : Int) - (-1074 + (d - D : Nat))).toNat = K - d := by omega
  have h2 : ((-1074 : Int) + (d - D : Nat) - -1074).toNat = d - D := by omega
  have h3 : ((-1074 : Int) + (d - D : Nat) - (-1074 + (K : Int) - (D : Int))).toNat = d - K := by omega
  rw [h1, h2, h3, cut_even_all, Nat.shiftLeft_eq]
  congr 2
  by_cases hk : d ≤ K
  · rw [show d - K = 0 by omega, rev_zero]
    have : m * 2 ^ K = m * 2 ^ (K - d) * 2 ^ d := by rw [Nat.mul_assoc, ← Nat.pow_add, show K - d + d = K by omega]
    rw [this, rev_exact]
  · rw [show K - d = 0 by omega, Nat.pow_zero, Nat.mul_one]
    have := rev_scale m (d - K) K
    rw [show d - K + K = d by omega] at this
    exact this.symm
theorem rndD_scale (m D : Nat) : rndD (m * 2 ^ D) D = rnd m := by
  rw [← nearest_gen m D D, ← nearest_units]
  congr 1; omega
/-- The value of a rung. -/
theorem val_rung {k q : Nat} (hq : q ≤ 9007199254740992) (hk : k = 0 ∨ 4503599627370496 ≤ q) : val (k * 4503599627370496 + q) = q * 2 ^ k := by
  unfold val fMag fExp
  by_cases h : q < 4503599627370496
  · obtain rfl : k = 0 := by omega
    rw [if_pos (by omega), Nat.div_eq_of_lt (by omega)]
    simp
  · rw [if_neg (by omega)]
    by_cases h2 : q = 9007199254740992
    · subst h2
      have h3 : (k * 4503599627370496 + 9007199254740992) / 4503599627370496 = k + 2 := by omega
      have h4 : (k * 4503599627370496 + 9007199254740992) % 4503599627370496 = 0 := by omega
      rw [h3, h4, show k + 2 - 1 = k + 1 by omega, Nat.pow_succ, Nat.mul_comm (2 ^ k) 2, ← Nat.mul_assoc]
    · have h3 : (k * 4503599627370496 + q) / 4503599627370496 = k + 1 := by omega
      have h4 : (k * 4503599627370496 + q) % 4503599627370496 = q - 4503599627370496 := by omega
      rw [h3, h4, show k + 1 - 1 = k by omega, show 4503599627370496 + (q - 4503599627370496) = q by omega]
theorem rev_le53 {n d : Nat} (h : n.log2 - 52 ≤ d) : rev n d ≤ 9007199254740992 := by
  have h2 : n / 2 ^ d < 9007199254740992 := by
    apply Nat.div_lt_of_lt_mul
    have h3 := log2_lt' n
    have h4 : 2 ^ d * 9007199254740992 = 2 ^ (d + 53) := by rw [Nat.pow_add]
    rw [h4]
    exact Nat.lt_of_lt_of_le h3 (Nat.pow_le_pow_right (by omega) (by omega))
  unfold rev
  split <;> omega
theorem rev_near (n d : Nat) : 2 * (rev n d * 2 ^ d) ≤ 2 * n + 2 ^ d ∧ 2 * n ≤ 2 * (rev n d * 2 ^ d) + 2 ^ d := by
  unfold rev
  have h1 := Nat.div_add_mod n (2 ^ d)
  have h2 := Nat.mod_lt n (Nat.two_pow_pos d)
  rw [Nat.mul_comm] at h1
  generalize n / 2 ^ d = q at *
  generalize n % 2 ^ d = r at *
  generalize 2 ^ d = g at *
  split
  · rename_i h; rw [Nat.add_mul, Nat.one_mul]
    generalize q * g = z at *
    omega
  · rename_i h; rw [Nat.add_zero]
    generalize q * g = z at *
    omega
theorem rndD_val {n D : Nat} (h : rndD n D < 9218868437227405312) : val (rndD n D) * 2 ^ D = rev n (max (n.log2 - 52) D) * 2 ^ (max (n.log2 - 52) D) := by
  unfold rndD at h ⊢
  unfold fInf at h ⊢
  generalize hd : max (n.log2 - 52) D = d at *
  have h1 := rev_le53 (n := n) (d := d) (by omega)
  have h2 : d - D = 0 ∨ 4503599627370496 ≤ rev n d := by
    by_cases hD : d = D
    · left; omega
    · right
      have hl : d = n.log2 - 52 := by omega
      have hn : n ≠ 0 := by
        intro h0
        subst h0
        have : Nat.log2 0 = 0 := by decide
        omega
      have h3 : 4503599627370496 ≤ n / 2 ^ d := by
        rw [Nat.le_div_iff_mul_le (Nat.two_pow_pos _)]
        have h4 := Nat.log2_self_le hn
        have h5 : 4503599627370496 * 2 ^ d = 2 ^ (52 + d) := by rw [Nat.pow_add]
        rw [h5, show 52 + d = n.log2 by omega]
        exact h4
      unfold rev
      omega
  rw [Nat.min_eq_left (by omega)]
  rw [val_rung h1 h2, Nat.mul_assoc, ← Nat.pow_add, show d - D + D = d by omega]
theorem pow_small {n D : Nat} (hn : n ≠ 0) : 4503599627370496 * 2 ^ (max (n.log2 - 52) D) ≤ n + 4503599627370496 * 2 ^ D := by
  by_cases h : n.log2 - 52 ≤ D
  · rw [Nat.max_eq_right h]; omega
  · rw [Nat.max_eq_left (by omega)]
    have h4 := Nat.log2_self_le hn
    have h5 : 4503599627370496 * 2 ^ (n.log2 - 52) = 2 ^ (52 + (n.log2 - 52)) := by rw [Nat.pow_add]
    rw [h5, show 52 + (n.log2 - 52) = n.log2 by omega]
    omega
theorem rndD_near {n D : Nat} (h : rndD n D < 9218868437227405312) :
    9007199254740992 * (val (rndD n D) * 2 ^ D) ≤ 9007199254740993 * n + 4503599627370496 * 2 ^ D ∧ 9007199254740992 * n ≤ 9007199254740992 * (val (rndD n D) * 2 ^ D) + n + 4503599627370496 * 2 ^ D := by
  rw [rndD_val h]
  by_cases hn : n = 0
  · subst hn
    have hz : ∀ d, rev 0 d = 0 := fun d => by unfold rev; simp
    rw [hz]; simp
  have h1 := rev_near n (max (n.log2 - 52) D)
  have h2 := pow_small (D := D) hn
  generalize rev n (max (n.log2 - 52) D) * 2 ^ (max (n.log2 - 52) D) = z at *
  generalize 2 ^ (max (n.log2 - 52) D) = g at *
  generalize 2 ^ D = k at *
  omega
theorem rnd_near {n : Nat} (h : rnd n < 9218868437227405312) :
    9007199254740992 * val (rnd n) ≤ 9007199254740993 * n ∧ 9007199254740992 * n ≤ 9007199254740992 * val (rnd n) + n := by
  have hv := rndD_val (n := n) (D := 0) (by rw [rndD_zero]; exact h)
  rw [rndD_zero, Nat.pow_zero, Nat.mul_one, Nat.max_eq_left (Nat.zero_le _)] at hv
  rw [hv]
  by_cases hl : n.log2 - 52 = 0
  · rw [hl, rev_zero]; omega
  · have hn : n ≠ 0 := by
      intro h0
      subst h0
      have : Nat.log2 0 = 0 := by decide
      omega
    have h1 := rev_near n (n.log2 - 52)
    have h4 := Nat.log2_self_le hn
    have h5 : 4503599627370496 * 2 ^ (n.log2 - 52) = 2 ^ (52 + (n.log2 - 52)) := by rw [Nat.pow_add]
    rw [show 52 + (n.log2 - 52) = n.log2 by omega] at h5
    generalize rev n (n.log2 - 52) * 2 ^ (n.log2 - 52) = z at *
    generalize 2 ^ (n.log2 - 52) = g at *
    omega

/-! ### Quotients -/
def place : Nat := 1074
theorem place_eq : place = 1074 := rfl
attribute [irreducible] place
/-- So many least units are one. -/
def unit : Nat := 2 ^ place
theorem pow_unit (e : Nat) : 2 ^ (e + place) = 2 ^ e * unit := Nat.pow_add 2 e place
theorem unit_pos : 0 < unit := Nat.two_pow_pos place
theorem unit_big : 2 ^ 200 ≤ unit := Nat.pow_le_pow_right (by omega) (by rw [place_eq]; omega)
attribute [irreducible] unit
/-- The quotient of two floats that are numbers. -/
def divB (a b : Nat) : Nat :=
  let more := 54 + (fMag b).log2 - (fMag a).log2
  rndD ((2 * (fMag a * 2 ^ more / fMag b) + (fMag a * 2 ^ more % fMag b != 0).toNat) * 2 ^ (fExp a + place)) (fExp b + more + 1)
theorem fMag_pos {b : Nat} (h : b ≠ 0) : fMag b ≠ 0 := by unfold fMag; split <;> omega
theorem fl_div {a b : Nat} (ha : a < 9218868437227405312) (hb : b < 9218868437227405312) (h0 : b ≠ 0) : floatBits .quo .f64 a b = some (divB a b) := by
  show Ieee.double.div a b = _
  unfold Ieee.Format.div
  rw [read_pos ha, read_pos hb]
  have hf : Ieee.double.fractionBits + 2 = 54 := rfl
  rw [hf]
  unfold Ieee.Datum.quotient
  simp only [if_neg (fMag_pos h0), Option.map_some, Bool.xor_false]
  refine congrArg some ?_
  unfold divB
  simp only []
  generalize 54 + (fMag b).log2 - (fMag a).log2 = more
  have hw : ∀ (n : Nat) (p : Int), Ieee.double.write (.number false n p) = Ieee.double.nearest false n p := fun _ _ => rfl
  rw [hw, Nat.shiftLeft_eq]
  have hp : (-1074 + (fExp a : Int) - (-1074 + (fExp b : Int)) - (more : Int) - 1) = -1074 + ((fExp a + place : Nat) : Int) - ((fExp b + more + 1 : Nat) : Int) := by rw [place_eq]; omega
  rw [hp, nearest_gen]
theorem val_zero_iff {a : Nat} : val a = 0 ↔ a = 0 := by
  constructor
  · intro h
    apply Classical.byContradiction
    intro hne
    have := val_lt (show 0 < a by omega)
    omega
  · rintro rfl; exact val_zero
theorem divB_zero (b : Nat) : divB 0 b = 0 := by
  unfold divB
  have : fMag 0 = 0 := rfl
  simp only [this, Nat.zero_mul, Nat.zero_div, Nat.zero_mod, Nat.mul_zero]
  rw [show (0 + ((0 : Nat) != 0).toNat) = 0 from rfl, Nat.zero_mul]
  unfold rndD
  have hz : ∀ d, rev 0 d = 0 := fun d => by unfold rev; simp
  have hl : Nat.log2 0 = 0 := by decide
  rw [hz, hl]; simp
/-- What a quotient's digits are. -/
theorem quo_digits {a b : Nat} (ha : a ≠ 0) (hb : b ≠ 0) :
    let more := 54 + (fMag b).log2 - (fMag a).log2
    let P := fMag a * 2 ^ more
    let q := 2 * (P / fMag b) + (P % fMag b != 0).toNat
    9007199254740992 * fMag b ≤ P ∧ q * fMag b ≤ 2 * P + fMag b ∧ 2 * P ≤ q * fMag b + fMag b := by
  intro more P q
  have hm := fMag_pos ha
  have hn := fMag_pos hb
  refine ⟨?_, ?_⟩
  · have h1 := Nat.log2_self_le hm
    have h2 := log2_lt' (fMag b)
    have h3 : 2 ^ (54 + (fMag b).log2) ≤ P := by
      show _ ≤ fMag a * 2 ^ more
      refine Nat.le_trans (Nat.pow_le_pow_right (by omega) (show 54 + (fMag b).log2 ≤ (fMag a).log2 + more by omega)) ?_
      rw [Nat.pow_add]
      exact Nat.mul_le_mul_right _ h1
    have h4 : 2 ^ (54 + (fMag b).log2) = 9007199254740992 * 2 ^ ((fMag b).log2 + 1) := by
      rw [show 54 + (fMag b).log2 = 53 + ((fMag b).log2 + 1) by omega, Nat.pow_add]
    rw [h4] at h3
    exact Nat.le_trans (Nat.mul_le_mul_left _ (Nat.le_of_lt h2)) h3
  · have h1 := Nat.div_add_mod P (fMag b)
    have h2 := Nat.mod_lt P (show 0 < fMag b by omega)
    show q * fMag b ≤ _ ∧ _
    have hq : q = 2 * (P / fMag b) + (P % fMag b != 0).toNat := rfl
    rw [hq, Nat.add_mul, Nat.mul_assoc, Nat.mul_comm (P / fMag b)]
    generalize fMag b * (P / fMag b) = z at *
    by_cases hr : P % fMag b = 0
    · rw [hr]; simp; omega
    · have : (P % fMag b != 0) = true := by simp [hr]
      rw [this]
      simp only [Bool.toNat_true, Nat.one_mul]
      omega
/-- Near to what the quotient is. -/
theorem div_near {a b : Nat} (hb : b ≠ 0) (hx : divB a b < 9218868437227405312) :
    9007199254740992 * (val (divB a b) * val b) ≤ 9007199254740995 * (val a * unit) + 4503599627370496 * val b ∧ 9007199254740989 * (val a * unit) ≤ 9007199254740992 * (val (divB a b) * val b) + 4503599627370496 * val b := by
  by_cases ha : a = 0
  · subst ha
    rw [divB_zero, val_zero]; simp
  obtain ⟨h1, h2, h3⟩ := quo_digits ha hb
  unfold divB at hx ⊢
  simp only [] at h1 h2 h3 hx ⊢
  generalize 54 + (fMag b).log2 - (fMag a).log2 = more at *
  generalize hq : 2 * (fMag a * 2 ^ more / fMag b) + (fMag a * 2 ^ more % fMag b != 0).toNat = q at *
  rw [pow_unit] at hx ⊢
  obtain ⟨n1, n2⟩ := rndD_near hx
  generalize rndD (q * (2 ^ fExp a * unit)) (fExp b + more + 1) = x at *
  -- all times the divisor's digits
  have m1 := Nat.mul_le_mul_right (fMag b) n1
  have m2 := Nat.mul_le_mul_right (fMag b) n2
  have hvb : val b = fMag b * 2 ^ fExp b := rfl
  have hva : val a = fMag a * 2 ^ fExp a := rfl
  have hD : 2 ^ (fExp b + more + 1) = 2 ^ fExp b * 2 ^ (more + 1) := by rw [show fExp b + more + 1 = fExp b + (more + 1) by omega, Nat.pow_add]
  rw [hD] at m1 m2
  have hg : 0 < 2 ^ (more + 1) := Nat.two_pow_pos _
  have hG : 2 ^ (more + 1) = 2 * 2 ^ more := by rw [Nat.pow_succ, Nat.mul_comm]
  have h1' := Nat.mul_le_mul_right (2 ^ fExp a * unit) h1
  have h2' := Nat.mul_le_mul_right (2 ^ fExp a * unit) h2
  have h3' := Nat.mul_le_mul_right (2 ^ fExp a * unit) h3
  rw [hvb, show val a = fMag a * 2 ^ fExp a from rfl]
  clear hvb hva n1 n2 hx h1 h2 h3 hD hq
  generalize fMag a = m at *
  generalize fMag b = n at *
  have g1 : m * 2 ^ fExp a * unit * 2 ^ (more + 1) = 2 * (m * 2 ^ more * (2 ^ fExp a * unit)) := by rw [hG]; ac_rfl
  generalize 2 ^ fExp a * unit = Z at *
  generalize val x = v at *
  generalize 2 ^ fExp b = B at *
  rw [Nat.mul_assoc] at h1'
  rw [Nat.add_mul, Nat.mul_assoc 2] at h2'
  rw [Nat.add_mul, Nat.mul_assoc 2] at h3'
  have e1 : ∀ C, C * (v * (B * 2 ^ (more + 1))) * n = C * (v * (n * B) * 2 ^ (more + 1)) := fun C => by ac_rfl
  have e2 : ∀ C, C * (B * 2 ^ (more + 1)) * n = C * (n * B * 2 ^ (more + 1)) := fun C => by ac_rfl
  have e3 : ∀ C, C * (q * Z) * n = C * (q * n * Z) := fun C => by ac_rfl
  have e4 : q * Z * n = q * n * Z := by ac_rfl
  rw [Nat.add_mul, e1, e2, e3] at m1
  rw [Nat.add_mul, Nat.add_mul, e1, e2, e3, e4] at m2
  constructor
  · apply Nat.le_of_mul_le_mul_right _ hg
    rw [Nat.add_mul, Nat.mul_assoc, Nat.mul_assoc 9007199254740995, Nat.mul_assoc 4503599627370496, g1]
    generalize q * n * Z = u at *
    generalize n * Z = t at *
    generalize m * 2 ^ more * Z = s at *
    generalize v * (n * B) * 2 ^ (more + 1) = y at *
    generalize n * B * 2 ^ (more + 1) = z at *
    omega
  · apply Nat.le_of_mul_le_mul_right _ hg
    rw [Nat.add_mul, Nat.mul_assoc, Nat.mul_assoc 9007199254740992, Nat.mul_assoc 4503599627370496, g1]
    generalize q * n * Z = u at *
    generalize n * Z = t at *
    generalize m * 2 ^ more * Z = s at *
    generalize v * (n * B) * 2 ^ (more + 1) = y at *
    generalize n * B * 2 ^ (more + 1) = z at *
    omega
theorem rndD_lt {n D c : Nat} (h : n < 2 ^ (D + c)) (hc : c ≤ 1100) : rndD n D < 9218868437227405312 := by
  have h1 := rev_le53 (n := n) (d := max (n.log2 - 52) D) (by omega)
  have h2 : n.log2 ≤ D + c := by
    by_cases hn : n = 0
    · subst hn
      have : Nat.log2 0 = 0 := by decide
      omega
    · have := (Nat.log2_lt hn).2 h; omega
  unfold rndD fInf
  have h3 : (max (n.log2 - 52) D - D) * 4503599627370496 ≤ 1100 * 4503599627370496 := Nat.mul_le_mul_right _ (by omega)
  omega
theorem divB_lt {a b : Nat} (hb : b ≠ 0) (h : val a ≤ val b) : divB a b < 9218868437227405312 := by
  by_cases ha : a = 0
  · subst ha; rw [divB_zero]; omega
  obtain ⟨h1, h2, h3⟩ := quo_digits ha hb
  unfold divB
  simp only [] at h1 h2 h3 ⊢
  generalize 54 + (fMag b).log2 - (fMag a).log2 = more at *
  generalize hq : 2 * (fMag a * 2 ^ more / fMag b) + (fMag a * 2 ^ more % fMag b != 0).toNat = q at *
  refine rndD_lt (c := place + 3) ?_ (by rw [place_eq]; omega)
  have hn := fMag_pos hb
  have hvb : val b = fMag b * 2 ^ fExp b := rfl
  have hva : val a = fMag a * 2 ^ fExp a := rfl
  rw [hva, hvb] at h
  rw [pow_unit]
  apply Nat.lt_of_mul_lt_mul_right (a := fMag b)
  have e1 : q * (2 ^ fExp a * unit) * fMag b = q * fMag b * (2 ^ fExp a * unit) := by ac_rfl
  have hpos : 0 < 2 ^ (fExp b + more + 1) * unit * fMag b := Nat.mul_pos (Nat.mul_pos (Nat.two_pow_pos _) unit_pos) (by omega)
  have e2 : 2 ^ (fExp b + more + 1 + (place + 3)) * fMag b = 8 * (2 ^ (fExp b + more + 1) * unit * fMag b) := by
    rw [show fExp b + more + 1 + (place + 3) = (fExp b + more + 1 + place) + 3 by omega, Nat.pow_add, pow_unit]
    rw [show 2 ^ 3 = 8 by decide]
    ac_rfl
  rw [e1, e2]
  have h4 : q * fMag b ≤ 3 * (fMag a * 2 ^ more) := by omega
  have h5 := Nat.mul_le_mul_right (2 ^ fExp a * unit) h4
  have h6 := Nat.mul_le_mul_right (2 ^ more * unit) h
  have e3 : 3 * (fMag a * 2 ^ more) * (2 ^ fExp a * unit) = 3 * (fMag a * 2 ^ fExp a * (2 ^ more * unit)) := by ac_rfl
  have e4 : 2 ^ (fExp b + more + 1) * unit * fMag b = 2 * (fMag b * 2 ^ fExp b * (2 ^ more * unit)) := by
    rw [show fExp b + more + 1 = fExp b + more + 1 by rfl, Nat.pow_succ, Nat.pow_add]; ac_rfl
  rw [e3] at h5
  rw [e4] at hpos ⊢
  generalize fMag a * 2 ^ fExp a * (2 ^ more * unit) = s at *
  generalize fMag b * 2 ^ fExp b * (2 ^ more * unit) = r at *
  generalize q * fMag b * (2 ^ fExp a * unit) = u at *
  omega

/-! ### Products with whole numbers, whole parts -/
theorem fOfInt_nat (n : Nat) : fOfInt (n : Int) = rnd (n * unit) := by
  show Ieee.double.nearest (decide ((n : Int) < 0)) (n : Int).natAbs 0 = _
  rw [decide_eq_false (by omega), Int.natAbs_natCast]
  have := nearest_gen n place 0
  rw [rndD_zero] at this
  rw [show n * unit = n * 2 ^ place by unfold unit; rfl, ← this]
  congr 1
  rw [place_eq]; rfl
theorem log2_unit {n : Nat} (h : n ≠ 0) : (n * unit).log2 = n.log2 + place := by
  unfold unit
  exact log2_scale h place
theorem val_fOfInt {n : Nat} (h : n < 9007199254740992) : val (fOfInt (n : Int)) = n * unit ∧ fOfInt (n : Int) < 9218868437227405312 := by
  rw [fOfInt_nat]
  by_cases h0 : n = 0
  · subst h0
    rw [Nat.zero_mul]
    have : rnd 0 = 0 := by decide +kernel
    rw [this, val_zero]; omega
  have hl : n.log2 < 53 := (Nat.log2_lt h0).2 (by omega)
  have hl2 : n.log2 + place - 52 = n.log2 + (place - 52) := by rw [place_eq]; omega
  have hrev : rev (n * unit) (n.log2 + (place - 52)) = n * 2 ^ (52 - n.log2) := by
    have : n * unit = n * 2 ^ (52 - n.log2) * 2 ^ (n.log2 + (place - 52)) := by
      unfold unit
      rw [Nat.mul_assoc, ← Nat.pow_add, show 52 - n.log2 + (n.log2 + (place - 52)) = place by rw [place_eq]; omega]
    rw [this, rev_exact]
  have hq : n * 2 ^ (52 - n.log2) < 9007199254740992 := by
    have h1 := log2_lt' n
    have h2 : 2 ^ (n.log2 + 1) * 2 ^ (52 - n.log2) = 9007199254740992 := by rw [← Nat.pow_add, show n.log2 + 1 + (52 - n.log2) = 53 by omega]
    rw [← h2]
    exact Nat.mul_lt_mul_of_pos_right h1 (Nat.two_pow_pos _)
  have hq2 : 4503599627370496 ≤ n * 2 ^ (52 - n.log2) := by
    have h1 := Nat.log2_self_le h0
    have h2 : 2 ^ n.log2 * 2 ^ (52 - n.log2) = 4503599627370496 := by rw [← Nat.pow_add, show n.log2 + (52 - n.log2) = 52 by omega]
    rw [← h2]
    exact Nat.mul_le_mul_right _ h1
  have hr : rnd (n * unit) = (n.log2 + (place - 52)) * 4503599627370496 + n * 2 ^ (52 - n.log2) := by
    unfold rnd fInf
    rw [log2_unit h0, hl2, hrev, Nat.min_eq_left]
    have hz : (n.log2 + (place - 52)) * 4503599627370496 ≤ 1100 * 4503599627370496 := Nat.mul_le_mul_right _ (by rw [place_eq]; omega)
    exact Nat.le_trans (Nat.add_le_add hz (Nat.le_of_lt hq)) (by decide)
  rw [hr]
  constructor
  · rw [val_rung (by omega) (.inr hq2), Nat.mul_assoc, ← Nat.pow_add]
    unfold unit
    rw [show 52 - n.log2 + (n.log2 + (place - 52)) = place by rw [place_eq]; omega]
  · have : (n.log2 + (place - 52)) * 4503599627370496 ≤ 1100 * 4503599627370496 := Nat.mul_le_mul_right _ (by rw [place_eq]; omega)
    omega
theorem fl_mul {a n : Nat} (ha : a < 9218868437227405312) (hn : n < 9007199254740992) : floatBits .mul .f64 a (fOfInt (n : Int)) = some (rnd (val a * n)) := by
  obtain ⟨hv, hf⟩ := val_fOfInt hn
  show Ieee.double.mul a _ = _
  unfold Ieee.Format.mul
  rw [read_pos ha, read_pos hf]
  unfold Ieee.Datum.product
  simp only [Option.map_some, Bool.xor_false]
  refine congrArg some ?_
  have hw : ∀ (n : Nat) (p : Int), Ieee.double.write (.number false n p) = Ieee.double.nearest false n p := fun _ _ => rfl
  rw [hw]
  have hp : (-1074 + (fExp a : Int) + (-1074 + (fExp (fOfInt (n : Int)) : Int))) = -1074 + ((fExp a + fExp (fOfInt (n : Int)) : Nat) : Int) - (place : Int) := by rw [place_eq]; omega
  rw [hp, nearest_gen]
  have e : fMag a * fMag (fOfInt (n : Int)) * 2 ^ (fExp a + fExp (fOfInt (n : Int))) = val a * n * 2 ^ place := by
    have h1 : val a * val (fOfInt (n : Int)) = val a * n * 2 ^ place := by rw [hv, Nat.mul_assoc]; unfold unit; rfl
    rw [← h1, Nat.pow_add]
    unfold val
    ac_rfl
  rw [e, rndD_scale]
/-- The whole part of a float. -/
theorem fl_cut {y : Nat} (hy : y < 9218868437227405312) (h : val y / unit < 9223372036854775808) : floatToIntVal .f64 y .i64 = some ((val y / unit : Nat) : Int) := by
  unfold floatToIntVal
  have hd : FloatKind.f64.decode y = Ieee.double.read y := rfl
  rw [hd, read_pos hy]
  have hi : ((Ieee.Datum.number false (fMag y) (-1074 + (fExp y : Int))).toInt .zero) = some ((val y / unit : Nat) : Int) := by
    unfold Ieee.Datum.toInt Ieee.Datum.integral
    simp only [Ieee.signed, Bool.false_eq_true, if_false, Nat.shiftLeft_zero]
    refine congrArg some ?_
    refine congrArg (fun n : Nat => (n : Int)) ?_
    unfold Ieee.Toward.cut
    simp only [Bool.toNat_false, Nat.add_zero, Nat.shiftLeft_eq]
    have h1 : (-1074 + (fExp y : Int)).toNat = fExp y - place := by rw [place_eq]; omega
    have h2 : (-(-1074 + (fExp y : Int))).toNat = place - fExp y := by rw [place_eq]; omega
    rw [h1, h2]
    have hcut : ∀ n d : Nat, n / 2 ^ min d (n.log2 + 2) = n / 2 ^ d := fun n d => by
      by_cases h : d ≤ n.log2 + 2
      · rw [Nat.min_eq_left h]
      · rw [Nat.min_eq_right (by omega)]
        have h3 := log2_lt' n
        have h4 : 2 ^ (n.log2 + 1) ≤ 2 ^ (n.log2 + 2) := Nat.pow_le_pow_right (by omega) (by omega)
        have h5 : 2 ^ (n.log2 + 2) ≤ 2 ^ d := Nat.pow_le_pow_right (by omega) (by omega)
        rw [Nat.div_eq_of_lt (by omega), Nat.div_eq_of_lt (by omega)]
    rw [Nat.one_mul, hcut]
    unfold val unit
    by_cases hc : fExp y ≤ place
    · rw [show fExp y - place = 0 by omega, Nat.pow_zero, Nat.mul_one]
      have : (2 : Nat) ^ place = 2 ^ (place - fExp y) * 2 ^ fExp y := by rw [← Nat.pow_add, show place - fExp y + fExp y = place by omega]
      rw [this, Nat.mul_div_mul_right _ _ (Nat.two_pow_pos _)]
    · rw [show place - fExp y = 0 by omega, Nat.pow_zero, Nat.div_one]
      have : (2 : Nat) ^ fExp y = 2 ^ (fExp y - place) * 2 ^ place := by rw [← Nat.pow_add, show fExp y - place + place = fExp y by omega]
      rw [this, ← Nat.mul_assoc, Nat.mul_div_cancel _ (Nat.two_pow_pos _)]
  rw [hi]
  have hmin : IntKind.i64.min = -9223372036854775808 := rfl
  have hmax : IntKind.i64.max = 9223372036854775807 := rfl
  simp only [hmin, hmax]
  generalize val y / unit = z at *
  rw [if_pos (by omega)]

/-! ### Halves -/
def two : Nat := 4611686018427387904
theorem val_two : val two = 2 * unit := by
  have := (val_fOfInt (n := 2) (by omega)).1
  have h2 : fOfInt ((2 : Nat) : Int) = two := by decide +kernel
  rw [h2] at this
  exact this
/-- Half a float. -/
def hlv (x : Nat) : Nat := divB x two
theorem hlv_big {x : Nat} (h : 9007199254740992 ≤ x) (hx : x < 9218868437227405312) : hlv x = x - 4503599627370496 := by
  unfold hlv divB
  have hm2 : fMag two = 4503599627370496 := by decide
  have he2 : fExp two = 1023 := by decide
  rw [hm2, he2]
  have hl2 : (4503599627370496 : Nat).log2 = 52 := by decide
  have hm : fMag x = 4503599627370496 + x % 4503599627370496 := by unfold fMag; rw [if_neg (by omega)]
  have hl : (fMag x).log2 = 52 := by
    have h0 : fMag x ≠ 0 := by omega
    have h1 : (fMag x).log2 < 53 := (Nat.log2_lt h0).2 (by omega)
    have h2 : 52 ≤ (fMag x).log2 := (Nat.le_log2 h0).2 (by omega)
    omega
  rw [hl, hl2]
  simp only []
  have e1 : fMag x * 2 ^ 54 = fMag x * 4 * 4503599627370496 := by
    rw [Nat.mul_assoc]
  have e5 : 1023 + 54 + 1 = place + 4 := by rw [place_eq]
  rw [show 54 + 52 - 52 = 54 by omega, e1, e5, Nat.mul_div_cancel _ (by omega), Nat.mul_mod_left]
  have e2 : (2 * (fMag x * 4) + ((0 : Nat) != 0).toNat) * 2 ^ (fExp x + place) = val (x - 4503599627370496) * 2 ^ (place + 4) := by
    have hv : val (x - 4503599627370496) = fMag x * 2 ^ (fExp x - 1) := by
      unfold val
      have : fMag (x - 4503599627370496) = fMag x := by
        unfold fMag
        rw [if_neg (by omega), if_neg (by omega)]
        omega
      have h3 : fExp (x - 4503599627370496) = fExp x - 1 := by unfold fExp; omega
      rw [this, h3]
    rw [hv, show ((0 : Nat) != 0).toNat = 0 from rfl, Nat.add_zero, Nat.mul_assoc (fMag x) (2 ^ (fExp x - 1)), ← Nat.pow_add]
    have h4 : 1 ≤ fExp x := by unfold fExp; omega
    have h5 : fExp x - 1 + (place + 4) = fExp x + place + 3 := by omega
    rw [h5, Nat.pow_add 2 (fExp x + place) 3, show 2 ^ 3 = 8 by decide]
    generalize 2 ^ (fExp x + place) = g
    rw [show 2 * (fMag x * 4) = fMag x * 8 by omega]
    ac_rfl
  rw [e2, rndD_scale, rnd_val (by omega)]
theorem hlv_le {x : Nat} (hx : x < 9218868437227405312) : hlv x ≤ x := by
  by_cases h : 9007199254740992 ≤ x
  · rw [hlv_big h hx]; omega
  · by_cases h0 : x = 0
    · subst h0; unfold hlv; rw [divB_zero]; omega
    have ht : two ≠ 0 := by decide
    have hle : val x ≤ val two := val_le (by unfold two; omega)
    have hn := (div_near (a := x) ht (divB_lt ht hle)).1
    rw [val_two] at hn
    show divB x two ≤ x
    apply Classical.byContradiction
    intro hc
    have hlt := val_lt (show x < divB x two by omega)
    have hu := unit_pos
    have e1 : val (divB x two) * (2 * unit) = 2 * (val (divB x two) * unit) := by ac_rfl
    rw [e1] at hn
    have h1 : (val x + 1) * unit ≤ val (divB x two) * unit := Nat.mul_le_mul_right _ hlt
    rw [Nat.add_mul, Nat.one_mul] at h1
    have h2 : 1 ≤ val x := by
      have := val_zero_iff (a := x)
      omega
    have h3 : 1 * unit ≤ val x * unit := Nat.mul_le_mul_right _ h2
    generalize val (divB x two) * unit = p at *
    generalize val x * unit = q at *
    omega
end Go.Sp
