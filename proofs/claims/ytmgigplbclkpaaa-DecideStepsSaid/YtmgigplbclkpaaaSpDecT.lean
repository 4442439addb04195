/-
  Those that are left behind a step are as good as one another by it.
-/
import Derived.Test.YtmgigplbclkpaaaSpDecS
namespace Go.Sp
set_option linter.unusedVariables false
set_option linter.unusedSimpArgs false
theorem fEql_zero {b : Nat} (hb : b < 18446744073709551616) (h : fEql b 0 = true) : b = 0 ∨ b = 9223372036854775808 := by
  by_cases h1 : b ≤ fInf
  · rw [fEql_pos h1 (by simp)] at h
    exact .inl (of_decide_eq_true h)
  · unfold fInf at h1
    unfold fEql Ieee.Format.order at h
    rw [read_zero] at h
    by_cases h4 : b < 9223372036854775808
    · obtain ⟨t, ht⟩ := read_nan (by omega) h4
      rw [ht] at h
      simp [Ieee.Datum.order] at h
    · refine Classical.byContradiction fun hne => ?_
      have hr : 0 < b % 9223372036854775808 := by omega
      have h5 : b / 9223372036854775808 = 1 := by omega
      unfold Ieee.Format.read at h
      rw [d_least, d_binade, d_inf, d_sign, h5] at h
      have key : ∀ m k : Nat, 0 < m → compare (-((m * 2 ^ k : Nat) : Int)) 0 = .lt := fun m k hm => cmp_lt (by
        have : 0 < m * 2 ^ k := Nat.mul_pos hm (Nat.two_pow_pos _)
        omega)
      by_cases c1 : b % 9223372036854775808 < 4503599627370496
      · rw [if_pos c1] at h
        simp only [Ieee.Datum.order, Ieee.signed, Nat.shiftLeft_eq, Nat.zero_mul] at h
        have := key (b % 9223372036854775808) ((-1074 : Int) - min (-1074) (-1074)).toNat hr
        simp only [Nat.reduceMod, beq_self_eq_true, if_true, Bool.false_eq_true, if_false] at h
        rw [show (((0 : Nat) : Int)) = 0 from rfl, this] at h
        cases h
      · rw [if_neg c1] at h
        by_cases c2 : b % 9223372036854775808 < 9218868437227405312
        · rw [if_pos c2] at h
          simp only [Ieee.Datum.order, Ieee.signed, Nat.shiftLeft_eq, Nat.zero_mul] at h
          simp only [Nat.reduceMod, beq_self_eq_true, if_true, Bool.false_eq_true, if_false] at h
          rw [show (((0 : Nat) : Int)) = 0 from rfl, key _ _ (by omega)] at h
          cases h
        · rw [if_neg c2] at h
          split at h <;> simp [Ieee.Datum.order] at h
theorem cost_eq {a b : Nat} (ha : a < 18446744073709551616) (hb : b < 18446744073709551616) (ga : fGeq a 0 = true) (gb : fGeq b 0 = true) (h : cleanN a = cleanN b) : fNeq a b = false := by
  have e : fNeq a b = !fEql a b := rfl
  rw [e]
  have la := cleanN_le ha
  have lb := cleanN_le hb
  unfold cleanN at h la lb
  rw [ga, gb, if_pos rfl, if_pos rfl] at h
  rw [ga, if_pos rfl] at la
  rw [gb, if_pos rfl] at lb
  have two : ∀ x y : Nat, (x = 0 ∨ x = 9223372036854775808) → (y = 0 ∨ y = 9223372036854775808) → fEql x y = true := by
    rintro x y (rfl | rfl) (rfl | rfl) <;> decide +kernel
  cases ea : fEql a 0 with
  | true =>
    rw [ea, if_pos rfl] at h
    cases eb : fEql b 0 with
    | true => rw [two a b (fEql_zero ha ea) (fEql_zero hb eb)]; rfl
    | false =>
      rw [eb, if_neg (by simp)] at h
      rw [← h] at eb
      exact absurd eb (by decide +kernel)
  | false =>
    rw [ea, if_neg (by simp)] at h la
    cases eb : fEql b 0 with
    | true =>
      rw [eb, if_pos rfl] at h
      rw [h] at ea
      exact absurd ea (by decide +kernel)
    | false =>
      rw [eb, if_neg (by simp)] at h
      rw [← h, fEql_pos la la]; simp
/-- What survives: as good as one another. -/
theorem Sv_alike {vs : List Vw} (hv : OkV vs) {k : Nat} {a b : Vw} (ha : Sv vs k a) (hb : Sv vs k b) :
    (1 ≤ k → a.pref = b.pref) ∧ (2 ≤ k → a.count = b.count) ∧ (3 ≤ k → a.origin = b.origin) ∧ (5 ≤ k → a.inner = b.inner) ∧ (6 ≤ k → a.cost = b.cost) := by
  have step : ∀ j, j + 1 ≤ k → bts a b ((j + 1 : Nat) : Int) = false ∧ bts b a ((j + 1 : Nat) : Int) = false := fun j hj => by
    have h1 := Sv_le hj ha
    have h2 := Sv_le hj hb
    constructor
    · cases h : bts a b ((j + 1 : Nat) : Int) with
      | false => rfl
      | true => exact absurd ⟨b, h2.1, h⟩ h1.2
    · cases h : bts b a ((j + 1 : Nat) : Int) with
      | false => rfl
      | true => exact absurd ⟨a, h1.1, h⟩ h2.2
  refine ⟨fun h => ?_, fun h => ?_, fun h => ?_, fun h => ?_, fun h => ?_⟩
  · have h1 : decide (a.pref < b.pref) = false := (step 0 h).1
    have h2 : decide (b.pref < a.pref) = false := (step 0 h).2
    simp at h1 h2; omega
  · have h1 : decide (b.count < a.count) = false := (step 1 h).1
    have h2 : decide (a.count < b.count) = false := (step 1 h).2
    simp at h1 h2; omega
  · have h1 : decide (b.origin < a.origin) = false := (step 2 h).1
    have h2 : decide (a.origin < b.origin) = false := (step 2 h).2
    simp at h1 h2; omega
  · have h1 : (a.inner && !b.inner) = false := (step 4 h).1
    have h2 : (b.inner && !a.inner) = false := (step 4 h).2
    cases hx : a.inner <;> cases hy : b.inner <;> simp_all
  · have h1 : fLss b.cost a.cost = false := (step 5 h).1
    have h2 : fLss a.cost b.cost = false := (step 5 h).2
    have la := hv _ (Sv_mem ha)
    have lb := hv _ (Sv_mem hb)
    rw [fLss_pos lb la] at h1
    rw [fLss_pos la lb] at h2
    simp at h1 h2; omega
end Go.Sp
