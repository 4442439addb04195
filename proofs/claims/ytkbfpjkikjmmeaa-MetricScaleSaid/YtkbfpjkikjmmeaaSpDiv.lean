/-
  Floats: sums that stay small, quotients, products with whole numbers, whole parts.
-/
import Derived.Test.YtkbfpjkikjmmeaaSpRnd
namespace Go.Sp
set_option linter.unusedVariables false
set_option linter.unusedSimpArgs false
theorem val_step (m : Nat) : 2 * val m ≤ val (m + 4503599627370496) := by
  unfold val fMag fExp
  by_cases h : m < 4503599627370496
  · rw [if_pos h, if_neg (by omega)]
    have h1 : m / 4503599627370496 = 0 := Nat.div_eq_of_lt h
    have h2 : (m + 4503599627370496) / 4503599627370496 = 1 := by omega
    have h3 : (m + 4503599627370496) % 4503599627370496 = m := by omega
    rw [h1, h2, h3]; simp; omega
  · rw [if_neg h, if_neg (by omega)]
    have h2 : (m + 4503599627370496) / 4503599627370496 = m / 4503599627370496 + 1 := by omega
    have h3 : (m + 4503599627370496) % 4503599627370496 = m % 4503599627370496 := by omega
    have h4 : 1 ≤ m / 4503599627370496 := by omega
    rw [h2, h3, show m / 4503599627370496 + 1 - 1 = (m / 4503599627370496 - 1) + 1 by omega, Nat.pow_succ]
    generalize 2 ^ (m / 4503599627370496 - 1) = g
    generalize 4503599627370496 + m % 4503599627370496 = M
    exact Nat.le_of_eq (by rw [Nat.mul_comm g 2, ← Nat.mul_assoc, ← Nat.mul_assoc, Nat.mul_comm M 2])
theorem addB_le2 {a b m : Nat} (ha : a ≤ m) (hb : b ≤ m) : addB a b ≤ m + 4503599627370496 := by
  by_cases h : m + 4503599627370496 < 9218868437227405312
  · have h1 := addB_mono ha hb
    refine Nat.le_trans h1 ?_
    unfold addB
    rw [if_pos (by omega)]
    have h2 : rnd (val m + val m) ≤ rnd (val (m + 4503599627370496)) := rnd_mono (by have := val_step m; omega)
    rw [rnd_val h] at h2
    exact h2
  · have := addB_le a b
    unfold fInf at this
    omega
/-- A row of sums, from s on. -/
def sumB (s : Nat) (l : List Nat) : Nat := l.foldl addB s
theorem sumB_le {m : Nat} : ∀ (l : List Nat) (s : Nat), s ≤ m → (∀ x ∈ l, x ≤ m) → sumB s l ≤ m + l.length * 4503599627370496
  | [], s, hs, _ => by simpa [sumB] using hs
  | x :: l, s, hs, hl => by
    have h1 := addB_le2 hs (hl x (by simp))
    have h2 := sumB_le (m := m + 4503599627370496) l (addB s x) h1 (fun y hy => by have := hl y (by simp [hy]); omega)
    simp only [sumB, List.foldl_cons, List.length_cons] at h2 ⊢
    rw [Nat.add_mul]
    omega
theorem fLeq_pos {x y : Nat} (hx : x ≤ fInf) (hy : y ≤ fInf) : fLeq x y = decide (x ≤ y) := by
  unfold fLeq
  rw [order_pos hx hy]
  rcases Nat.lt_trichotomy x y with h | h | h
  · rw [cmp_lt (by omega), decide_eq_true (by omega)]; rfl
  · subst h; rw [cmp_eq, decide_eq_true (by omega)]; rfl
  · rw [cmp_gt (by omega), decide_eq_false (by omega)]; rfl
theorem fGeq_pos {x y : Nat} (hx : x ≤ fInf) (hy : y ≤ fInf) : fGeq x y = decide (y ≤ x) := by
  unfold fGeq
  rw [order_pos hx hy]
  rcases Nat.lt_trichotomy x y with h | h | h
  · rw [cmp_lt (by omega), decide_eq_false (by omega)]; rfl
  · subst h; rw [cmp_eq, decide_eq_true (by omega)]; rfl
  · rw [cmp_gt (by omega), decide_eq_true (by omega)]; rfl
end Go.Sp
