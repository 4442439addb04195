/-
  Shares: how the loops go.
-/
import Derived.Test.YtkbfpjkikjmmeaaSpShareB
import Derived.Test.YtkbfpjkikjmmeaaSpIdx
namespace Go.Sp
set_option linter.unusedVariables false
set_option linter.unusedSimpArgs false
theorem sumB_snoc (s : Nat) (l : List Nat) (x : Nat) : sumB s (l ++ [x]) = addB (sumB s l) x := by simp [sumB]
theorem leftAt_range (ts : List Bool) (left : Int) : ∀ j : Nat, left - j ≤ leftAt ts left j ∧ leftAt ts left j ≤ left
  | 0 => by simp [leftAt]
  | j + 1 => by
    have := leftAt_range ts left j
    unfold leftAt
    split <;> omega
theorem leftAt_succ (ts : List Bool) (left : Int) (j : Nat) : leftAt ts left (j + 1) = if ts.getD j false && decide (0 < leftAt ts left j) then leftAt ts left j - 1 else leftAt ts left j := rfl
theorem leftAt_done (ts : List Bool) (left : Int) {i : Nat} (h : leftAt ts left i ≤ 0) : ∀ k : Nat, leftAt ts left (i + k) = leftAt ts left i
  | 0 => rfl
  | k + 1 => by
    have ih := leftAt_done ts left h k
    show leftAt ts left (i + k + 1) = _
    rw [leftAt_succ, ih, decide_eq_false (by omega), Bool.and_false, if_neg (by simp)]
theorem spread_get {ts : List Bool} {ps : List Int} {left : Int} {j : Nat} (hj : j < ps.length) : (spread ts ps left)[j]? = some (outAt ts ps left j) := by
  unfold spread
  rw [List.getElem?_map, List.getElem?_range hj]; rfl
theorem spread_done {ts : List Bool} {ps : List Int} {left : Int} {i : Nat} (hi : i ≤ ps.length) (h : leftAt ts left i ≤ 0) : blend (spread ts ps left) ps i = spread ts ps left := by
  apply List.ext_getElem?
  intro j
  have hl := spread_len ts ps left
  by_cases h1 : j < i
  · rw [blend_done hl (by omega) h1]
  · rw [blend_rest hl (by omega) (by omega)]
    by_cases h2 : j < ps.length
    · rw [spread_get h2]
      unfold outAt
      have := leftAt_done ts left h (j - i)
      rw [show i + (j - i) = j by omega] at this
      rw [this, decide_eq_false (by omega), Bool.and_false, List.getD_eq_getElem?_getD, List.getElem?_eq_getElem h2]
      simp
    · rw [List.getElem?_eq_none (by omega), List.getElem?_eq_none (by omega)]
theorem prt_eq (S n x : Nat) : prt S n x = min ((val (rnd (val (divB x S) * n)) / unit : Nat) : Int) (n : Int) := rfl
theorem prt_range {S n x : Nat} : 0 ≤ prt S n x ∧ prt S n x ≤ n := by
  unfold prt
  generalize val (rnd (val (divB x S) * n)) / unit = z
  omega
theorem sum_range {n : Int} : ∀ (l : List Int), (∀ x ∈ l, 0 ≤ x ∧ x ≤ n) → 0 ≤ l.sum ∧ l.sum ≤ n * l.length
  | [], _ => by simp
  | x :: l, h => by
    have h1 := h x (by simp)
    have h2 := sum_range l (fun y hy => h y (by simp [hy]))
    rw [List.sum_cons, List.length_cons]
    have : n * ((l.length + 1 : Nat) : Int) = n * l.length + n := by rw [Int.natCast_add, Int.mul_add]; simp
    rw [this]; omega
theorem parts_range {l : List Nat} {n : Nat} : ∀ x ∈ parts l n, 0 ≤ x ∧ x ≤ (n : Int) := by
  intro x hx
  obtain ⟨y, _, rfl⟩ := List.mem_map.1 hx
  exact prt_range
/-- A weight that counts, or none. -/
def posOr (x : Nat) : Nat := if isPos x then x else 0
theorem posOr_weights {l : List Nat} (h : great l = false) : l.map posOr = weights l := by
  unfold weights
  rw [h]
  apply List.map_congr_left
  intro x _
  simp [wOf, posOr]
theorem posOr_inf {x : Nat} (hx : x < 18446744073709551616) : isInf (posOr x) = isInf x := by
  unfold posOr
  split
  · rfl
  · rename_i h
    cases h2 : isInf x with
    | false => rw [isInf_nn (Nat.zero_le _)]; decide
    | true => exact absurd (isInf_pos hx h2) h
theorem one_le : one ≤ fInf := by unfold one fInf; omega
theorem any_pos {l : List Nat} (hl : ∀ x ∈ l, x ≤ fInf) : l.any isPos = decide (sumB 0 l ≠ 0) := by
  rw [Bool.eq_iff_iff]
  simp only [List.any_eq_true, decide_eq_true_eq, ne_eq, sumB_zero_iff hl]
  constructor
  · rintro ⟨x, hx, hp⟩ h
    rw [h x hx] at hp
    rw [isPos_nn (Nat.zero_le _)] at hp
    simp at hp
  · intro h
    apply Classical.byContradiction
    intro hc
    apply h
    intro x hx
    apply Classical.byContradiction
    intro hne
    exact hc ⟨x, hx, by rw [isPos_nn (hl x hx)]; simpa using hne⟩
end Go.Sp
