/-
  Shares are together all: the floats' errors are small.
-/
import Derived.Test.YtkbfpjkikjmmeaaSpShare
namespace Go.Sp
set_option linter.unusedVariables false
set_option linter.unusedSimpArgs false
def vsum (l : List Nat) : Nat := (l.map val).sum
theorem addB_near {a b : Nat} (h : addB a b < 9218868437227405312) : 9007199254740992 * val (addB a b) ≤ 9007199254740993 * (val a + val b) ∧ 9007199254740992 * (val a + val b) ≤ 9007199254740992 * val (addB a b) + (val a + val b) := by
  unfold addB at h ⊢
  split at h
  · rename_i hc
    rw [if_pos hc]
    exact rnd_near h
  · omega
theorem step_up {a T v c j : Nat} (hj : j ≤ 64) (h1 : 70368744177664 * a ≤ (70368744177664 + j) * T) (h2 : 9007199254740992 * c ≤ 9007199254740993 * (a + v)) : 70368744177664 * c ≤ (70368744177664 + (j + 1)) * (T + v) := by
  have hA : j * T ≤ 64 * T := Nat.mul_le_mul_right _ hj
  have e1 : (70368744177664 + j) * T = 70368744177664 * T + j * T := Nat.add_mul _ _ _
  have e2 : (70368744177664 + (j + 1)) * (T + v) = 70368744177664 * T + 70368744177664 * v + (j * T + j * v) + (T + v) := by
    rw [← Nat.add_assoc, Nat.add_mul, Nat.add_mul, Nat.mul_add, Nat.mul_add, Nat.one_mul]
  rw [e1] at h1
  rw [e2]
  generalize j * T = A at *
  generalize j * v = B at *
  omega
theorem step_down {a T v c j : Nat} (hj : j ≤ 64) (h1 : 70368744177664 * T ≤ (70368744177664 + j) * a) (h2 : 9007199254740992 * (a + v) ≤ 9007199254740992 * c + (a + v)) : 70368744177664 * (T + v) ≤ (70368744177664 + (j + 1)) * c := by
  have hC : j * c ≤ 64 * c := Nat.mul_le_mul_right _ hj
  have h3 := Nat.mul_le_mul_left j h2
  have e1 : (70368744177664 + j) * a = 70368744177664 * a + j * a := Nat.add_mul _ _ _
  have e2 : (70368744177664 + (j + 1)) * c = 70368744177664 * c + j * c + c := by
    rw [← Nat.add_assoc, Nat.add_mul, Nat.add_mul, Nat.one_mul]
  have e3 : j * (9007199254740992 * (a + v)) = 9007199254740992 * (j * a + j * v) := by rw [Nat.mul_left_comm, Nat.mul_add]
  have e4 : j * (9007199254740992 * c + (a + v)) = 9007199254740992 * (j * c) + (j * a + j * v) := by rw [Nat.mul_add, Nat.mul_left_comm, Nat.mul_add]
  rw [e1] at h1
  rw [e2]
  rw [e3, e4] at h3
  generalize j * a = A at *
  generalize j * v = B at *
  generalize j * c = C at *
  omega
theorem sum_near : ∀ (l : List Nat) (s T j : Nat), 70368744177664 * val s ≤ (70368744177664 + j) * T → 70368744177664 * T ≤ (70368744177664 + j) * val s → j + l.length ≤ 64 → sumB s l < 9218868437227405312 →
    70368744177664 * val (sumB s l) ≤ (70368744177664 + (j + l.length)) * (T + vsum l) ∧ 70368744177664 * (T + vsum l) ≤ (70368744177664 + (j + l.length)) * val (sumB s l)
  | [], s, T, j, h1, h2, _, _ => ⟨by simpa [sumB, vsum] using h1, by simpa [sumB, vsum] using h2⟩
  | x :: l, s, T, j, h1, h2, hj, hs => by
    have hs' : sumB (addB s x) l < 9218868437227405312 := hs
    have hlt : addB s x < 9218868437227405312 := Nat.lt_of_le_of_lt (sumB_ge l (addB_le s x)) hs'
    obtain ⟨n1, n2⟩ := addB_near hlt
    simp only [List.length_cons] at hj ⊢
    have := sum_near l (addB s x) (T + val x) (j + 1) (step_up (by omega) h1 n1) (step_down (by omega) h2 n2) (by omega) hs'
    have e1 : T + vsum (x :: l) = T + val x + vsum l := by simp [vsum, Nat.add_assoc]
    have e2 : j + (l.length + 1) = j + 1 + l.length := by omega
    rw [e1, e2]
    exact this
section
variable {S n : Nat}
def qv (S x : Nat) : Nat := val (divB x S)
def yv (S n x : Nat) : Nat := val (rnd (val (divB x S) * n))
def pv (S n x : Nat) : Nat := val (rnd (val (divB x S) * n)) / unit
theorem q_sum (h0 : S ≠ 0) (hS : S < 9218868437227405312) : ∀ (l : List Nat), (∀ x ∈ l, x ≤ S) →
    9007199254740992 * ((l.map (qv S)).sum * val S) ≤ 9007199254740995 * (vsum l * unit) + l.length * (4503599627370496 * val S) ∧ 9007199254740989 * (vsum l * unit) ≤ 9007199254740992 * ((l.map (qv S)).sum * val S) + l.length * (4503599627370496 * val S)
  | [], _ => by simp [vsum]
  | x :: l, h => by
    obtain ⟨n1, n2⟩ := div_near (a := x) h0 (divB_lt h0 (val_le (h x (by simp))))
    obtain ⟨i1, i2⟩ := q_sum h0 hS l (fun y hy => h y (by simp [hy]))
    simp only [List.map_cons, List.sum_cons, List.length_cons, vsum] at i1 i2 ⊢
    have e0 : qv S x = val (divB x S) := rfl
    rw [Nat.add_mul, Nat.add_mul (val x), Nat.add_mul l.length, Nat.one_mul, e0]
    generalize val (divB x S) * val S = a at *
    generalize (l.map (qv S)).sum * val S = b at *
    generalize val x * unit = c at *
    generalize (l.map val).sum * unit = d at *
    generalize l.length * (4503599627370496 * val S) = e at *
    omega
theorem y_sum (h0 : S ≠ 0) (hS : S < 9218868437227405312) (hn : n ≤ 1000) : ∀ (l : List Nat), (∀ x ∈ l, x ≤ S) →
    9007199254740992 * (l.map (yv S n)).sum ≤ 9007199254740993 * ((l.map (qv S)).sum * n) ∧ 9007199254740992 * ((l.map (qv S)).sum * n) ≤ 9007199254740992 * (l.map (yv S n)).sum + (l.map (qv S)).sum * n
  | [], _ => by simp
  | x :: l, h => by
    obtain ⟨n1, n2⟩ := rnd_near (part_fl hS (h x (by simp)) h0 hn).2.2.2.2
    obtain ⟨i1, i2⟩ := y_sum h0 hS hn l (fun y hy => h y (by simp [hy]))
    simp only [List.map_cons, List.sum_cons]
    have e0 : qv S x = val (divB x S) := rfl
    have e1 : yv S n x = val (rnd (val (divB x S) * n)) := rfl
    rw [Nat.add_mul, e0, e1]
    generalize val (rnd (val (divB x S) * n)) = a at *
    generalize val (divB x S) * n = b at *
    generalize (l.map (qv S)).sum * n = c at *
    generalize (l.map (yv S n)).sum = d at *
    omega
theorem pv_zero : pv S n 0 = 0 ∧ yv S n 0 = 0 := by
  unfold pv yv
  rw [divB_zero, val_zero, Nat.zero_mul]
  have : rnd 0 = 0 := by decide +kernel
  rw [this, val_zero]
  exact ⟨Nat.zero_div _, rfl⟩
theorem p_sum : ∀ (l : List Nat), (l.map (pv S n)).sum * unit ≤ (l.map (yv S n)).sum ∧ (l.map (yv S n)).sum ≤ ((l.map (pv S n)).sum + l.countP (fun x => decide (x ≠ 0))) * unit
  | [] => by simp
  | x :: l => by
    obtain ⟨i1, i2⟩ := p_sum l
    simp only [List.map_cons, List.sum_cons, List.countP_cons]
    have hu := unit_pos
    have e1 : yv S n x = val (rnd (val (divB x S) * n)) := rfl
    have e2 : pv S n x = yv S n x / unit := rfl
    have h1 := Nat.div_add_mod (yv S n x) unit
    have h2 := Nat.mod_lt (yv S n x) hu
    rw [← e2, Nat.mul_comm] at h1
    by_cases hx : x = 0
    · subst hx
      rw [pv_zero.1, pv_zero.2]
      simp only [Nat.zero_add, ne_eq, not_true_eq_false, decide_false, Bool.false_eq_true, if_false, Nat.add_zero]
      exact ⟨i1, i2⟩
    · rw [if_pos (by simpa using hx)]
      rw [Nat.add_mul] at i2 ⊢
      rw [show pv S n x + (l.map (pv S n)).sum + (l.countP (fun x => decide (x ≠ 0)) + 1) = pv S n x + (l.map (pv S n)).sum + l.countP (fun x => decide (x ≠ 0)) + 1 by omega]
      rw [Nat.add_mul, Nat.add_mul (pv S n x + _), Nat.add_mul (pv S n x), Nat.one_mul]
      generalize pv S n x * unit = a at *
      generalize (l.map (pv S n)).sum * unit = b at *
      generalize l.countP (fun x => decide (x ≠ 0)) * unit = c at *
      omega
theorem parts_bound {w : List Nat} (hw : ∀ x ∈ w, x < 9218868437227405312) (hS : sumB 0 w < 9218868437227405312) (h0 : sumB 0 w ≠ 0) (hl : w.length ≤ 60) (hn1 : 1 ≤ n) (hn : n ≤ 1000) :
    (w.map (pv (sumB 0 w) n)).sum ≤ n ∧ n ≤ (w.map (pv (sumB 0 w) n)).sum + w.countP (fun x => decide (x ≠ 0)) := by
  have hm := sumB_mem w (s := 0) (fun x hx => by have := hw x hx; unfold fInf; omega)
  obtain ⟨s1, s2⟩ := sum_near w 0 0 0 (by rw [val_zero]; simp) (by simp) (by omega) hS
  rw [Nat.zero_add, Nat.zero_add] at s1 s2
  obtain ⟨q1, q2⟩ := q_sum h0 hS w hm
  obtain ⟨y1, y2⟩ := y_sum h0 hS hn w hm
  obtain ⟨p1, p2⟩ := p_sum (S := sumB 0 w) (n := n) w
  have hB : 0 < val (sumB 0 w) := by have := val_zero_iff (a := sumB 0 w); omega
  generalize val (sumB 0 w) = B at *
  generalize (w.map (qv (sumB 0 w))).sum = X at *
  generalize (w.map (yv (sumB 0 w) n)).sum = Y at *
  generalize (w.map (pv (sumB 0 w) n)).sum = P at *
  generalize w.countP (fun x => decide (x ≠ 0)) = c at *
  generalize vsum w = T at *
  generalize hL : w.length = L at *
  have hub := unit_big
  generalize unit = U at *
  -- the sum of quotients
  have s1' : 70368744177664 * T ≤ 70368744177724 * B := Nat.le_trans s2 (Nat.mul_le_mul_right _ (by omega))
  have s2' : 70368744177664 * B ≤ 70368744177724 * T := Nat.le_trans s1 (Nat.mul_le_mul_right _ (by omega))
  have hLB : L * (4503599627370496 * B) ≤ 60 * (4503599627370496 * B) := Nat.mul_le_mul_right _ hl
  have t1 := Nat.mul_le_mul_right U s1'
  have t2 := Nat.mul_le_mul_right U s2'
  rw [Nat.mul_assoc, Nat.mul_assoc] at t1 t2
  have x1 : 70368744177664 * (9007199254740992 * X) ≤ 9007199254740995 * 70368744177724 * U + 70368744177664 * (60 * 4503599627370496) := by
    apply Nat.le_of_mul_le_mul_right _ hB
    rw [Nat.add_mul, Nat.mul_assoc, Nat.mul_assoc 9007199254740992, Nat.mul_assoc _ U, Nat.mul_assoc 70368744177664, Nat.mul_assoc 60, Nat.mul_comm U B]
    generalize X * B = a at *
    generalize T * U = d at *
    generalize B * U = e at *
    omega
  have x2 : 70368744177664 * (9007199254740989 * U) ≤ 70368744177724 * (9007199254740992 * X + 60 * 4503599627370496) := by
    apply Nat.le_of_mul_le_mul_right _ hB
    rw [Nat.mul_assoc, Nat.mul_assoc 9007199254740989, Nat.mul_assoc 70368744177724, Nat.add_mul, Nat.mul_assoc 9007199254740992, Nat.mul_assoc 60, Nat.mul_comm U B]
    generalize X * B = a at *
    generalize T * U = d at *
    generalize B * U = e at *
    omega
  -- times n
  have z1 := Nat.mul_le_mul_right n x1
  have z2 := Nat.mul_le_mul_right n x2
  rw [Nat.add_mul, Nat.mul_assoc, Nat.mul_assoc 9007199254740992, Nat.mul_assoc _ U, Nat.mul_comm U n] at z1
  rw [Nat.mul_assoc, Nat.mul_assoc 9007199254740989, Nat.mul_assoc 70368744177724, Nat.add_mul, Nat.mul_assoc 9007199254740992, Nat.mul_comm U n] at z2
  have hW : n * U ≤ 1000 * U := Nat.mul_le_mul_right _ hn
  constructor
  · apply Classical.byContradiction
    intro hc
    have h1 : (n + 1) * U ≤ P * U := Nat.mul_le_mul_right _ (by omega)
    rw [Nat.add_mul, Nat.one_mul] at h1
    generalize X * n = Z at *
    generalize n * U = W at *
    generalize P * U = R at *
    omega
  · apply Classical.byContradiction
    intro hc
    have h1 : (P + c + 1) * U ≤ n * U := Nat.mul_le_mul_right _ (by omega)
    rw [Nat.add_mul, Nat.one_mul] at h1
    generalize X * n = Z at *
    generalize n * U = W at *
    generalize (P + c) * U = R at *
    omega
end
end Go.Sp
