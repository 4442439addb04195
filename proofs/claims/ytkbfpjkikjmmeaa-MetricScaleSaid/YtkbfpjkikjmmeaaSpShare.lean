/-
  How shares go by weights.
-/
import Derived.Test.YtkbfpjkikjmmeaaSpQuo
namespace Go.Sp
set_option linter.unusedVariables false
set_option linter.unusedSimpArgs false
/-- What is no cost is not above one that is. -/
theorem order_bad {x y : Nat} (hx : fInf < x) (hx2 : x < 18446744073709551616) (hy : y ≤ fInf) : Ieee.double.order x y ≠ some .gt ∧ (y ≠ 0 → Ieee.double.order x y ≠ some .eq) := by
  unfold fInf at hx hy
  unfold Ieee.Format.order
  have hy' : (∃ m e, Ieee.double.read y = .number false m e ∧ (y ≠ 0 → m ≠ 0)) ∨ Ieee.double.read y = .infinity false := by
    by_cases h : y = 9218868437227405312
    · right; rw [h, read_inf]
    · left; exact ⟨_, _, read_pos (by omega), fMag_pos⟩
  by_cases h4 : x < 9223372036854775808
  · obtain ⟨t, ht⟩ := read_nan hx h4
    rw [ht]
    simp [Ieee.Datum.order]
  · rcases read_neg (by omega) hx2 with ⟨m, e, hr⟩ | hr | ⟨t, hr⟩
    · rw [hr]
      rcases hy' with ⟨n, j, h, hne⟩ | h
      · rw [h]
        simp only [Ieee.Datum.order, Ieee.signed, Bool.false_eq_true, if_false, if_true, Nat.shiftLeft_eq]
        generalize hk : m * 2 ^ (e - min e j).toNat = k
        generalize hl : n * 2 ^ (j - min e j).toNat = l
        by_cases hc : k = 0 ∧ l = 0
        · obtain ⟨rfl, rfl⟩ := hc
          refine ⟨by decide, fun hy0 => ?_⟩
          have := hne hy0
          exfalso
          rcases Nat.mul_eq_zero.1 hl with h1 | h1
          · exact this h1
          · have := Nat.two_pow_pos (j - min e j).toNat; omega
        · rw [cmp_lt (show (-(k : Int)) < (l : Int) by omega)]
          simp
      · rw [h]; simp [Ieee.Datum.order]
    · rw [hr]
      rcases hy' with ⟨n, j, h, _⟩ | h
      · rw [h]; simp [Ieee.Datum.order]
      · rw [h]; simp [Ieee.Datum.order]; decide
    · rw [hr]
      simp [Ieee.Datum.order]
theorem fGtr_nn {x y : Nat} (hx : x ≤ fInf) (hy : y ≤ fInf) : fGtr x y = decide (y < x) := by
  unfold fGtr
  rw [order_pos hx hy]
  rcases Nat.lt_trichotomy x y with h | h | h
  · rw [cmp_lt (by omega), decide_eq_false (by omega)]; rfl
  · subst h; rw [cmp_eq, decide_eq_false (by omega)]; rfl
  · rw [cmp_gt (by omega), decide_eq_true h]; rfl
theorem fGtr_le {x y : Nat} (hx : x < 18446744073709551616) (hy : y ≤ fInf) (h : fGtr x y = true) : x ≤ fInf ∧ y < x := by
  by_cases h1 : x ≤ fInf
  · rw [fGtr_nn h1 hy] at h
    exact ⟨h1, of_decide_eq_true h⟩
  · have := (order_bad (by omega) hx hy).1
    unfold fGtr at h
    simp at h
    exact absurd h this
def isInf (x : Nat) : Bool := fGtr x 9218868437227405311
def isPos (x : Nat) : Bool := fGtr x 0
theorem isInf_eq {x : Nat} (hx : x < 18446744073709551616) (h : isInf x = true) : x = fInf := by
  obtain ⟨h1, h2⟩ := fGtr_le hx (by unfold fInf; omega) h
  unfold fInf at h1 ⊢; omega
theorem isInf_nn {x : Nat} (hx : x ≤ fInf) : isInf x = decide (x = fInf) := by
  unfold isInf
  rw [fGtr_nn hx (by unfold fInf; omega)]
  apply decide_eq_decide.2
  unfold fInf at hx ⊢; omega
theorem isPos_nn {x : Nat} (hx : x ≤ fInf) : isPos x = decide (x ≠ 0) := by
  unfold isPos
  rw [fGtr_nn hx (by omega)]
  apply decide_eq_decide.2; omega
theorem isPos_le {x : Nat} (hx : x < 18446744073709551616) (h : isPos x = true) : x ≤ fInf ∧ x ≠ 0 := by
  obtain ⟨h1, h2⟩ := fGtr_le hx (Nat.zero_le _) h
  exact ⟨h1, by omega⟩
theorem isInf_pos {x : Nat} (hx : x < 18446744073709551616) (h : isInf x = true) : isPos x = true := by
  have := isInf_eq hx h
  rw [isPos_nn (by omega)]
  exact decide_eq_true (by rw [this]; unfold fInf; omega)

/-! ### Weights -/
def one : Nat := 4607182418800017408
def great (l : List Nat) : Bool := l.any isInf
def wOf (g : Bool) (x : Nat) : Nat := if g && isInf x then one else if !g && isPos x then x else 0
def weights (l : List Nat) : List Nat := l.map (wOf (great l))
theorem weights_len (l : List Nat) : (weights l).length = l.length := by simp [weights]
theorem weights_lt {l : List Nat} (hl : ∀ x ∈ l, x < 18446744073709551616) : ∀ w ∈ weights l, w < 9218868437227405312 := by
  intro w hw
  obtain ⟨x, hx, rfl⟩ := List.mem_map.1 hw
  have hx2 := hl x hx
  unfold wOf
  split
  · unfold one; omega
  · split
    · rename_i h1 h2
      simp only [Bool.and_eq_true, Bool.not_eq_true'] at h2
      obtain ⟨h3, h4⟩ := isPos_le hx2 h2.2
      have h5 : isInf x = false := by
        cases h6 : isInf x with
        | false => rfl
        | true =>
          have : great l = true := List.any_eq_true.2 ⟨x, hx, h6⟩
          rw [this] at h2; cases h2.1
      rw [isInf_nn h3] at h5
      have := of_decide_eq_false h5
      unfold fInf at h3 this; omega
    · omega
def iter (f : Nat → Nat) : Nat → Nat → Nat
  | 0, x => x
  | k + 1, x => iter f k (f x)
theorem iter_succ (f : Nat → Nat) (k x : Nat) : iter f (k + 1) x = iter f k (f x) := rfl
theorem iter_snoc (f : Nat → Nat) (k : Nat) : ∀ x : Nat, iter f (k + 1) x = f (iter f k x) := by
  induction k with
  | zero => intro x; rfl
  | succ k ih => intro x; rw [iter_succ, ih, iter_succ]
/-- So often halved. -/
def halvesB (k x : Nat) : Nat := iter hlv k x
theorem halvesB_zero (x : Nat) : halvesB 0 x = x := rfl
theorem halvesB_succ (k x : Nat) : halvesB (k + 1) x = halvesB k (hlv x) := iter_succ hlv k x
theorem halvesB_snoc (k x : Nat) : halvesB (k + 1) x = hlv (halvesB k x) := iter_snoc hlv k x
attribute [irreducible] halvesB
theorem halvesB_le : ∀ (k : Nat) {x : Nat}, x < 9218868437227405312 → halvesB k x ≤ x
  | 0, x, _ => by rw [halvesB_zero]; exact Nat.le_refl x
  | k + 1, x, h => by
    have h1 := hlv_le h
    rw [halvesB_succ]
    exact Nat.le_trans (halvesB_le k (by omega)) h1
theorem halvesB_small : ∀ (k : Nat) {x : Nat}, x < 9218868437227405312 → halvesB k x ≤ max (x - k * 4503599627370496) 9007199254740992
  | 0, x, _ => by rw [halvesB_zero]; omega
  | k + 1, x, h => by
    have h1 := hlv_le h
    rw [halvesB_succ]
    by_cases hb : 9007199254740992 ≤ x
    · have h2 := halvesB_small k (x := hlv x) (by omega)
      rw [hlv_big hb h] at h2 ⊢
      rw [Nat.add_mul]; omega
    · have h2 := halvesB_le k (x := hlv x) (by omega)
      omega
theorem halvesB_bigc {c m : Nat} (hc : ∀ x, 2 * c ≤ x → x < m → hlv x = x - c) (k : Nat) : ∀ {x : Nat}, x < m → (k + 1) * c ≤ x → halvesB k x = x - k * c := by
  induction k with
  | zero => intro x _ _; rw [halvesB_zero, Nat.zero_mul, Nat.sub_zero]
  | succ k ih =>
    intro x h hb
    have e2 : (k + 1) * c = k * c + c := by rw [Nat.add_mul, Nat.one_mul]
    have e1 : (k + 1 + 1) * c = k * c + c + c := by rw [Nat.add_mul, Nat.one_mul, e2]
    rw [e1] at hb
    have h5 := ih (x := x - c) (by omega) (by rw [e2]; omega)
    rw [halvesB_succ, hc x (by omega) h, h5, e2]
    omega
theorem halvesB_big {x : Nat} (h : x < 9218868437227405312) (hb : 65 * 4503599627370496 ≤ x) : halvesB 64 x = x - 64 * 4503599627370496 :=
  halvesB_bigc (c := 4503599627370496) (m := 9218868437227405312) (fun x h1 h2 => hlv_big (by omega) h2) 64 h hb
/-! ### Sums -/
theorem addB_ge2 {a b : Nat} (hb : b ≤ fInf) : b ≤ addB a b := by rw [addB_comm]; exact addB_ge hb
theorem sumB_ge : ∀ (l : List Nat) {s : Nat}, s ≤ fInf → s ≤ sumB s l
  | [], _, _ => Nat.le_refl _
  | x :: l, s, hs => Nat.le_trans (addB_ge hs) (sumB_ge l (addB_le s x))
theorem sumB_cap (l : List Nat) {s : Nat} (hs : s ≤ fInf) : sumB s l ≤ fInf := by
  induction l generalizing s with
  | nil => exact hs
  | cons x l ih => exact ih (addB_le s x)
theorem sumB_mem : ∀ (l : List Nat) {s : Nat}, (∀ x ∈ l, x ≤ fInf) → ∀ x ∈ l, x ≤ sumB s l
  | y :: l, s, hl, x, hx => by
    rcases List.mem_cons.1 hx with rfl | hx
    · exact Nat.le_trans (addB_ge2 (hl x (by simp))) (sumB_ge l (addB_le s x))
    · exact sumB_mem l (fun z hz => hl z (by simp [hz])) x hx
theorem sumB_zero : ∀ (l : List Nat), (∀ x ∈ l, x = 0) → sumB 0 l = 0
  | [], _ => rfl
  | x :: l, h => by
    have hx := h x (by simp)
    subst hx
    show sumB (addB 0 0) l = 0
    rw [addB_zero (Nat.zero_le _)]
    exact sumB_zero l (fun y hy => h y (by simp [hy]))
theorem sumB_zero_iff {l : List Nat} (hl : ∀ x ∈ l, x ≤ fInf) : sumB 0 l = 0 ↔ ∀ x ∈ l, x = 0 := by
  constructor
  · intro h x hx
    have := sumB_mem l (s := 0) hl x hx
    omega
  · exact sumB_zero l
/-- Weights that are taken, and what they are together. -/
def taken (w : List Nat) : List Nat := if sumB 0 w = fInf then w.map (halvesB 64) else w
theorem taken_len (w : List Nat) : (taken w).length = w.length := by unfold taken; split <;> simp
theorem taken_ok {w : List Nat} (hw : ∀ x ∈ w, x < 9218868437227405312) (hn : w.length ≤ 60) (h0 : sumB 0 w ≠ 0) :
    (∀ x ∈ taken w, x < 9218868437227405312) ∧ sumB 0 (taken w) < 9218868437227405312 ∧ sumB 0 (taken w) ≠ 0 := by
  unfold taken
  have hcap := sumB_cap w (s := 0) (Nat.zero_le _)
  split
  · rename_i hs
    have hlt : ∀ x ∈ w.map (halvesB 64), x ≤ 9218868437227405312 - 64 * 4503599627370496 := by
      intro x hx
      obtain ⟨y, hy, rfl⟩ := List.mem_map.1 hx
      have h1 := halvesB_small 64 (hw y hy)
      have := hw y hy
      omega
    refine ⟨fun x hx => by have := hlt x hx; omega, ?_, ?_⟩
    · have h1 := sumB_le (m := 9218868437227405312 - 64 * 4503599627370496) (w.map (halvesB 64)) 0 (by omega) hlt
      rw [List.length_map] at h1
      have h2 : w.length * 4503599627370496 ≤ 60 * 4503599627370496 := Nat.mul_le_mul_right _ hn
      omega
    · intro hz
      have hbig : ∃ y ∈ w, 9218868437227405312 - 61 * 4503599627370496 < y := by
        apply Classical.byContradiction
        intro hc
        have h1 := sumB_le (m := 9218868437227405312 - 61 * 4503599627370496) w 0 (by omega) (fun x hx => by
          apply Classical.byContradiction
          intro hx2
          exact hc ⟨x, hx, by omega⟩)
        have h2 : w.length * 4503599627370496 ≤ 60 * 4503599627370496 := Nat.mul_le_mul_right _ hn
        unfold fInf at hs
        omega
      obtain ⟨y, hy, hyb⟩ := hbig
      have h1 := halvesB_big (hw y hy) (by omega)
      have h2 := (sumB_zero_iff (l := w.map (halvesB 64)) (fun x hx => by have := hlt x hx; unfold fInf; omega)).1 hz _ (List.mem_map.2 ⟨y, hy, rfl⟩)
      omega
  · rename_i hs
    refine ⟨hw, ?_, h0⟩
    unfold fInf at hcap hs; omega

/-! ### Shares -/
def prt (S n x : Nat) : Int := min ((val (rnd (val (divB x S) * n)) / unit : Nat) : Int) (n : Int)
/-- What is left over behind the first so many. -/
def leftAt (ts : List Bool) (left : Int) : Nat → Int
  | 0 => left
  | j + 1 => if ts.getD j false && decide (0 < leftAt ts left j) then leftAt ts left j - 1 else leftAt ts left j
def outAt (ts : List Bool) (ps : List Int) (left : Int) (j : Nat) : Int := ps.getD j 0 + (if ts.getD j false && decide (0 < leftAt ts left j) then 1 else 0)
def spread (ts : List Bool) (ps : List Int) (left : Int) : List Int := (List.range ps.length).map (outAt ts ps left)
def parts (l : List Nat) (n : Nat) : List Int := (taken (weights l)).map (prt (sumB 0 (taken (weights l))) n)
def sharesB (l : List Nat) (n : Int) : List Int :=
  if min n 1000 < 1 ∨ sumB 0 (weights l) = 0 then List.replicate l.length 0
  else spread ((weights l).map isPos) (parts l (min n 1000).toNat) (min n 1000 - (parts l (min n 1000).toNat).sum)
theorem parts_len (l : List Nat) (n : Nat) : (parts l n).length = l.length := by simp [parts, taken_len, weights_len]
theorem spread_len (ts : List Bool) (ps : List Int) (left : Int) : (spread ts ps left).length = ps.length := by simp [spread]
theorem sharesB_len (l : List Nat) (n : Int) : (sharesB l n).length = l.length := by
  unfold sharesB
  split
  · simp
  · rw [spread_len, parts_len]
/-- The float behind a part is right. -/
theorem part_fl {S n x : Nat} (hS : S < 9218868437227405312) (hx : x ≤ S) (h0 : S ≠ 0) (hn : n ≤ 1000) :
    floatBits .quo .f64 x S = some (divB x S) ∧ floatBits .mul .f64 (divB x S) (fOfInt (n : Int)) = some (rnd (val (divB x S) * n)) ∧ floatToIntVal .f64 (rnd (val (divB x S) * n)) .i64 = some ((val (rnd (val (divB x S) * n)) / unit : Nat) : Int) ∧
      divB x S < 9218868437227405312 ∧ rnd (val (divB x S) * n) < 9218868437227405312 := by
  have hv := val_le hx
  have hlt := divB_lt h0 hv
  have hS0 : 0 < val S := by have := val_zero_iff (a := S); omega
  have hnear := (div_near h0 hlt).1
  -- no more than some two
  have h2 : val (divB x S) ≤ 2 * unit := by
    have h1 : val x * unit ≤ val S * unit := Nat.mul_le_mul_right _ hv
    have hu : val S * 1 ≤ val S * unit := Nat.mul_le_mul_left _ unit_pos
    have h3 : val (divB x S) * val S ≤ 2 * unit * val S := by
      rw [show 2 * unit * val S = 2 * (val S * unit) by ac_rfl]
      rw [Nat.mul_one] at hu
      generalize val (divB x S) * val S = p at *
      generalize val x * unit = q at *
      generalize val S * unit = r at *
      omega
    exact Nat.le_of_mul_le_mul_right h3 hS0
  have h4 : val (divB x S) * n ≤ 2000 * unit := by
    have := Nat.mul_le_mul h2 hn
    rw [show 2 * unit * 1000 = 2000 * unit by omega] at this
    exact this
  have h5 : rnd (val (divB x S) * n) ≤ fOfInt ((2000 : Nat) : Int) := by rw [fOfInt_nat]; exact rnd_mono h4
  obtain ⟨h6, h7⟩ := val_fOfInt (n := 2000) (by omega)
  have h8 := val_le h5
  rw [h6] at h8
  have h9 : val (rnd (val (divB x S) * n)) / unit ≤ 2000 := Nat.le_trans (Nat.div_le_div_right h8) (by rw [Nat.mul_div_cancel _ unit_pos]; omega)
  have h10 : rnd (val (divB x S) * n) < 9218868437227405312 := by omega
  exact ⟨fl_div (by omega) hS h0, fl_mul hlt (by omega), fl_cut h10 (Nat.lt_of_le_of_lt h9 (by omega)), hlt, h10⟩
end Go.Sp
