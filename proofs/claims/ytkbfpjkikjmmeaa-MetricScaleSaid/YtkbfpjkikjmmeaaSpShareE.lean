/-
  Weights that are all twice as great, or half, share the same.
-/
import Derived.Test.YtkbfpjkikjmmeaaSpShareD
import Derived.Test.YtkbfpjkikjmmeaaSpNan
namespace Go.Sp
set_option linter.unusedVariables false
set_option linter.unusedSimpArgs false
/-- One more binary place. -/
def bin : Nat := 4503599627370496
theorem val_up {x : Nat} (h : bin ≤ x) : val (x + bin) = 2 * val x := by
  unfold bin at *
  unfold val fMag fExp
  rw [if_neg (by omega), if_neg (by omega)]
  have h2 : (x + 4503599627370496) / 4503599627370496 = x / 4503599627370496 + 1 := by omega
  have h3 : (x + 4503599627370496) % 4503599627370496 = x % 4503599627370496 := by omega
  have h4 : 1 ≤ x / 4503599627370496 := by omega
  rw [h2, h3, show x / 4503599627370496 + 1 - 1 = (x / 4503599627370496 - 1) + 1 by omega, Nat.pow_succ]
  generalize 2 ^ (x / 4503599627370496 - 1) = g
  generalize 4503599627370496 + x % 4503599627370496 = M
  rw [Nat.mul_comm g 2, ← Nat.mul_assoc, ← Nat.mul_assoc, Nat.mul_comm M 2]
theorem val_bin {x : Nat} (h : bin ≤ x) : bin ≤ val x := by
  have := val_le h
  have h2 : val bin = bin := by decide +kernel
  omega
theorem rnd_up {n : Nat} (hn : bin ≤ n) (h : rnd n + bin < 9218868437227405312) : rnd (2 * n) = rnd n + bin := by
  unfold bin at *
  have h0 : n ≠ 0 := by omega
  have hL : 52 ≤ n.log2 := (Nat.le_log2 h0).2 (by omega)
  have hl2 : (2 * n).log2 = n.log2 + 1 := by
    have := log2_scale h0 1
    rw [Nat.pow_one, Nat.mul_comm] at this
    exact this
  have hr : rev (2 * n) (n.log2 + 1 - 52) = rev n (n.log2 - 52) := by
    have := rev_scale n (n.log2 - 52) 1
    rw [Nat.pow_one, Nat.mul_comm, show n.log2 - 52 + 1 = n.log2 + 1 - 52 by omega] at this
    exact this
  unfold rnd fInf at h ⊢
  rw [hl2, hr]
  have e : (n.log2 + 1 - 52) * 4503599627370496 = (n.log2 - 52) * 4503599627370496 + 4503599627370496 := by
    rw [show n.log2 + 1 - 52 = n.log2 - 52 + 1 by omega, Nat.add_mul, Nat.one_mul]
  rw [e]
  have key : ∀ z q c i : Nat, min (z + q) i + c < i → min (z + c + q) i = min (z + q) i + c := fun z q c i h => by omega
  exact key _ _ _ _ h
theorem addB_up {x y : Nat} (hx : bin ≤ x) (hy : bin ≤ y) (h : addB x y + bin < 9218868437227405312) : addB (x + bin) (y + bin) = addB x y + bin := by
  have hx2 : x ≤ addB x y := by
    by_cases hc : x ≤ fInf
    · exact addB_ge hc
    · unfold addB at h
      unfold fInf at hc
      rw [if_neg (by omega)] at h
      unfold bin at h; omega
  have hy2 : y ≤ addB x y := by
    by_cases hc : y ≤ fInf
    · exact addB_ge2 hc
    · unfold addB at h
      unfold fInf at hc
      rw [if_neg (by omega)] at h
      unfold bin at h; omega
  have h1 : x < 9218868437227405312 ∧ y < 9218868437227405312 := by omega
  have h2 : x + bin < 9218868437227405312 ∧ y + bin < 9218868437227405312 := by omega
  unfold addB at h ⊢
  rw [if_pos h1] at h ⊢
  rw [if_pos h2, val_up hx, val_up hy, ← Nat.mul_add]
  exact rnd_up (Nat.le_trans (val_bin hx) (Nat.le_add_right _ _)) h
def up (x : Nat) : Nat := if x = 0 then 0 else x + bin
theorem up_zero : up 0 = 0 := rfl
theorem up_pos {x : Nat} (h : x ≠ 0) : up x = x + bin := by unfold up; rw [if_neg h]
/-- Nought, or no least number. -/
def nrm (x : Nat) : Prop := x = 0 ∨ bin ≤ x
theorem addB_upz {x y : Nat} (hx : nrm x) (hy : nrm y) (hx1 : x ≤ fInf) (hy1 : y ≤ fInf) (h : addB x y + bin < 9218868437227405312) : addB (up x) (up y) = up (addB x y) ∧ nrm (addB x y) := by
  have hb : bin ≠ 0 := by decide
  have hle : ∀ {z : Nat}, z + bin < 9218868437227405312 → z + bin ≤ fInf := fun h => by unfold fInf; omega
  rcases hx with rfl | hx
  · rw [addB_zero hy1] at h ⊢
    rw [up_zero]
    rcases hy with rfl | hy
    · rw [up_zero, addB_zero (Nat.zero_le _)]; exact ⟨rfl, .inl rfl⟩
    · rw [up_pos (by omega), addB_zero (hle h)]; exact ⟨rfl, .inr hy⟩
  · rcases hy with rfl | hy
    · rw [addB_comm x 0, addB_zero hx1] at h ⊢
      rw [up_zero, addB_comm (up x) 0, up_pos (by omega), addB_zero (hle h)]
      exact ⟨rfl, .inr hx⟩
    · have hge : x ≤ addB x y := addB_ge hx1
      rw [up_pos (show x ≠ 0 by omega), up_pos (show y ≠ 0 by omega), up_pos (show addB x y ≠ 0 by omega), addB_up hx hy h]
      exact ⟨rfl, .inr (by omega)⟩
theorem sumB_up : ∀ (l : List Nat) (s m : Nat), nrm s → s ≤ m → (∀ x ∈ l, nrm x ∧ x ≤ m) → m + (l.length + 1) * bin < 9218868437227405312 → sumB (up s) (l.map up) = up (sumB s l) ∧ nrm (sumB s l) ∧ sumB s l ≤ m + l.length * bin
  | [], s, m, hs, hm, _, _ => ⟨rfl, hs, by simpa [sumB] using hm⟩
  | x :: l, s, m, hs, hm, hl, hb => by
    obtain ⟨hx, hxm⟩ := hl x (by simp)
    have e1 : ((x :: l).length + 1) * bin = (l.length + 1) * bin + bin := by rw [List.length_cons, Nat.add_mul (l.length + 1), Nat.one_mul]
    have e2 : (x :: l).length * bin = l.length * bin + bin := by rw [List.length_cons, Nat.add_mul, Nat.one_mul]
    rw [e1] at hb
    have hpos : 0 ≤ (l.length + 1) * bin := Nat.zero_le _
    have hge : bin ≤ (l.length + 1) * bin := Nat.le_mul_of_pos_left _ (by omega)
    have ha : addB s x ≤ m + bin := addB_le2 hm hxm
    have hf : ∀ {z : Nat}, z ≤ m → z ≤ fInf := fun h => by unfold fInf; omega
    obtain ⟨q1, q2⟩ := addB_upz hs hx (hf hm) (hf hxm) (by omega)
    obtain ⟨i1, i2, i3⟩ := sumB_up l (addB s x) (m + bin) q2 ha (fun y hy => ⟨(hl y (by simp [hy])).1, by have := (hl y (by simp [hy])).2; omega⟩) (by omega)
    refine ⟨?_, i2, by rw [e2]; exact Nat.le_trans i3 (by omega)⟩
    show sumB (addB (up s) (up x)) (l.map up) = _
    rw [q1, i1]; rfl
theorem rndD_more (m K D : Nat) : rndD (m * 2 ^ (K + 1)) (D + 1) = rndD (m * 2 ^ K) D := by
  rw [← nearest_gen, ← nearest_gen]
  congr 1; omega
theorem divB_up {x S : Nat} (hx : nrm x) (hS : bin ≤ S) : divB (up x) (S + bin) = divB x S := by
  rcases hx with rfl | hx
  · rw [up_zero, divB_zero, divB_zero]
  · have hb : bin = 4503599627370496 := rfl
    rw [up_pos (by omega)]
    have e1 : ∀ {z}, bin ≤ z → fMag (z + bin) = fMag z := fun {z} h => by
      rw [hb] at *
      unfold fMag
      rw [if_neg (by omega), if_neg (by omega)]; omega
    have e2 : ∀ {z}, bin ≤ z → fExp (z + bin) = fExp z + 1 := fun {z} h => by
      rw [hb] at *
      unfold fExp; omega
    unfold divB
    rw [e1 hx, e1 hS, e2 hx, e2 hS]
    simp only []
    generalize 54 + (fMag S).log2 - (fMag x).log2 = more
    generalize 2 * (fMag x * 2 ^ more / fMag S) + (fMag x * 2 ^ more % fMag S != 0).toNat = q
    rw [show fExp x + 1 + place = fExp x + place + 1 by omega, show fExp S + 1 + more + 1 = (fExp S + more + 1) + 1 by omega, rndD_more]
theorem sharesB_same2 {l l' : List Nat} {n : Int} (hlen : l'.length = l.length) (hz : sumB 0 (weights l') = 0 ↔ sumB 0 (weights l) = 0) (hts : (weights l').map isPos = (weights l).map isPos) (hps : ∀ m, parts l' m = parts l m) : sharesB l' n = sharesB l n := by
  unfold sharesB
  rw [hlen, hts, hps]
  by_cases hc : min n 1000 < 1 ∨ sumB 0 (weights l) = 0
  · rw [if_pos hc, if_pos (hc.imp id hz.2)]
  · rw [if_neg hc, if_neg (fun h => hc (h.imp id hz.1))]
theorem prt_up {x S n : Nat} (hx : nrm x) (hS : bin ≤ S) : prt (S + bin) n (up x) = prt S n x := by
  rw [prt_eq, prt_eq, divB_up hx hS]
theorem shares_up {l l' : List Nat} {m : Nat} (hlen : l'.length = l.length) (hw : weights l' = (weights l).map up) (hm : ∀ x ∈ weights l, nrm x ∧ x ≤ m) (hb : m + (l.length + 2) * bin < 9218868437227405312) (n : Int) : sharesB l' n = sharesB l n := by
  obtain ⟨q1, q2, q3⟩ := sumB_up (weights l) 0 m (.inl rfl) (Nat.zero_le _) hm (by
    rw [weights_len]
    have : (l.length + 2) * bin = (l.length + 1) * bin + bin := by rw [show l.length + 2 = l.length + 1 + 1 by omega, Nat.add_mul (l.length + 1), Nat.one_mul]
    omega)
  rw [up_zero] at q1
  rw [weights_len] at q3
  have hS : sumB 0 (weights l) + bin < 9218868437227405312 := by
    have : (l.length + 2) * bin = l.length * bin + 2 * bin := Nat.add_mul _ _ _
    omega
  have hpos : (∀ x ∈ weights l, isPos (up x) = isPos x) := fun x hx => by
    obtain ⟨h1, h2⟩ := hm x hx
    rcases h1 with rfl | h1
    · rfl
    · have hlt : x + bin ≤ fInf := by
        unfold fInf
        have : bin ≤ (l.length + 2) * bin := Nat.le_mul_of_pos_left _ (by omega)
        omega
      have hb0 : bin = 4503599627370496 := rfl
      rw [up_pos (by omega), isPos_nn hlt, isPos_nn (by omega), decide_eq_true (show x + bin ≠ 0 by omega), decide_eq_true (show x ≠ 0 by omega)]
  have hts : ((weights l).map up).map isPos = (weights l).map isPos := by
    rw [List.map_map]
    exact List.map_congr_left fun x hx => hpos x hx
  have hb0 : bin = 4503599627370496 := rfl
  have hz : up (sumB 0 (weights l)) = 0 ↔ sumB 0 (weights l) = 0 := by
    unfold up
    split
    · rename_i h; exact ⟨fun _ => h, fun _ => rfl⟩
    · rename_i h; exact ⟨fun h2 => by omega, fun h2 => absurd h2 h⟩
  refine sharesB_same2 hlen (by rw [hw, q1]; exact hz) (by rw [hw, hts]) fun k => ?_
  unfold parts
  rw [hw]
  generalize weights l = W at *
  have t1 : taken W = W := by
    unfold taken
    rw [if_neg (by unfold fInf; omega)]
  have t2 : taken (W.map up) = W.map up := by
    unfold taken
    rw [if_neg (by
      rw [q1]
      unfold up fInf
      split <;> omega)]
  rw [t1, t2, q1, List.map_map]
  refine List.map_congr_left fun x hx => ?_
  rw [Function.comp_apply]
  rcases q2 with h0 | q2
  · have hx0 := (sumB_zero_iff (l := W) (fun y hy => by
      have := (hm y hy).2
      unfold fInf
      omega)).1 h0 x hx
    rw [h0, hx0, up_zero]
  · have h1 := (hm x hx).1
    generalize sumB 0 W = S at *
    rw [up_pos (by omega), prt_up h1 q2]
/-- A float, twice it, and half of it. -/
structure Dbl (t : Nat × Nat × Nat) : Prop where
  inf : isInf t.2.1 = isInf t.1 ∧ isInf t.2.2 = isInf t.1
  pos : isPos t.2.1 = isPos t.1 ∧ isPos t.2.2 = isPos t.1
  fin : isPos t.1 = true → isInf t.1 = false → (2 * bin ≤ t.1 ∧ t.1 ≤ 5055640609639927018) ∧ t.2.1 = t.1 + bin ∧ t.1 = t.2.2 + bin
  lt : t.1 < 18446744073709551616 ∧ t.2.1 < 18446744073709551616 ∧ t.2.2 < 18446744073709551616
theorem any_same {α : Type} {l : List α} {p q : α → Bool} (h : ∀ x ∈ l, p x = q x) : l.any p = l.any q := by
  rw [Bool.eq_iff_iff]
  simp only [List.any_eq_true]
  exact ⟨fun ⟨x, hx, hp⟩ => ⟨x, hx, by rw [← h x hx]; exact hp⟩, fun ⟨x, hx, hp⟩ => ⟨x, hx, by rw [h x hx]; exact hp⟩⟩
theorem great_map (f : Nat × Nat × Nat → Nat) (T : List (Nat × Nat × Nat)) : great (T.map f) = T.any (fun t => isInf (f t)) := by unfold great; rw [List.any_map]; rfl
theorem weights_map (f : Nat × Nat × Nat → Nat) (T : List (Nat × Nat × Nat)) : weights (T.map f) = T.map (fun t => wOf (great (T.map f)) (f t)) := by unfold weights; rw [List.map_map]; rfl
theorem sharesB_same {l l' : List Nat} (hlen : l'.length = l.length) (hw : weights l' = weights l) (n : Int) : sharesB l' n = sharesB l n := by
  refine sharesB_same2 hlen (by rw [hw]) (by rw [hw]) fun k => ?_
  unfold parts
  rw [hw]
theorem scale {T : List (Nat × Nat × Nat)} (hT : ∀ t ∈ T, Dbl t) (hn : T.length ≤ 20) (n : Int) : sharesB (T.map (·.2.1)) n = sharesB (T.map (·.1)) n ∧ sharesB (T.map (·.2.2)) n = sharesB (T.map (·.1)) n := by
  have g1 : great (T.map (·.2.1)) = great (T.map (·.1)) := by
    rw [great_map, great_map]; exact any_same fun t ht => (hT t ht).inf.1
  have g2 : great (T.map (·.2.2)) = great (T.map (·.1)) := by
    rw [great_map, great_map]; exact any_same fun t ht => (hT t ht).inf.2
  cases hg : great (T.map (·.1)) with
  | true =>
    have hone : ∀ x, wOf true x = if isInf x then one else 0 := fun x => by
      unfold wOf
      cases isInf x <;> rfl
    constructor
    · refine sharesB_same (by simp) ?_ n
      rw [weights_map, weights_map, g1, hg]
      exact List.map_congr_left fun t ht => by rw [hone, hone, (hT t ht).inf.1]
    · refine sharesB_same (by simp) ?_ n
      rw [weights_map, weights_map, g2, hg]
      exact List.map_congr_left fun t ht => by rw [hone, hone, (hT t ht).inf.2]
  | false =>
    have hone : ∀ x, wOf false x = if isPos x then x else 0 := fun x => by
      unfold wOf
      rw [Bool.false_and, if_neg (by simp), Bool.not_false, Bool.true_and]
    have hni : ∀ t ∈ T, isInf t.1 = false := fun t ht => by
      rw [great_map] at hg
      cases h : isInf t.1 with
      | false => rfl
      | true =>
        have : T.any (fun t => isInf t.1) = true := List.any_eq_true.2 ⟨t, ht, h⟩
        rw [hg] at this; cases this
    have hb0 : bin = 4503599627370496 := rfl
    have hbl : (T.length + 2) * bin ≤ 22 * bin := Nat.mul_le_mul_right _ (by omega)
    have nz : ∀ {t}, t ∈ T → isPos t.1 = true → t.1 ≠ 0 := fun ht hp h => by rw [h] at hp; rw [isPos_nn (Nat.zero_le _)] at hp; simp at hp
    constructor
    · refine shares_up (m := 5055640609639927018) (by simp) ?_ ?_ (by rw [List.length_map]; omega) n
      · rw [weights_map, weights_map, g1, hg, List.map_map]
        refine List.map_congr_left fun t ht => ?_
        rw [Function.comp_apply, hone, hone, (hT t ht).pos.1]
        cases hp : isPos t.1 with
        | false => rfl
        | true =>
          have := (hT t ht).fin hp (hni t ht)
          rw [if_pos rfl, if_pos rfl, up_pos (nz ht hp)]
          exact this.2.1
      · intro x hx
        rw [weights_map, hg] at hx
        obtain ⟨t, ht, rfl⟩ := List.mem_map.1 hx
        rw [hone]
        cases hp : isPos t.1 with
        | false => exact ⟨.inl rfl, Nat.zero_le _⟩
        | true =>
          have := (hT t ht).fin hp (hni t ht)
          rw [if_pos rfl]
          exact ⟨.inr (by omega), by omega⟩
    · symm
      refine shares_up (m := 5055640609639927018) (by simp) ?_ ?_ (by rw [List.length_map]; omega) n
      · rw [weights_map, weights_map, g2, hg, List.map_map]
        refine List.map_congr_left fun t ht => ?_
        rw [Function.comp_apply, hone, hone, (hT t ht).pos.2]
        cases hp : isPos t.1 with
        | false => rfl
        | true =>
          have := (hT t ht).fin hp (hni t ht)
          rw [if_pos rfl, if_pos rfl, up_pos (by omega)]
          exact this.2.2
      · intro x hx
        rw [weights_map, g2, hg] at hx
        obtain ⟨t, ht, rfl⟩ := List.mem_map.1 hx
        rw [hone, (hT t ht).pos.2]
        cases hp : isPos t.1 with
        | false => exact ⟨.inl rfl, Nat.zero_le _⟩
        | true =>
          have := (hT t ht).fin hp (hni t ht)
          rw [if_pos rfl]
          exact ⟨.inr (by omega), by omega⟩
/-! ### Twice a float, half of one -/
theorem nearest_neg (m : Nat) (p : Int) : 9223372036854775808 ≤ Ieee.double.nearest true m p ∧ Ieee.double.nearest true m p ≤ 18442240474082181120 := by
  unfold Ieee.Format.nearest
  simp only [d_inf, Ieee.Format.word, if_true, d_sign]
  split
  · omega
  · generalize ((max (p + m.log2 - Ieee.double.fractionBits) Ieee.double.leastPlace - Ieee.double.leastPlace).toNat * Ieee.double.binade + _) = z
    omega
theorem read_two : Ieee.double.read two = .number false 4503599627370496 (-51) := by decide +kernel
theorem nanOf_bad (t : Nat) : fInf < nanOf t ∧ nanOf t < 18446744073709551616 := by unfold nanOf fInf; omega
theorem bad_class {r : Nat} (h : fInf < r) (h2 : r < 18446744073709551616) : isInf r = false ∧ isPos r = false := by
  have hp : isPos r = false := by
    cases hp : isPos r with
    | false => rfl
    | true => have := (isPos_le h2 hp).1; omega
  refine ⟨?_, hp⟩
  cases hi : isInf r with
  | false => rfl
  | true => rw [isInf_pos h2 hi] at hp; cases hp
theorem mul_bad {x r : Nat} (hx : fInf < x) (hx2 : x < 18446744073709551616) (h : floatBits .mul .f64 two x = some r) : fInf < r ∧ r < 18446744073709551616 := by
  have h : Ieee.double.mul two x = some r := h
  unfold Ieee.Format.mul at h
  rw [read_two] at h
  unfold fInf at hx ⊢
  by_cases h4 : x < 9223372036854775808
  · obtain ⟨t, ht⟩ := read_nan hx h4
    rw [ht] at h
    simp [Ieee.Datum.product] at h
  · rcases read_neg (by omega) hx2 with ⟨m, e, hr⟩ | hr | ⟨t, hr⟩
    · rw [hr] at h
      simp only [Ieee.Datum.product, Option.map_some, Option.some.injEq] at h
      have := nearest_neg (4503599627370496 * m) (-51 + e)
      have h5 : Ieee.double.nearest true (4503599627370496 * m) (-51 + e) = r := h
      omega
    · rw [hr] at h
      simp only [Ieee.Datum.product, if_neg (show ¬ (4503599627370496 : Nat) = 0 by omega), Option.map_some, Option.some.injEq] at h
      have h5 : (18442240474082181120 : Nat) = r := h
      omega
    · rw [hr] at h
      simp [Ieee.Datum.product] at h
theorem div_bad {x r : Nat} (hx : fInf < x) (hx2 : x < 18446744073709551616) (h : floatBits .quo .f64 x two = some r) : fInf < r ∧ r < 18446744073709551616 := by
  have h : Ieee.double.div x two = some r := h
  unfold Ieee.Format.div at h
  rw [read_two] at h
  unfold fInf at hx ⊢
  by_cases h4 : x < 9223372036854775808
  · obtain ⟨t, ht⟩ := read_nan hx h4
    rw [ht] at h
    simp [Ieee.Datum.quotient] at h
  · rcases read_neg (by omega) hx2 with ⟨m, e, hr⟩ | hr | ⟨t, hr⟩
    · rw [hr] at h
      simp only [Ieee.Datum.quotient, if_neg (show ¬ (4503599627370496 : Nat) = 0 by omega), Option.map_some, Option.some.injEq] at h
      generalize 2 * (m <<< (Ieee.double.fractionBits + 2 + Nat.log2 4503599627370496 - m.log2) / 4503599627370496) + (m <<< (Ieee.double.fractionBits + 2 + Nat.log2 4503599627370496 - m.log2) % 4503599627370496 != 0).toNat = q at h
      generalize e - -51 - ((Ieee.double.fractionBits + 2 + Nat.log2 4503599627370496 - m.log2 : Nat) : Int) - 1 = p at h
      have := nearest_neg q p
      have h5 : Ieee.double.nearest true q p = r := h
      omega
    · rw [hr] at h
      simp only [Ieee.Datum.quotient, Option.map_some, Option.some.injEq] at h
      have h5 : (18442240474082181120 : Nat) = r := h
      omega
    · rw [hr] at h
      simp [Ieee.Datum.quotient] at h
theorem mul_fin {x : Nat} (h1 : bin ≤ x) (h2 : x ≤ 5055640609639927018) : floatBits .mul .f64 two x = some (x + bin) := by
  have hb0 : bin = 4503599627370496 := rfl
  have hxl : x < 9218868437227405312 := by omega
  have h := fl_mul (a := x) (n := 2) hxl (by omega)
  have e2 : fOfInt ((2 : Nat) : Int) = two := by decide +kernel
  rw [e2, Nat.mul_comm, ← val_up h1, rnd_val (by omega)] at h
  rw [← h]
  show Ieee.double.mul two x = Ieee.double.mul x two
  unfold Ieee.Format.mul
  rw [read_two, read_pos hxl]
  simp only [Ieee.Datum.product, Option.map_some]
  rw [Nat.mul_comm, Int.add_comm]
theorem div_fin {x : Nat} (h1 : 2 * bin ≤ x) (h2 : x ≤ 5055640609639927018) : floatBits .quo .f64 x two = some (x - bin) := by
  have hb0 : bin = 4503599627370496 := rfl
  have hxl : x < 9218868437227405312 := by omega
  rw [fl_div hxl (by decide) (by decide)]
  refine congrArg some ?_
  exact hlv_big (by omega) hxl
theorem mul_zero : floatBits .mul .f64 two 0 = some 0 := by decide +kernel
theorem mul_inf : floatBits .mul .f64 two 9218868437227405312 = some 9218868437227405312 := by decide +kernel
theorem div_zero : floatBits .quo .f64 0 two = some 0 := by decide +kernel
theorem div_inf : floatBits .quo .f64 9218868437227405312 two = some 9218868437227405312 := by decide +kernel
/-- What may be doubled. -/
structure Dok (x : Nat) : Prop where
  lt : x < 18446744073709551616
  fin : isPos x = true → isInf x = false → 2 * bin ≤ x ∧ x ≤ 5055640609639927018
/-- Twice. -/
structure DblY (x r : Nat) : Prop where
  inf : isInf r = isInf x
  pos : isPos r = isPos x
  fin : isPos x = true → isInf x = false → r = x + bin
  lt : r < 18446744073709551616
/-- Half. -/
structure DblZ (x r : Nat) : Prop where
  inf : isInf r = isInf x
  pos : isPos r = isPos x
  fin : isPos x = true → isInf x = false → x = r + bin
  lt : r < 18446744073709551616
theorem Dok.cases {x : Nat} (h : Dok x) : x = 0 ∨ x = 9218868437227405312 ∨ (isPos x = true ∧ isInf x = false ∧ 2 * bin ≤ x ∧ x ≤ 5055640609639927018) ∨ (fInf < x ∧ isPos x = false ∧ isInf x = false) := by
  by_cases h1 : x ≤ fInf
  · by_cases h0 : x = 0
    · exact .inl h0
    · by_cases hi : x = fInf
      · exact .inr (.inl hi)
      · have hp : isPos x = true := by rw [isPos_nn h1]; exact decide_eq_true h0
        have hn : isInf x = false := by rw [isInf_nn h1]; exact decide_eq_false hi
        exact .inr (.inr (.inl ⟨hp, hn, h.fin hp hn⟩))
  · obtain ⟨h3, h4⟩ := bad_class (by omega) h.lt
    exact .inr (.inr (.inr ⟨by omega, h4, h3⟩))
theorem fin_class {x : Nat} (h0 : 0 < x) (h : x < 9218868437227405312) : isPos x = true ∧ isInf x = false := by
  have hle : x ≤ fInf := by unfold fInf; omega
  exact ⟨by rw [isPos_nn hle]; exact decide_eq_true (by omega), by rw [isInf_nn hle]; exact decide_eq_false (by unfold fInf; omega)⟩
theorem fw_mul {x : Nat} (h : Dok x) {w : World} {K : Nat → World → Prop} (hK : ∀ r w', DblY x r → (w' = w ∨ w' = w.drew) → K r w') : M.fw .mul two x w K := by
  have hb0 : bin = 4503599627370496 := rfl
  refine ⟨fun r hr => hK r w ?_ (.inl rfl), fun hn t => hK _ _ ?_ (.inr rfl)⟩
  · rcases h.cases with rfl | rfl | ⟨h1, h2, h3, h4⟩ | ⟨h1, h2, h3⟩
    · rw [mul_zero] at hr
      obtain rfl := Option.some.inj hr
      exact ⟨rfl, rfl, (fun hp => by rw [isPos_nn (Nat.zero_le _)] at hp; simp at hp), by omega⟩
    · rw [mul_inf] at hr
      obtain rfl := Option.some.inj hr
      exact ⟨rfl, rfl, (fun _ hi => by rw [isInf_nn (Nat.le_refl _ : (9218868437227405312 : Nat) ≤ fInf)] at hi; simp [fInf] at hi), by omega⟩
    · rw [mul_fin (by omega) h4] at hr
      obtain rfl := Option.some.inj hr
      obtain ⟨q1, q2⟩ := fin_class (x := x + bin) (by omega) (by omega)
      exact ⟨by rw [q2, h2], by rw [q1, h1], (fun _ _ => rfl), by omega⟩
    · obtain ⟨q1, q2⟩ := mul_bad h1 h.lt hr
      obtain ⟨q3, q4⟩ := bad_class q1 q2
      exact ⟨by rw [q3, h3], by rw [q4, h2], (fun hp => by rw [h2] at hp; cases hp), q2⟩
  · rcases h.cases with rfl | rfl | ⟨h1, h2, h3, h4⟩ | ⟨h1, h2, h3⟩
    · rw [mul_zero] at hn; cases hn
    · rw [mul_inf] at hn; cases hn
    · rw [mul_fin (by omega) h4] at hn; cases hn
    · obtain ⟨q1, q2⟩ := nanOf_bad t
      obtain ⟨q3, q4⟩ := bad_class q1 q2
      exact ⟨by rw [q3, h3], by rw [q4, h2], (fun hp => by rw [h2] at hp; cases hp), q2⟩
theorem fw_div {x : Nat} (h : Dok x) {w : World} {K : Nat → World → Prop} (hK : ∀ r w', DblZ x r → (w' = w ∨ w' = w.drew) → K r w') : M.fw .quo x two w K := by
  have hb0 : bin = 4503599627370496 := rfl
  refine ⟨fun r hr => hK r w ?_ (.inl rfl), fun hn t => hK _ _ ?_ (.inr rfl)⟩
  · rcases h.cases with rfl | rfl | ⟨h1, h2, h3, h4⟩ | ⟨h1, h2, h3⟩
    · rw [div_zero] at hr
      obtain rfl := Option.some.inj hr
      exact ⟨rfl, rfl, (fun hp => by rw [isPos_nn (Nat.zero_le _)] at hp; simp at hp), by omega⟩
    · rw [div_inf] at hr
      obtain rfl := Option.some.inj hr
      exact ⟨rfl, rfl, (fun _ hi => by rw [isInf_nn (Nat.le_refl _ : (9218868437227405312 : Nat) ≤ fInf)] at hi; simp [fInf] at hi), by omega⟩
    · rw [div_fin h3 h4] at hr
      obtain rfl := Option.some.inj hr
      obtain ⟨q1, q2⟩ := fin_class (x := x - bin) (by omega) (by omega)
      exact ⟨by rw [q2, h2], by rw [q1, h1], (fun _ _ => by omega), by omega⟩
    · obtain ⟨q1, q2⟩ := div_bad h1 h.lt hr
      obtain ⟨q3, q4⟩ := bad_class q1 q2
      exact ⟨by rw [q3, h3], by rw [q4, h2], (fun hp => by rw [h2] at hp; cases hp), q2⟩
  · rcases h.cases with rfl | rfl | ⟨h1, h2, h3, h4⟩ | ⟨h1, h2, h3⟩
    · rw [div_zero] at hn; cases hn
    · rw [div_inf] at hn; cases hn
    · rw [div_fin h3 h4] at hn; cases hn
    · obtain ⟨q1, q2⟩ := nanOf_bad t
      obtain ⟨q3, q4⟩ := bad_class q1 q2
      exact ⟨by rw [q3, h3], by rw [q4, h2], (fun hp => by rw [h2] at hp; cases hp), q2⟩
theorem sum_one : ∀ (l : List Int) (j : Nat) (v : Int), l[j]? = some v → (∀ i, i ≠ j → ∀ u, l[i]? = some u → u = 0) → l.sum = v
  | [], j, v, h, _ => by simp at h
  | x :: l, 0, v, h, hz => by
    simp at h
    subst h
    have : ∀ l : List Int, (∀ (i : Nat) (u : Int), l[i]? = some u → u = 0) → l.sum = 0 := fun l h => by
      induction l with
      | nil => rfl
      | cons y l ih =>
        have h0 := h 0 y (by simp)
        rw [List.sum_cons, ih (fun i u hu => h (i + 1) u (by simpa using hu)), h0]; rfl
    rw [List.sum_cons, this l (fun i u hu => hz (i + 1) (by omega) u (by simpa using hu))]; omega
  | x :: l, j + 1, v, h, hz => by
    have h0 := hz 0 (by omega) x (by simp)
    rw [List.sum_cons, sum_one l j v (by simpa using h) (fun i hi u hu => hz (i + 1) (by omega) u (by simpa using hu)), h0]; omega
end Go.Sp
