/-
  Shares: together all, or none; as much for equal weights.
-/
import Derived.Test.YtkbfpjkikjmmeaaSpShareC
namespace Go.Sp
set_option linter.unusedVariables false
set_option linter.unusedSimpArgs false
/-- What is a cost, and not nought, is not as much as what is no cost. -/
theorem order_bad2 {x y : Nat} (hy : fInf < y) (hy2 : y < 18446744073709551616) (hx : x ≤ fInf) (h0 : x ≠ 0) : Ieee.double.order x y ≠ some .eq := by
  unfold fInf at hx hy
  unfold Ieee.Format.order
  have hx' : (∃ m e, Ieee.double.read x = .number false m e ∧ m ≠ 0) ∨ Ieee.double.read x = .infinity false := by
    by_cases h : x = 9218868437227405312
    · right; rw [h, read_inf]
    · left; exact ⟨_, _, read_pos (by omega), fMag_pos h0⟩
  by_cases h4 : y < 9223372036854775808
  · obtain ⟨t, ht⟩ := read_nan hy h4
    rw [ht]
    rcases hx' with ⟨m, e, h, _⟩ | h <;> rw [h] <;> simp [Ieee.Datum.order]
  · rcases read_neg (by omega) hy2 with ⟨n, j, hr⟩ | hr | ⟨t, hr⟩
    · rw [hr]
      rcases hx' with ⟨m, e, h, hne⟩ | h
      · rw [h]
        simp only [Ieee.Datum.order, Ieee.signed, Bool.false_eq_true, if_false, if_true, Nat.shiftLeft_eq]
        generalize hk : m * 2 ^ (e - min e j).toNat = k
        generalize hl : n * 2 ^ (j - min e j).toNat = l
        have : k ≠ 0 := by
          rw [← hk]
          exact Nat.mul_ne_zero hne (Nat.ne_of_gt (Nat.two_pow_pos _))
        rw [cmp_gt (show (-(l : Int)) < (k : Int) by omega)]
        simp
      · rw [h]; simp [Ieee.Datum.order]
    · rw [hr]
      rcases hx' with ⟨m, e, h, _⟩ | h
      · rw [h]; simp [Ieee.Datum.order]
      · rw [h]; simp only [Ieee.Datum.order]; decide
    · rw [hr]
      rcases hx' with ⟨m, e, h, _⟩ | h <;> rw [h] <;> simp [Ieee.Datum.order]
/-- Floats that are alike: both are above nought, and the same, or neither is. -/
theorem eql_pos {x y : Nat} (hx : x < 18446744073709551616) (hy : y < 18446744073709551616) (h : fEql x y = true) : x = y ∨ (isPos x = false ∧ isPos y = false) := by
  have ho : Ieee.double.order x y = some .eq := by unfold fEql at h; simpa using h
  by_cases h1 : x ≤ fInf
  · by_cases h2 : y ≤ fInf
    · left
      rw [fEql_pos h1 h2] at h
      exact of_decide_eq_true h
    · by_cases h0 : x = 0
      · right
        refine ⟨by rw [h0, isPos_nn (Nat.zero_le _)]; rfl, ?_⟩
        cases hp : isPos y with
        | false => rfl
        | true => exact absurd (isPos_le hy hp).1 h2
      · exact absurd ho (order_bad2 (by omega) hy h1 h0)
  · have hpx : isPos x = false := by
      cases hp : isPos x with
      | false => rfl
      | true => exact absurd (isPos_le hx hp).1 h1
    cases hp : isPos y with
    | false => exact .inr ⟨hpx, rfl⟩
    | true =>
      obtain ⟨h2, h3⟩ := isPos_le hy hp
      exact absurd ho ((order_bad (by omega) hx h2).2 h3)
theorem leftAt_mono (ts : List Bool) (left : Int) (j : Nat) : ∀ k, leftAt ts left (j + k) ≤ leftAt ts left j
  | 0 => Int.le_refl _
  | k + 1 => by
    have := leftAt_mono ts left j k
    show leftAt ts left (j + k + 1) ≤ _
    rw [leftAt_succ]
    split <;> omega
theorem leftAt_eq {ts : List Bool} {left : Int} (h0 : 0 ≤ left) : ∀ j, j ≤ ts.length → leftAt ts left j = max (left - ((ts.take j).countP id : Nat)) 0
  | 0, _ => by simp [leftAt]; omega
  | j + 1, hj => by
    have ih := leftAt_eq (ts := ts) h0 j (by omega)
    rw [leftAt_succ, ih]
    have hjl : j < ts.length := by omega
    have ht : ts[j]? = some ts[j] := List.getElem?_eq_getElem hjl
    have hd : ts.getD j false = ts[j] := by rw [List.getD_eq_getElem?_getD, ht]; rfl
    rw [hd, List.take_add_one, ht, List.countP_append]
    cases ts[j]
    · simp
    · simp only [Bool.true_and, decide_eq_true_eq, Option.toList_some, List.countP_singleton, id, if_true]
      split <;> omega
theorem out_sum (ts : List Bool) (ps : List Int) (left : Int) : ∀ m, m ≤ ps.length → ((List.range m).map (outAt ts ps left)).sum = (ps.take m).sum + (left - leftAt ts left m)
  | 0, _ => by simp [leftAt]
  | m + 1, hm => by
    have ih := out_sum ts ps left m (by omega)
    rw [List.range_succ, List.map_append, List.sum_append, ih, leftAt_succ]
    have hp : ps[m]? = some ps[m] := List.getElem?_eq_getElem (by omega)
    have hd : ps.getD m 0 = ps[m] := by rw [List.getD_eq_getElem?_getD, hp]; rfl
    rw [List.take_add_one, hp, List.sum_append]
    simp only [List.map_cons, List.map_nil, List.sum_cons, List.sum_nil, Option.toList_some, outAt, hd]
    split <;> omega
theorem spread_sum {ts : List Bool} {ps : List Int} {left : Int} (h0 : 0 ≤ left) (hl : ts.length = ps.length) (hc : left ≤ (ts.countP id : Nat)) : (spread ts ps left).sum = ps.sum + left := by
  unfold spread
  rw [out_sum ts ps left ps.length (Nat.le_refl _), List.take_length, leftAt_eq h0 _ (by omega), ← hl, List.take_length]
  omega
theorem sum_cast : ∀ (l : List Nat), ((l.map fun n : Nat => (n : Int)).sum) = ((l.sum : Nat) : Int)
  | [] => rfl
  | x :: l => by simp only [List.map_cons, List.sum_cons, sum_cast l]; omega
theorem mem_le_sum : ∀ (l : List Nat) (x : Nat), x ∈ l → x ≤ l.sum
  | y :: l, x, h => by
    rw [List.sum_cons]
    rcases List.mem_cons.1 h with rfl | h
    · omega
    · have := mem_le_sum l x h; omega
theorem wOf_zero {g : Bool} {x : Nat} (hx : x < 18446744073709551616) (h : isPos x = false) : wOf g x = 0 := by
  have h2 : isInf x = false := by
    cases h3 : isInf x with
    | false => rfl
    | true => rw [isInf_pos hx h3] at h; cases h
  unfold wOf
  rw [h, h2, Bool.and_false, Bool.and_false]; rfl
section
variable {l : List Nat} {n : Nat}
/-- What is taken of a weight. -/
def wTk (l : List Nat) (x : Nat) : Nat := if sumB 0 (weights l) = fInf then halvesB 64 (wOf (great l) x) else wOf (great l) x
theorem taken_map (l : List Nat) : taken (weights l) = l.map (wTk l) := by
  unfold taken
  by_cases h : sumB 0 (weights l) = fInf
  · rw [if_pos h]
    unfold weights
    rw [List.map_map]
    apply List.map_congr_left
    intro x _
    unfold wTk
    rw [if_pos h, Function.comp_apply]
  · rw [if_neg h]
    unfold weights
    apply List.map_congr_left
    intro x _
    unfold wTk
    rw [if_neg h]
theorem halves_zero (k : Nat) : halvesB k 0 = 0 := by
  exact Nat.eq_zero_of_le_zero (halvesB_le k (x := 0) (by omega))
theorem wTk_zero {x : Nat} (h : wOf (great l) x = 0) : wTk l x = 0 := by
  unfold wTk
  rw [h, halves_zero]
  split <;> rfl
attribute [irreducible] wTk
theorem parts_get (i : Nat) : (parts l n)[i]? = (l[i]?).map fun x => prt (sumB 0 (taken (weights l))) n (wTk l x) := by
  unfold parts
  generalize sumB 0 (taken (weights l)) = S
  rw [taken_map, List.getElem?_map, List.getElem?_map]
  cases l[i]? with
  | none => rw [Option.map_none, Option.map_none, Option.map_none]
  | some x => rw [Option.map_some, Option.map_some, Option.map_some]
theorem prt_zero (S : Nat) : prt S n 0 = 0 := by
  rw [prt_eq]
  have := (pv_zero (S := S) (n := n)).1
  unfold pv at this
  rw [this]; omega
theorem countP_gen (f : Nat → Nat) (h0 : f 0 = 0) {w : List Nat} (hp : ∀ x ∈ w, isPos x = decide (x ≠ 0)) : (w.map f).countP (fun x => decide (x ≠ 0)) ≤ (w.map isPos).countP id := by
  rw [List.countP_map, List.countP_map]
  refine List.countP_mono_left fun x hx h => ?_
  have h : f x ≠ 0 := of_decide_eq_true h
  show isPos x = true
  rw [hp x hx]
  exact decide_eq_true fun hx0 => h (by rw [hx0, h0])
theorem countP_taken {w : List Nat} (hw : ∀ x ∈ w, x < 9218868437227405312) : (taken w).countP (fun x => decide (x ≠ 0)) ≤ (w.map isPos).countP id := by
  have hp : ∀ x ∈ w, isPos x = decide (x ≠ 0) := fun x hx => isPos_nn (by have := hw x hx; unfold fInf; omega)
  unfold taken
  split
  · exact countP_gen (halvesB 64) (halves_zero 64) hp
  · have := countP_gen (fun x => x) rfl hp
    rw [List.map_id'] at this
    exact this
/-- Shares are together all. -/
theorem shares_all (hl : ∀ x ∈ l, x < 18446744073709551616) (hn : l.length ≤ 60) (h1 : 1 ≤ n) (h2 : n ≤ 1000) (h0 : sumB 0 (weights l) ≠ 0) :
    0 ≤ (n : Int) - (parts l n).sum ∧ (n : Int) - (parts l n).sum ≤ (((weights l).map isPos).countP id : Nat) := by
  have hw := weights_lt hl
  obtain ⟨t1, t2, t3⟩ := taken_ok hw (by rw [weights_len]; exact hn) h0
  obtain ⟨p1, p2⟩ := parts_bound (n := n) t1 t2 t3 (by rw [taken_len, weights_len]; exact hn) h1 h2
  have hc := countP_taken hw
  have he : parts l n = ((taken (weights l)).map (pv (sumB 0 (taken (weights l))) n)).map fun k : Nat => (k : Int) := by
    unfold parts
    rw [List.map_map]
    apply List.map_congr_left
    intro x hx
    have hle := mem_le_sum _ _ (List.mem_map.2 ⟨x, hx, rfl⟩ : pv (sumB 0 (taken (weights l))) n x ∈ (taken (weights l)).map (pv (sumB 0 (taken (weights l))) n))
    rw [prt_eq]
    show min ((pv (sumB 0 (taken (weights l))) n x : Nat) : Int) n = ((pv (sumB 0 (taken (weights l))) n x : Nat) : Int)
    omega
  rw [he, sum_cast]
  omega
theorem sharesB_nat (hn : 1 ≤ n) (hn2 : n ≤ 1000) : sharesB l (n : Int) = if sumB 0 (weights l) = 0 then List.replicate l.length 0 else spread ((weights l).map isPos) (parts l n) ((n : Int) - (parts l n).sum) := by
  have hm : min (n : Int) 1000 = (n : Int) := by omega
  unfold sharesB
  rw [hm, Int.toNat_natCast]
  by_cases h : sumB 0 (weights l) = 0
  · rw [if_pos h, if_pos (.inr h)]
  · rw [if_neg h, if_neg (by omega)]
/-- Each one's share. -/
theorem share_get (hn : 1 ≤ n) (hn2 : n ≤ 1000) (h0 : sumB 0 (weights l) ≠ 0) {i x : Nat} (hx : l[i]? = some x) : (sharesB l (n : Int))[i]? = some (prt (sumB 0 (taken (weights l))) n (wTk l x) + (if isPos (wOf (great l) x) && decide (0 < leftAt ((weights l).map isPos) ((n : Int) - (parts l n).sum) i) then 1 else 0)) := by
  have hi : i < l.length := (List.getElem?_eq_some_iff.1 hx).1
  rw [sharesB_nat hn hn2, if_neg h0, spread_get (by rw [parts_len]; exact hi)]
  unfold outAt
  have e1 : (parts l n).getD i 0 = prt (sumB 0 (taken (weights l))) n (wTk l x) := by
    rw [List.getD_eq_getElem?_getD, parts_get, hx, Option.map_some, Option.getD_some]
  have e2 : ((weights l).map isPos).getD i false = isPos (wOf (great l) x) := by
    rw [List.getD_eq_getElem?_getD, List.getElem?_map]
    unfold weights
    rw [List.getElem?_map, hx, Option.map_some, Option.map_some, Option.getD_some]
  rw [e1, e2]
theorem share_none (hl : ∀ x ∈ l, x < 18446744073709551616) (hn : 1 ≤ n) (hn2 : n ≤ 1000) {i x : Nat} (hx : l[i]? = some x) (hp : isPos x = false) : (sharesB l (n : Int))[i]? = some 0 := by
  have hi : i < l.length := (List.getElem?_eq_some_iff.1 hx).1
  by_cases h0 : sumB 0 (weights l) = 0
  · rw [sharesB_nat hn hn2, if_pos h0]
    simp [hi]
  · have hz := wOf_zero (g := great l) (hl x (List.mem_of_getElem? hx)) hp
    rw [share_get hn hn2 h0 hx, wTk_zero hz, hz, isPos_nn (Nat.zero_le _)]
    simp [prt_zero]
theorem share_range (hl : ∀ x ∈ l, x < 18446744073709551616) (hn : 1 ≤ n) (hn2 : n ≤ 1000) {i x : Nat} (hx : l[i]? = some x) : ∃ s : Int, (sharesB l (n : Int))[i]? = some s ∧ 0 ≤ s ∧ s ≤ 1001 ∧ (isPos x = false → s = 0) := by
  have hi : i < l.length := (List.getElem?_eq_some_iff.1 hx).1
  by_cases h0 : sumB 0 (weights l) = 0
  · refine ⟨0, ?_, by omega, by omega, fun _ => rfl⟩
    rw [sharesB_nat hn hn2, if_pos h0]
    simp [hi]
  · refine ⟨_, share_get hn hn2 h0 hx, ?_, ?_, fun hp => ?_⟩
    · have := prt_range (S := sumB 0 (taken (weights l))) (n := n) (x := wTk l x)
      split <;> omega
    · have := prt_range (S := sumB 0 (taken (weights l))) (n := n) (x := wTk l x)
      split <;> omega
    · have := share_none hl hn hn2 hx hp
      rw [share_get hn hn2 h0 hx] at this
      exact Option.some.inj this
/-- Equal weights have as much, but for one. -/
theorem share_alike (hl : ∀ x ∈ l, x < 18446744073709551616) (hn : 1 ≤ n) (hn2 : n ≤ 1000) {i j x y : Nat} (hx : l[i]? = some x) (hy : l[j]? = some y) (hji : j ≤ i) (h : fEql x y = true) {s t : Int} (hs : (sharesB l (n : Int))[i]? = some s) (ht : (sharesB l (n : Int))[j]? = some t) : s ≤ t ∧ t - s ≤ 1 := by
  have hxl := hl x (List.mem_of_getElem? hx)
  have hyl := hl y (List.mem_of_getElem? hy)
  rcases eql_pos hxl hyl h with rfl | ⟨h1, h2⟩
  · by_cases h0 : sumB 0 (weights l) = 0
    · have hi : i < l.length := (List.getElem?_eq_some_iff.1 hx).1
      have hj : j < l.length := (List.getElem?_eq_some_iff.1 hy).1
      rw [sharesB_nat hn hn2, if_pos h0] at hs ht
      simp [hi] at hs
      simp [hj] at ht
      omega
    · rw [share_get hn hn2 h0 hx] at hs
      rw [share_get hn hn2 h0 hy] at ht
      have hm := leftAt_mono ((weights l).map isPos) ((n : Int) - (parts l n).sum) j (i - j)
      rw [show j + (i - j) = i by omega] at hm
      have hs := Option.some.inj hs
      have ht := Option.some.inj ht
      cases hp : isPos (wOf (great l) x) with
      | false =>
        rw [hp] at hs ht
        simp only [Bool.false_and, Bool.false_eq_true, if_false] at hs ht
        omega
      | true =>
        rw [hp] at hs ht
        simp only [Bool.true_and, decide_eq_true_eq] at hs ht
        split at hs <;> split at ht <;> omega
  · rw [share_none hl hn hn2 hx h1] at hs
    rw [share_none hl hn hn2 hy h2] at ht
    cases hs; cases ht; omega
theorem some_pos (hl : ∀ x ∈ l, x < 18446744073709551616) : l.any isPos = decide (sumB 0 (weights l) ≠ 0) := by
  rw [← any_pos (fun x hx => by have := weights_lt hl x hx; unfold fInf; omega)]
  unfold weights
  rw [List.any_map, Bool.eq_iff_iff]
  simp only [List.any_eq_true, Function.comp]
  constructor
  · rintro ⟨x, hx, hp⟩
    have hxl := hl x hx
    obtain ⟨h1, h2⟩ := isPos_le hxl hp
    by_cases hg : great l = true
    · obtain ⟨y, hy, hiy⟩ := List.any_eq_true.1 hg
      refine ⟨y, hy, ?_⟩
      unfold wOf
      rw [hg, hiy]
      rw [isPos_nn (by simpa using one_le)]
      exact decide_eq_true (show one ≠ 0 by unfold one; omega)
    · have hg : great l = false := by simpa using hg
      refine ⟨x, hx, ?_⟩
      unfold wOf
      rw [hg, hp]
      exact hp
  · rintro ⟨x, hx, hp⟩
    refine ⟨x, hx, ?_⟩
    cases h : isPos x with
    | true => rfl
    | false =>
      rw [wOf_zero (hl x hx) h, isPos_nn (Nat.zero_le _)] at hp
      simp at hp
theorem shares_sum (hl : ∀ x ∈ l, x < 18446744073709551616) (hn : l.length ≤ 60) (h1 : 1 ≤ n) (h2 : n ≤ 1000) : (sharesB l (n : Int)).sum = if l.any isPos then (n : Int) else 0 := by
  rw [some_pos hl, sharesB_nat h1 h2]
  by_cases h0 : sumB 0 (weights l) = 0
  · rw [if_pos h0, decide_eq_false (by simpa using h0)]
    simp
  · rw [if_neg h0, decide_eq_true h0, if_pos rfl]
    obtain ⟨a, b⟩ := shares_all hl hn h1 h2 h0
    rw [spread_sum a (by rw [List.length_map, weights_len, parts_len]) b]
    omega
end
end Go.Sp
