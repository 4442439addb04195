/-
  The document's table of prefixes, in plain lists.
-/
import Derived.Test.YtecegjimdohmeaaSpTrie
namespace Go.Sp
set_option linter.unusedVariables false
set_option linter.unusedSimpArgs false
theorem tget_at {L : Tbl} {k : Key} {v : Int} : ∀ {i : Nat}, (∀ (m : Nat) (x : Key × Int), m < i → L[m]? = some x → x.1 ≠ k) → L[i]? = some (k, v) → tget L k = some v := by
  induction L with
  | nil => intro i _ h; simp at h
  | cons y l ih =>
    intro i h1 h2
    rw [tget_cons]
    cases i with
    | zero => simp at h2; subst h2; simp
    | succ i =>
      rw [if_neg (h1 0 y (by omega) rfl)]
      exact ih (i := i) (fun m x hm hx => h1 (m + 1) x (by omega) (by simpa using hx)) (by simpa using h2)
theorem tget_no {L : Tbl} {k : Key} (h : ∀ (m : Nat) (x : Key × Int), m < L.length → L[m]? = some x → x.1 ≠ k) : tget L k = none := by
  rw [tget_none]
  intro x hx
  obtain ⟨m, hm, he⟩ := List.getElem_of_mem hx
  exact h m x hm (by rw [List.getElem?_eq_getElem hm, he])
theorem tput_set {L : Tbl} (h : L.Pairwise fun x y => kLt x.1 y.1) {k : Key} {v0 : Int} (v : Int) : ∀ {i : Nat}, L[i]? = some (k, v0) → tput L k v = L.set i (k, v) := by
  induction L with
  | nil => intro i h; simp at h
  | cons y l ih =>
    intro i h2
    rw [List.pairwise_cons] at h
    cases i with
    | zero => simp at h2; subst h2; simp [tput]
    | succ i =>
      have h3 : l[i]? = some (k, v0) := by simpa using h2
      have h4 := h.1 _ (List.mem_of_getElem? h3)
      have h5 : y.1 ≠ k := fun he => by rw [he] at h4; exact kLt_irrefl _ h4
      have h6 : ¬ kLt k y.1 := kLt_asymm h4
      simp only [tput]
      rw [if_neg h5, if_neg h6, ih h.2 h3]
      rfl
theorem tput_ins {L : Tbl} {k : Key} (v : Int) (hn : tget L k = none) : ∀ {j : Nat}, (∀ (m : Nat) (x : Key × Int), m < j → L[m]? = some x → kLt x.1 k) → (∀ x, L[j]? = some x → ¬ kLt x.1 k) → j ≤ L.length → tput L k v = L.take j ++ (k, v) :: L.drop j := by
  induction L with
  | nil => intro j _ _ h; simp at h; subst h; rfl
  | cons y l ih =>
    intro j h1 h2 h3
    rw [tget_cons] at hn
    split at hn
    · cases hn
    · rename_i hy
      simp only [tput]
      rw [if_neg hy]
      cases j with
      | zero =>
        have := h2 y rfl
        have h5 : kLt k y.1 := (kLt_tri y.1 k).elim (fun h => absurd h this) (fun h => h.elim (fun h => absurd h hy) id)
        rw [if_pos h5]
        rfl
      | succ j =>
        have := h1 0 y (by omega) rfl
        rw [if_neg (kLt_asymm this), ih hn (j := j) (fun m x hm hx => h1 (m + 1) x (by omega) (by simpa using hx)) (fun x hx => h2 x (by simpa using hx)) (by simpa using h3)]
        rfl
theorem tcut_none {L : Tbl} {k : Key} (h : tget L k = none) : tcut L k = L := by
  unfold tcut
  rw [List.filter_eq_self]
  intro x hx
  have := tget_none.1 h x hx
  simpa using this
theorem tcut_del {L : Tbl} (h : L.Pairwise fun x y => kLt x.1 y.1) {k : Key} {v : Int} : ∀ {i : Nat}, L[i]? = some (k, v) → tcut L k = L.take i ++ L.drop (i + 1) := by
  induction L with
  | nil => intro i h; simp at h
  | cons y l ih =>
    intro i h2
    rw [List.pairwise_cons] at h
    cases i with
    | zero =>
      simp at h2; subst h2
      have : tget l k = none := tget_none.2 fun z hz he => by
        have := h.1 z hz
        rw [he] at this; exact kLt_irrefl _ this
      have e := tcut_none this
      unfold tcut at e ⊢
      rw [List.filter_cons, if_neg (by simp), e]; rfl
    | succ i =>
      have h3 : l[i]? = some (k, v) := by simpa using h2
      have h4 := h.1 _ (List.mem_of_getElem? h3)
      have h5 : y.1 ≠ k := fun he => by rw [he] at h4; exact kLt_irrefl _ h4
      have e := ih h.2 h3
      unfold tcut at e ⊢
      rw [List.filter_cons, if_pos (by simpa using h5), e]; rfl
/-- Does a prefix cover another one, as the document says? -/
def covR (p q : Key) : Bool := rightP q.1 q.2 && (decide (p.2 ≤ q.2) && hasB p q.1)
theorem below_ref {L : Tbl} (hL : Tab L) (p : Key) : (L.map (·.1)).filter (covR p) = if rightP p.1 p.2 then keysCov L p else [] := by
  unfold keysCov
  cases hp : rightP p.1 p.2 with
  | false =>
    rw [if_neg (by simp), List.filter_eq_nil_iff]
    intro k _
    simp [covR, hasB, hp]
  | true =>
    rw [if_pos rfl, List.filter_map]
    congr 1
    apply List.filter_congr
    intro x hx
    simp [covR, hasB, hp, covB, (hL.right x hx).2]
theorem level_ref {L : Tbl} (hL : Tab L) {A : Nat} (n : Nat) : (L.map (·.1)).filter (fun k => k.2 == (n : Int) && hasB k A) = if (tget L (topN A n, (n : Int))).isSome then [(topN A n, (n : Int))] else [] := by
  rw [← filter_self hL.sorted, List.filter_map]
  congr 1
  apply List.filter_congr
  intro x hx
  have hr := (hL.right x hx).2
  obtain ⟨⟨a, m⟩, v⟩ := x
  simp only [Function.comp, hasB]
  rw [Bool.eq_iff_iff]
  simp only [Bool.and_eq_true, beq_iff_eq, Prod.mk.injEq] at hr ⊢
  constructor
  · rintro ⟨rfl, _, h⟩; exact ⟨by simpa using h.symm, rfl⟩
  · rintro ⟨h, rfl⟩; exact ⟨rfl, hr, by simpa using h.symm⟩
/-- What covers a prefix, up to so many bits. -/
def aboveN (L : Tbl) (p : Key) (n : Nat) : List Key := if rightP p.1 p.2 then onWay L p.1 (min n (p.2.toNat + 1)) else []
theorem above_zero (L : Tbl) (p : Key) : aboveN L p 0 = [] := by unfold aboveN; split <;> simp [onWay]
theorem above_succ {L : Tbl} (hL : Tab L) (p : Key) {n : Nat} : aboveN L p (n + 1) = aboveN L p n ++ (L.map (·.1)).filter (fun k => k.2 == (n : Int) && covR k p) := by
  unfold aboveN
  cases hp : rightP p.1 p.2 with
  | false =>
    rw [if_neg (by simp), if_neg (by simp), eq_comm, List.nil_append, List.filter_eq_nil_iff]
    intro k _; simp [covR, hp]
  | true =>
    rw [if_pos rfl, if_pos rfl]
    obtain ⟨c0, c1, c2⟩ := (rightP_iff _ _).1 hp
    by_cases h : (n : Int) ≤ p.2
    · rw [show min (n + 1) (p.2.toNat + 1) = n + 1 by omega, show min n (p.2.toNat + 1) = n by omega, onWay_succ, ← level_ref hL n]
      congr 1
      apply List.filter_congr
      intro k _
      rw [Bool.eq_iff_iff]
      simp only [covR, hp, Bool.and_eq_true, beq_iff_eq, decide_eq_true_eq, Bool.true_and]
      constructor
      · rintro ⟨h1, h2⟩; exact ⟨h1, by omega, h2⟩
      · rintro ⟨h1, _, h2⟩; exact ⟨h1, h2⟩
    · rw [show min (n + 1) (p.2.toNat + 1) = min n (p.2.toNat + 1) by omega]
      have : (L.map (·.1)).filter (fun k => k.2 == (n : Int) && covR k p) = [] := by
        rw [List.filter_eq_nil_iff]
        intro k _
        simp only [covR, hp, Bool.and_eq_true, beq_iff_eq, decide_eq_true_eq, Bool.true_and]
        rintro ⟨h1, h2, _⟩
        omega
      rw [this, List.append_nil]
theorem above_all {L : Tbl} (p : Key) : aboveN L p 33 = if rightP p.1 p.2 then onWay L p.1 (p.2.toNat + 1) else [] := by
  unfold aboveN
  cases hp : rightP p.1 p.2 with
  | false => rfl
  | true =>
    obtain ⟨c0, c1, c2⟩ := (rightP_iff _ _).1 hp
    rw [if_pos rfl, if_pos rfl, show min 33 (p.2.toNat + 1) = p.2.toNat + 1 by omega]
theorem tget_right {L : Tbl} (hL : Tab L) {k : Key} (h : rightP k.1 k.2 = false) : tget L k = none := by
  rw [tget_none]
  intro x hx he
  have := (hL.right x hx).2
  rw [he, h] at this; cases this
end Go.Sp
