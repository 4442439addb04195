/-
  Who is left, as a set: what the laws say of it.
-/
import Derived.Test.YtmgigplbclkpaaaSpDecO
namespace Go.Sp
set_option linter.unusedVariables false
set_option linter.unusedSimpArgs false
/-- Who is left behind so many steps. -/
def Sv (vs : List Vw) : Nat → Vw → Prop
  | 0, v => v ∈ vs
  | k + 1, v => Sv vs k v ∧ ¬ ∃ u, Sv vs k u ∧ bts v u (k + 1 : Nat) = true
theorem Sv_mem {vs : List Vw} : ∀ {k : Nat} {v : Vw}, Sv vs k v → v ∈ vs
  | 0, _, h => h
  | _ + 1, _, h => Sv_mem h.1
theorem Sv_le {vs : List Vw} {j : Nat} : ∀ {k : Nat} {v : Vw}, j ≤ k → Sv vs k v → Sv vs j v
  | 0, v, h, h2 => by obtain rfl : j = 0 := by omega
                      exact h2
  | k + 1, v, h, h2 => by
    by_cases hj : j = k + 1
    · subst hj; exact h2
    · exact Sv_le (by omega) h2.1
theorem mem_leftR {vs : List Vw} : ∀ (k n : Nat), n ∈ leftR vs k ↔ ∃ v, vs[n]? = some v ∧ Sv vs k v
  | 0, n => by
    rw [leftR, List.mem_range]
    constructor
    · intro h; exact ⟨vs[n], List.getElem?_eq_getElem h, List.getElem_mem h⟩
    · rintro ⟨v, h, _⟩; exact (List.getElem?_eq_some_iff.1 h).1
  | k + 1, n => by
    rw [leftR, mem_keepA, mem_leftR k n]
    constructor
    · rintro ⟨⟨v, h1, h2⟩, h3⟩
      refine ⟨v, h1, h2, fun ⟨u, h4, h5⟩ => h3 ?_⟩
      obtain ⟨m, hm, hu⟩ := List.getElem_of_mem (Sv_mem h4)
      have hmu : vs[m]? = some u := by rw [List.getElem?_eq_getElem hm, hu]
      exact ⟨m, (mem_leftR k m).2 ⟨u, hmu, h4⟩, v, u, h1, hmu, h5⟩
    · rintro ⟨v, h1, h2, h3⟩
      refine ⟨⟨v, h1, h2⟩, fun ⟨m, hm, a, b, ha, hb, hab⟩ => h3 ?_⟩
      obtain ⟨u, hu, hs⟩ := (mem_leftR k m).1 hm
      rw [hu] at hb; cases hb
      rw [h1] at ha; cases ha
      exact ⟨_, hs, hab⟩
theorem leftR_sub (vs : List Vw) : ∀ k, (leftR vs k).Sublist (List.range vs.length)
  | 0 => List.Sublist.refl _
  | k + 1 => (keepA_sub _ _ _).trans (leftR_sub vs k)
theorem leftR_ne {vs : List Vw} (hv : OkV vs) (hne : vs ≠ []) : ∀ k, leftR vs k ≠ []
  | 0 => by
    intro h
    have := congrArg List.length h
    simp [leftR] at this
    exact hne this
  | k + 1 => keepA_ne hv (leftR_ne hv hne k) _
/-- All have IDs of their own. -/
def Ids (vs : List Vw) : Prop := vs.Pairwise fun a b => a.id ≠ b.id
theorem Ids.at {vs : List Vw} (h : Ids vs) {i j : Nat} {a b : Vw} (hi : vs[i]? = some a) (hj : vs[j]? = some b) (he : a.id = b.id) : i = j := by
  obtain ⟨h1, rfl⟩ := List.getElem?_eq_some_iff.1 hi
  obtain ⟨h2, rfl⟩ := List.getElem?_eq_some_iff.1 hj
  rcases Nat.lt_trichotomy i j with hlt | heq | hlt
  · exact absurd he (List.pairwise_iff_getElem.1 h i j h1 h2 hlt)
  · exact heq
  · exact absurd he.symm (List.pairwise_iff_getElem.1 h j i h2 h1 hlt)
theorem one_left {vs : List Vw} (hv : OkV vs) (hne : vs ≠ []) (hid : Ids vs) : ∃ (n : Nat) (v : Vw), leftR vs 7 = [n] ∧ leftA vs 7 = [n] ∧ bestA vs = ((n : Int), true) ∧ vs[n]? = some v ∧ Sv vs 7 v ∧ ∀ u, Sv vs 7 u → u = v := by
  have uniq : ∀ n m, n ∈ leftR vs 7 → m ∈ leftR vs 7 → n = m := by
    intro n m hn hm
    obtain ⟨a, ha, sa⟩ := (mem_leftR 7 n).1 hn
    obtain ⟨b, hb, sb⟩ := (mem_leftR 7 m).1 hm
    by_cases he : a.id = b.id
    · exact hid.at ha hb he
    · exfalso
      have e7 : ∀ a b : Vw, bts a b 7 = (decide (b.id < a.id) || (b.id == a.id && decide (b.addr < a.addr))) := fun _ _ => rfl
      rcases Int.lt_or_gt_of_ne he with h | h
      · exact sb.2 ⟨a, sa.1, by show bts b a 7 = true; rw [e7]; simp [h]⟩
      · exact sa.2 ⟨b, sb.1, by show bts a b 7 = true; rw [e7]; simp [show b.id < a.id from h]⟩
  have hnd : (leftR vs 7).Nodup := (leftR_sub vs 7).nodup List.nodup_range
  match hL : leftR vs 7, leftR_ne hv hne 7 with
  | [n], _ =>
    obtain ⟨v, h1, h2⟩ := (mem_leftR (vs := vs) 7 n).1 (by rw [hL]; simp)
    have hA : leftA vs 7 = [n] := by rw [leftR_7, hL]; rfl
    refine ⟨n, v, rfl, hA, by unfold bestA; rw [hA], h1, h2, fun u hu => ?_⟩
    obtain ⟨m, hm, he⟩ := List.getElem_of_mem (Sv_mem hu)
    have hmu : vs[m]? = some u := by rw [List.getElem?_eq_getElem hm, he]
    have : m = n := uniq m n ((mem_leftR 7 m).2 ⟨u, hmu, hu⟩) (by rw [hL]; simp)
    subst this
    rw [h1] at hmu; cases hmu; rfl
  | n :: m :: r, _ =>
    exfalso
    rw [hL] at hnd uniq
    have := uniq n m (by simp) (by simp)
    subst this
    simp at hnd
  | [], h => exact absurd rfl h
theorem Sv_from {vs ws : List Vw} {j : Nat} (h : ∀ v, Sv vs j v ↔ Sv ws j v) : ∀ (k : Nat), j ≤ k → ∀ v, Sv vs k v ↔ Sv ws k v
  | 0, hk, v => by obtain rfl : j = 0 := by omega
                   exact h v
  | k + 1, hk, v => by
    by_cases hj : j = k + 1
    · subst hj; exact h v
    · have ih := Sv_from h k (by omega)
      show (Sv vs k v ∧ _) ↔ (Sv ws k v ∧ _)
      rw [ih v]
      constructor
      · rintro ⟨h1, h2⟩; exact ⟨h1, fun ⟨u, hu, hb⟩ => h2 ⟨u, (ih u).2 hu, hb⟩⟩
      · rintro ⟨h1, h2⟩; exact ⟨h1, fun ⟨u, hu, hb⟩ => h2 ⟨u, (ih u).1 hu, hb⟩⟩
theorem best_same {vs ws : List Vw} (hv : OkV vs) (hw : OkV ws) (hvn : vs ≠ []) (hwn : ws ≠ []) (hvi : Ids vs) (hwi : Ids ws) (h : ∀ v, Sv vs 7 v ↔ Sv ws 7 v) :
    ∃ (n m : Nat) (v : Vw), bestA vs = ((n : Int), true) ∧ bestA ws = ((m : Int), true) ∧ vs[n]? = some v ∧ ws[m]? = some v := by
  obtain ⟨n, v, _, _, h3, h4, h5, h6⟩ := one_left hv hvn hvi
  obtain ⟨m, u, _, _, g3, g4, g5, g6⟩ := one_left hw hwn hwi
  have : u = v := h6 u ((h u).2 g5)
  subst this
  exact ⟨n, m, u, h3, g3, h4, g4⟩
/-- Without one that is behind the best one at once, the best one is the same. -/
theorem Sv_without {vs ws : List Vw} {x b : Vw} (hx : x ∈ vs) (hb : Sv vs 7 b) (hmem : ∀ v, v ∈ ws ↔ v ∈ vs ∧ v ≠ x) (hlose : x.pref < b.pref ∨ b.count < x.count) : ∀ v, Sv vs 7 v ↔ Sv ws 7 v := by
  have e1 : ∀ a b : Vw, (bts a b ((0 + 1 : Nat) : Int) = true) ↔ a.pref < b.pref := fun a b => by show decide (a.pref < b.pref) = true ↔ _; simp
  have e2 : ∀ a b : Vw, (bts a b ((1 + 1 : Nat) : Int) = true) ↔ b.count < a.count := fun a b => by show decide (b.count < a.count) = true ↔ _; simp
  have hb1 : Sv vs 1 b := Sv_le (by omega) hb
  have hmax : ∀ u ∈ vs, u.pref ≤ b.pref := fun u hu => by
    have := hb1.2
    refine Classical.byContradiction fun h => this ⟨u, hu, (e1 _ _).2 (by omega)⟩
  have hbv : b ∈ vs := Sv_mem hb
  by_cases hp : x.pref < b.pref
  · refine Sv_from (j := 1) (fun v => ?_) 7 (by omega)
    have hbx : b ≠ x := fun h => by rw [h] at hp; omega
    constructor
    · rintro ⟨h1, h2⟩
      refine ⟨(hmem v).2 ⟨h1, fun h => ?_⟩, fun ⟨u, hu, hbt⟩ => h2 ⟨u, ((hmem u).1 hu).1, hbt⟩⟩
      subst h
      exact h2 ⟨b, hbv, (e1 _ _).2 hp⟩
    · rintro ⟨h1, h2⟩
      have h1 := (hmem v).1 h1
      refine ⟨h1.1, fun ⟨u, hu, hbt⟩ => h2 ⟨b, (hmem b).2 ⟨hbv, hbx⟩, (e1 _ _).2 ?_⟩⟩
      have := (e1 _ _).1 hbt
      have := hmax u hu
      omega
  · have hc : b.count < x.count := by rcases hlose with h | h; exact absurd h hp; exact h
    have hbx : b ≠ x := fun h => by rw [h] at hc; omega
    have hpx : x.pref = b.pref := by have := hmax x hx; omega
    have s1 : ∀ v, Sv ws 1 v ↔ Sv vs 1 v ∧ v ≠ x := by
      intro v
      constructor
      · rintro ⟨h1, h2⟩
        have h1 := (hmem v).1 h1
        refine ⟨⟨h1.1, fun ⟨u, hu, hbt⟩ => h2 ⟨b, (hmem b).2 ⟨hbv, hbx⟩, (e1 _ _).2 ?_⟩⟩, h1.2⟩
        have := (e1 _ _).1 hbt
        have := hmax u hu
        omega
      · rintro ⟨⟨h1, h2⟩, h3⟩
        exact ⟨(hmem v).2 ⟨h1, h3⟩, fun ⟨u, hu, hbt⟩ => h2 ⟨u, ((hmem u).1 hu).1, hbt⟩⟩
    refine Sv_from (j := 2) (fun v => ?_) 7 (by omega)
    constructor
    · rintro ⟨h1, h2⟩
      refine ⟨(s1 v).2 ⟨h1, fun h => ?_⟩, fun ⟨u, hu, hbt⟩ => h2 ⟨u, ((s1 u).1 hu).1, hbt⟩⟩
      subst h
      exact h2 ⟨b, hb1, (e2 _ _).2 hc⟩
    · rintro ⟨h1, h2⟩
      have h1 := (s1 v).1 h1
      refine ⟨h1.1, fun ⟨u, hu, hbt⟩ => ?_⟩
      have hlt := (e2 _ _).1 hbt
      by_cases hux : u = x
      · subst hux
        exact h2 ⟨b, (s1 b).2 ⟨hb1, hbx⟩, (e2 _ _).2 (by omega)⟩
      · exact h2 ⟨u, (s1 u).2 ⟨hu, hux⟩, hbt⟩
/-- Two candidates with IDs of their own: what so many steps leave. -/
theorem better_iff {a b : Vw} (ha : a.cost ≤ fInf) (hb : b.cost ≤ fInf) (hid : a.id ≠ b.id) {k : Nat} (hk : k ≤ 7) : (leftA [a, b] k == [0]) = true ↔ (Sv [a, b] k a ∧ ¬ Sv [a, b] k b) := by
  have hv : OkV [a, b] := by
    intro v h
    simp at h
    rcases h with rfl | rfl <;> assumption
  have hids : Ids [a, b] := by simp [Ids, hid]
  have hR : leftA [a, b] k = leftR [a, b] k := by
    by_cases h6 : k ≤ 6
    · exact (leftR_eq _ _ h6).symm
    · obtain rfl : k = 7 := by omega
      obtain ⟨n, v, h1, h2, _⟩ := one_left hv (by simp) hids
      rw [h1, h2]
  rw [hR]
  have hm0 := mem_leftR (vs := [a, b]) k 0
  have hm1 := mem_leftR (vs := [a, b]) k 1
  simp only [List.getElem?_cons_zero, Option.some.injEq, exists_eq_left'] at hm0
  simp only [List.getElem?_cons_succ, List.getElem?_cons_zero, Option.some.injEq, exists_eq_left'] at hm1
  have hs := leftR_sub [a, b] k
  rw [← hm0, ← hm1]
  have hr : List.range [a, b].length = [0, 1] := rfl
  rw [hr] at hs
  generalize leftR [a, b] k = l at *
  rw [beq_iff_eq]
  have hcase : l = [] ∨ l = [0] ∨ l = [1] ∨ l = [0, 1] := by
    cases hs with
    | cons _ h1 =>
      cases h1 with
      | cons _ h2 => cases h2; exact .inl rfl
      | cons_cons _ h2 => cases h2; exact .inr (.inr (.inl rfl))
    | cons_cons _ h1 =>
      cases h1 with
      | cons _ h2 => cases h2; exact .inr (.inl rfl)
      | cons_cons _ h2 => cases h2; exact .inr (.inr (.inr rfl))
  rcases hcase with h | h | h | h <;> subst h <;> simp
theorem Sv_swap {a b : Vw} (k : Nat) (v : Vw) : Sv [a, b] k v ↔ Sv [b, a] k v :=
  Sv_from (j := 0) (fun v => by simp [Sv]; exact Or.comm) k (by omega) v
theorem Sv_step {a b : Vw} (ha : a.cost ≤ fInf) {k : Nat} (h1 : Sv [a, b] k a) (h2 : ¬ Sv [a, b] k b) : Sv [a, b] (k + 1) a ∧ ¬ Sv [a, b] (k + 1) b := by
  refine ⟨⟨h1, fun ⟨u, hu, hb⟩ => ?_⟩, fun h => h2 h.1⟩
  have := Sv_mem hu
  simp at this
  rcases this with rfl | rfl
  · rw [bts_irr ha] at hb; cases hb
  · exact h2 hu
end Go.Sp
