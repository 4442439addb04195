/-
  Of two candidates with IDs of their own.
-/
import Derived.Test.YtmgigplbclkpaaaSpDecS
namespace Go.Sp
set_option linter.unusedVariables false
set_option linter.unusedSimpArgs false
/-- Does the first one alone stand behind so many steps? -/
def fst2 (a b : Vw) (k : Nat) : Bool := leftA [a, b] k == [0]
theorem fst2_iff {a b : Vw} (ha : a.cost ≤ fInf) (hb : b.cost ≤ fInf) (hid : a.id ≠ b.id) {k : Nat} (hk : k ≤ 7) : fst2 a b k = true ↔ (Sv [a, b] k a ∧ ¬ Sv [a, b] k b) := better_iff ha hb hid hk
theorem snd2_iff {a b : Vw} (ha : a.cost ≤ fInf) (hb : b.cost ≤ fInf) (hid : a.id ≠ b.id) {k : Nat} (hk : k ≤ 7) : fst2 b a k = true ↔ (Sv [a, b] k b ∧ ¬ Sv [a, b] k a) := by
  rw [fst2_iff hb ha (Ne.symm hid) hk, Sv_swap, Sv_swap k a]
theorem pair_not {a b : Vw} (ha : a.cost ≤ fInf) (hb : b.cost ≤ fInf) (hid : a.id ≠ b.id) {k : Nat} (hk : k ≤ 7) : ¬ (fst2 a b k = true ∧ fst2 b a k = true) := by
  rw [fst2_iff ha hb hid hk, snd2_iff ha hb hid hk]
  rintro ⟨⟨h1, h2⟩, h3, h4⟩
  exact h2 h3
theorem pair_up {a b : Vw} (ha : a.cost ≤ fInf) (hb : b.cost ≤ fInf) (hid : a.id ≠ b.id) {k : Nat} (hk : k + 1 ≤ 7) : (fst2 a b k = true → fst2 a b (k + 1) = true) ∧ (fst2 b a k = true → fst2 b a (k + 1) = true) := by
  rw [fst2_iff ha hb hid (by omega), snd2_iff ha hb hid (by omega), fst2_iff ha hb hid hk, snd2_iff ha hb hid hk]
  refine ⟨fun h => Sv_step ha h.1 h.2, fun h => ?_⟩
  have := Sv_step (a := b) (b := a) hb ((Sv_swap k b).1 h.1) (fun h' => h.2 ((Sv_swap k a).2 h'))
  exact ⟨(Sv_swap _ _).2 this.1, fun h' => this.2 ((Sv_swap _ _).1 h')⟩
theorem pair_zero {a b : Vw} (ha : a.cost ≤ fInf) (hb : b.cost ≤ fInf) (hid : a.id ≠ b.id) : fst2 a b 0 = false ∧ fst2 b a 0 = false := ⟨rfl, rfl⟩
theorem pair_end {a b : Vw} (ha : a.cost ≤ fInf) (hb : b.cost ≤ fInf) (hid : a.id ≠ b.id) : (bestA [a, b] = (0, true) ∧ fst2 a b 7 = true ∧ fst2 b a 7 = false) ∨ (bestA [a, b] = (1, true) ∧ fst2 b a 7 = true) := by
  have hv : OkV [a, b] := by
    intro v h
    simp at h
    rcases h with rfl | rfl <;> assumption
  have hids : Ids [a, b] := by simp [Ids, hid]
  obtain ⟨n, v, hR, hA, hB, hn, hs, hu⟩ := one_left hv (by simp) hids
  have hnot := pair_not ha hb hid (k := 7) (by omega)
  match n, hn with
  | 0, hn =>
    cases hn
    have h1 : fst2 a b 7 = true := (fst2_iff ha hb hid (by omega)).2 ⟨hs, fun h => hid (by rw [hu b h])⟩
    exact .inl ⟨hB, h1, by cases h : fst2 b a 7 with | false => rfl | true => exact absurd ⟨h1, h⟩ hnot⟩
  | 1, hn =>
    cases hn
    exact .inr ⟨hB, (snd2_iff ha hb hid (by omega)).2 ⟨hs, fun h => hid (by rw [hu a h])⟩⟩
  | n + 2, hn => simp at hn
/-- What was told of the two behind so many steps. -/
def code2 (a b : Vw) (k : Nat) : Int := if fst2 b a k then 2 else if fst2 a b k then 1 else 0
def was2 (a b : Vw) : Nat → Int
  | 0 => 0
  | k + 1 => code2 a b k
theorem was_code {a b : Vw} (ha : a.cost ≤ fInf) (hb : b.cost ≤ fInf) (hid : a.id ≠ b.id) {k : Nat} (hk : k ≤ 7) (h : was2 a b k ≠ 0) : code2 a b k = was2 a b k := by
  match k, hk, h with
  | 0, _, h => exact absurd rfl h
  | k + 1, hk, h =>
    have hu := pair_up ha hb hid hk
    have hn := pair_not ha hb hid hk
    show code2 a b (k + 1) = code2 a b k
    have h : code2 a b k ≠ 0 := h
    unfold code2 at *
    cases h1 : fst2 b a k with
    | true => rw [hu.2 h1]; rfl
    | false =>
      cases h2 : fst2 a b k with
      | true =>
        have h3 := hu.1 h2
        have h4 : fst2 b a (k + 1) = false := by cases h : fst2 b a (k + 1) with | false => rfl | true => exact absurd ⟨h3, h⟩ hn
        rw [h3, h4]
      | false => rw [h1, h2] at h; exact absurd rfl h
end Go.Sp
