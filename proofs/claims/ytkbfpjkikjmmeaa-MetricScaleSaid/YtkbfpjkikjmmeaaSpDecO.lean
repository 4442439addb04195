/-
  What the steps leave: never none of some; the best one.
-/
import Derived.Test.YtkbfpjkikjmmeaaSpDec
import Derived.Test.YtkbfpjkikjmmeaaSpFloO
namespace Go.Sp
set_option linter.unusedVariables false
set_option linter.unusedSimpArgs false
theorem read_zero : Ieee.double.read 0 = .number false 0 (-1074) := by decide +kernel
theorem cleanN_le {b : Nat} (h : b < 18446744073709551616) : cleanN b ≤ fInf := by
  unfold cleanN
  split
  · rename_i h1
    split
    · simp
    · rename_i h2
      refine Classical.byContradiction fun h3 => ?_
      have h3 : fInf < b := by omega
      unfold fInf at h3
      unfold fGeq Ieee.Format.order at h1
      unfold fEql Ieee.Format.order at h2
      rw [read_zero] at h1 h2
      by_cases h4 : b < 9223372036854775808
      · obtain ⟨t, ht⟩ := read_nan h3 h4
        rw [ht] at h1
        simp [Ieee.Datum.order] at h1
      · rcases read_neg (by omega) h with ⟨m, e, hr⟩ | hr | ⟨t, hr⟩
        · rw [hr] at h1 h2
          simp only [Ieee.Datum.order, Ieee.signed, Bool.false_eq_true, if_false, if_true, Nat.shiftLeft_eq, Nat.zero_mul] at h1 h2
          generalize hk : (m * 2 ^ (e - min e (-1074)).toNat) = k at h1 h2
          rcases Nat.eq_zero_or_pos k with h5 | h5
          · subst h5
            simp at h2
          · rw [cmp_lt (show (-(k : Int)) < ((0 : Nat) : Int) by omega)] at h1
            simp at h1
        · rw [hr] at h1
          simp [Ieee.Datum.order] at h1
        · rw [hr] at h1
          simp [Ieee.Datum.order] at h1
  · exact Nat.le_refl _
theorem bts_irr {a : Vw} (ha : a.cost ≤ fInf) (s : Int) : bts a a s = false := by
  unfold bts
  repeat' split
  all_goals first | simp | (rw [fLss_pos ha ha]; simp)
theorem bts_trans {a b c : Vw} (ha : a.cost ≤ fInf) (hb : b.cost ≤ fInf) (hc : c.cost ≤ fInf) {s : Int} (h1 : bts a b s = true) (h2 : bts b c s = true) : bts a c s = true := by
  unfold bts at *
  split
  · rename_i h; simp only [h, if_true, decide_eq_true_eq] at h1 h2 ⊢; omega
  rename_i n1; rw [if_neg n1] at h1 h2
  split
  · rename_i h; simp only [h, if_true, decide_eq_true_eq] at h1 h2 ⊢; omega
  rename_i n2; rw [if_neg n2] at h1 h2
  split
  · rename_i h; simp only [h, if_true, decide_eq_true_eq] at h1 h2 ⊢; omega
  rename_i n3; rw [if_neg n3] at h1 h2
  split
  · rename_i h
    simp only [h, if_true, Bool.and_eq_true, beq_iff_eq, decide_eq_true_eq] at h1 h2 ⊢
    exact ⟨⟨h1.1.1.trans h2.1.1, h1.1.2.trans h2.1.2⟩, by omega⟩
  rename_i n4; rw [if_neg n4] at h1 h2
  split
  · rename_i h
    simp only [h, if_true, Bool.and_eq_true] at h1 h2 ⊢
    exact ⟨h1.1, h2.2⟩
  rename_i n5; rw [if_neg n5] at h1 h2
  split
  · rename_i h
    simp only [h, if_true] at h1 h2 ⊢
    rw [fLss_pos hb ha, decide_eq_true_eq] at h1
    rw [fLss_pos hc hb, decide_eq_true_eq] at h2
    rw [fLss_pos hc ha, decide_eq_true_eq]; omega
  rename_i n6; rw [if_neg n6] at h1 h2
  simp only [Bool.or_eq_true, Bool.and_eq_true, beq_iff_eq, decide_eq_true_eq] at h1 h2 ⊢
  omega
theorem unbeaten {α : Type} (R : α → α → Prop) : ∀ (n : Nat) (l : List α), l.length = n → l ≠ [] → (∀ x ∈ l, ¬ R x x) → (∀ x ∈ l, ∀ y ∈ l, ∀ z ∈ l, R x y → R y z → R x z) → ∃ x ∈ l, ∀ y ∈ l, ¬ R x y
  | 0, l, hl, hne, _, _ => absurd (List.eq_nil_of_length_eq_zero hl) hne
  | n + 1, l, hl, _, hi, ht => by
    match l, hl with
    | [x], _ => exact ⟨x, by simp, by intro y hy; simp at hy; subst hy; exact hi y (by simp)⟩
    | x :: y :: l, hl =>
      obtain ⟨m, hm, hmm⟩ := unbeaten R n (y :: l) (by simpa using hl) (by simp) (fun z hz => hi z (List.mem_cons_of_mem _ hz)) (fun a ha b hb c hc => ht a (List.mem_cons_of_mem _ ha) b (List.mem_cons_of_mem _ hb) c (List.mem_cons_of_mem _ hc))
      by_cases h : R m x
      · refine ⟨x, by simp, fun z hz hxz => ?_⟩
        rcases List.mem_cons.1 hz with rfl | hz
        · exact hi z (by simp) hxz
        · exact hmm z hz (ht m (List.mem_cons_of_mem _ hm) x (by simp) z (List.mem_cons_of_mem _ hz) h hxz)
      · refine ⟨m, List.mem_cons_of_mem _ hm, fun z hz => ?_⟩
        rcases List.mem_cons.1 hz with rfl | hz
        · exact h
        · exact hmm z hz
/-- All costs are costs. -/
def OkV (vs : List Vw) : Prop := ∀ v ∈ vs, v.cost ≤ fInf
theorem gone_iff {vs : List Vw} {l : List Nat} {n : Nat} {s : Int} : gone vs l n s = true ↔ ∃ k ∈ l, ∃ a b, vs[n]? = some a ∧ vs[k]? = some b ∧ bts a b s = true := by
  unfold gone
  rw [List.any_eq_true]
  constructor
  · rintro ⟨k, hk, h⟩
    cases h1 : vs[n]? with
    | none => simp [h1] at h
    | some a =>
      cases h2 : vs[k]? with
      | none => simp [h1, h2] at h
      | some b => simp only [h1, h2] at h; exact ⟨k, hk, a, b, rfl, h2, h⟩
  · rintro ⟨k, hk, a, b, h1, h2, h3⟩
    exact ⟨k, hk, by simp only [h1, h2]; exact h3⟩
theorem mem_keepA {vs : List Vw} {l : List Nat} {n : Nat} {s : Int} : n ∈ keepA vs l s ↔ n ∈ l ∧ ¬ ∃ k ∈ l, ∃ a b, vs[n]? = some a ∧ vs[k]? = some b ∧ bts a b s = true := by
  unfold keepA
  rw [List.mem_filter, ← gone_iff]
  simp
theorem keepA_ne {vs : List Vw} (hv : OkV vs) {l : List Nat} (hne : l ≠ []) (s : Int) : keepA vs l s ≠ [] := by
  have ok : ∀ {n : Nat} {a : Vw}, vs[n]? = some a → a.cost ≤ fInf := fun h => hv _ (List.mem_of_getElem? h)
  obtain ⟨n, hn, hm⟩ := unbeaten (fun n k => ∃ a b, vs[n]? = some a ∧ vs[k]? = some b ∧ bts a b s = true) l.length l rfl hne
    (fun x _ ⟨a, b, h1, h2, h3⟩ => by
      rw [h1] at h2; cases h2
      rw [bts_irr (ok h1)] at h3; cases h3)
    (fun x _ y _ z _ ⟨a, b, h1, h2, h3⟩ ⟨b', c, h4, h5, h6⟩ => by
      rw [h2] at h4; cases h4
      exact ⟨a, c, h1, h5, bts_trans (ok h1) (ok h2) (ok h5) h3 h6⟩)
  intro h
  have : n ∈ keepA vs l s := mem_keepA.2 ⟨hn, fun ⟨k, hk, h⟩ => hm k hk h⟩
  rw [h] at this
  simp at this
theorem siftA_ne {vs : List Vw} (hv : OkV vs) {l : List Nat} (hne : l ≠ []) (s : Int) : siftA vs l s ≠ [] := by
  have := keepA_ne hv hne s
  unfold siftA
  split
  · cases h : keepA vs l s with
    | nil => exact absurd h this
    | cons x r => simp
  · exact this
theorem leftA_ne {vs : List Vw} (hv : OkV vs) (hne : vs ≠ []) : ∀ k, leftA vs k ≠ []
  | 0 => by
    intro h
    have := congrArg List.length h
    simp [leftA] at this
    exact hne this
  | k + 1 => siftA_ne hv (leftA_ne hv hne k) _
theorem bestA_some {vs : List Vw} (hv : OkV vs) (hne : vs ≠ []) : ∃ n r, leftA vs 7 = n :: r ∧ bestA vs = ((n : Int), true) := by
  cases h : leftA vs 7 with
  | nil => exact absurd h (leftA_ne hv hne 7)
  | cons n r => exact ⟨n, r, rfl, by unfold bestA; rw [h]⟩
theorem leftA_nil : ∀ k, leftA [] k = []
  | 0 => rfl
  | k + 1 => by
    have := leftA_nil k
    rw [leftA, this, siftA]
    split <;> rfl
end Go.Sp
