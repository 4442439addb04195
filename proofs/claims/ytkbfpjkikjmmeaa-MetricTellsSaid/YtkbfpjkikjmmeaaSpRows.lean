/-
  Rows of structs: lists whose elements are some cells each.
-/
import Derived.Test.YtkbfpjkikjmmeaaSpDec
namespace Go.Sp
set_option linter.unusedVariables false
set_option linter.unusedSimpArgs false
open Go.RowKit (Below)
section
variable {α : Type} {cells : α → List Value} {sz : Nat}
theorem fm_len (hc : ∀ x, (cells x).length = sz) (l : List α) : (l.flatMap cells).length = l.length * sz := by
  induction l with
  | nil => simp
  | cons x l ih => rw [List.flatMap_cons, List.length_append, hc, ih, List.length_cons, Nat.succ_mul, Nat.add_comm]
theorem fm_drop (hc : ∀ x, (cells x).length = sz) (l : List α) : ∀ i : Nat, (l.flatMap cells).drop (i * sz) = (l.drop i).flatMap cells := by
  induction l with
  | nil => intro i; simp
  | cons x l ih =>
    intro i
    cases i with
    | zero => simp
    | succ i =>
      rw [List.flatMap_cons, List.drop_append, List.drop_of_length_le (by rw [hc, Nat.succ_mul]; omega), hc, List.nil_append, Nat.succ_mul, Nat.add_sub_cancel, ih i]
      rfl
theorem fm_take (hc : ∀ x, (cells x).length = sz) (l : List α) : ∀ i : Nat, (l.flatMap cells).take (i * sz) = (l.take i).flatMap cells := by
  induction l with
  | nil => intro i; simp
  | cons x l ih =>
    intro i
    cases i with
    | zero => simp
    | succ i =>
      rw [List.flatMap_cons, List.take_append, List.take_of_length_le (by rw [hc, Nat.succ_mul]; omega), hc, Nat.succ_mul, Nat.add_sub_cancel, ih i]
      rfl
theorem fm_row (hc : ∀ x, (cells x).length = sz) {l : List α} {i : Nat} {x : α} (hx : l[i]? = some x) : ((l.flatMap cells).drop (i * sz)).take sz = cells x := by
  obtain ⟨hi, hx⟩ := List.getElem?_eq_some_iff.1 hx
  rw [fm_drop hc, List.drop_eq_getElem_cons hi, hx, List.flatMap_cons]
  exact List.take_left' (hc x)
theorem rows_at (hc : ∀ x, (cells x).length = sz) {w : World} {s : SV} {l : List α} (h : Rd sz w s (l.flatMap cells)) {a : Addr} (ha : s.a = some a) {i : Nat} {x : α} (hx : l[i]? = some x) {j : Nat} {v : Value} (hj : (cells x)[j]? = some v) : w.cell? ((a.add (i * sz)).add j) = some v :=
  h.row ha (by have := (List.getElem?_eq_some_iff.1 hj).1; rw [hc] at this; exact this) (by rw [fm_row hc hx]; exact hj)
theorem rows_at0 (hc : ∀ x, (cells x).length = sz) {w : World} {s : SV} {l : List α} (h : Rd sz w s (l.flatMap cells)) {a : Addr} (ha : s.a = some a) {i : Nat} {x : α} (hx : l[i]? = some x) {v : Value} (hj : (cells x)[0]? = some v) : w.cell? (a.add (i * sz)) = some v := by
  have := rows_at hc h ha hx hj
  rwa [add_zero] at this
theorem rows_cs (hc : ∀ x, (cells x).length = sz) {w : World} {s : SV} {l : List α} (h : Rd sz w s (l.flatMap cells)) {a : Addr} (ha : s.a = some a) {i : Nat} {x : α} (hx : l[i]? = some x) : Cs w (a.add (i * sz)) 0 (cells x) :=
  cs_of _ _ fun j v hj => by
    rw [Nat.zero_add]
    exact rows_at hc h ha hx hj
theorem rows_part (hc : ∀ x, (cells x).length = sz) {w : World} {s : SV} {l : List α} (h : Rd sz w s (l.flatMap cells)) {a : Addr} (ha : s.a = some a) {i : Nat} {x : α} (hx : l[i]? = some x) (o : Nat) {vs : List Value} (hv : ((cells x).drop o).take vs.length = vs) : Cs w ((a.add (i * sz)).add o) 0 vs :=
  cs_of _ _ fun j v hj => by
    rw [Nat.zero_add, add_add]
    have h1 : (((cells x).drop o).take vs.length)[j]? = some v := by rw [hv]; exact hj
    rw [List.getElem?_take, if_pos (List.getElem?_eq_some_iff.1 hj).1, List.getElem?_drop] at h1
    exact rows_at hc h ha hx h1
theorem rows_len (hc : ∀ x, (cells x).length = sz) (hz : 0 < sz) {w : World} {s : SV} {l : List α} (h : Rd sz w s (l.flatMap cells)) : s.len = l.length := by
  have := h.len
  rw [fm_len hc] at this
  exact Nat.eq_of_mul_eq_mul_right hz this.symm
theorem rows_sub (hc : ∀ x, (cells x).length = sz) (hz : 0 < sz) {w : World} {s : SV} {l : List α} (h : Rd sz w s (l.flatMap cells)) {n : Nat} (hn : n ≤ l.length) : Rd sz w (s.sub 0 n sz) ((l.take n).flatMap cells) := by
  have hl := rows_len hc hz h
  have := h.sub (l := 0) (u := n) (by omega) (by omega)
  rw [Nat.zero_mul, List.drop_zero, Nat.sub_zero, fm_take hc] at this
  exact this
/-- The rows of an argument. -/
theorem rows_of {sh : ShL} (hs : sh.len = sz) (hc : ∀ x, (cells x).length = sz) {W : World} {ok : α → Prop} (hd : ∀ vs, GdL W sh vs → ∃ x, vs = cells x ∧ ok x) {v : Value} (h : Gd W (.slice sh) v) :
    ∃ (s : SV) (l : List α), v = s.v ∧ Rd sz W s (l.flatMap cells) ∧ l.length = s.len ∧ s.len ≤ maxLen ∧ ∀ x ∈ l, ok x := by
  simp only [Gd] at h
  obtain ⟨s, vs, rfl, hr, hcap, hg⟩ := h
  rw [hs] at hg hr
  have hl := hr.len
  obtain ⟨bs, hbl, hbp⟩ := list_choose (n := s.len) (p := fun i (x : α) => (vs.drop (i * sz)).take sz = cells x ∧ ok x) (fun i hi => hd _ (hg i hi))
  refine ⟨s, bs, rfl, ?_, hbl, Nat.le_trans hr.cap hcap, fun x hx => ?_⟩
  · have : vs = bs.flatMap cells := by
      apply List.ext_getElem?
      intro j
      by_cases hj : j < vs.length
      · have hz : 0 < sz := by
          rcases Nat.eq_zero_or_pos sz with h0 | h0
          · rw [h0, Nat.mul_zero] at hl; omega
          · exact h0
        have hi : j / sz < bs.length := by rw [hbl]; exact Nat.div_lt_of_lt_mul (by rw [Nat.mul_comm]; omega)
        have h1 := (hbp (j / sz) bs[j / sz] (List.getElem?_eq_getElem hi)).1
        have h2 := fm_row hc (List.getElem?_eq_getElem hi)
        have h3 : ((vs.drop (j / sz * sz)).take sz)[j % sz]? = (((bs.flatMap cells).drop (j / sz * sz)).take sz)[j % sz]? := by rw [h1, h2]
        have hm : j % sz < sz := Nat.mod_lt _ hz
        rw [List.getElem?_take, List.getElem?_take, if_pos hm, if_pos hm, List.getElem?_drop, List.getElem?_drop, Nat.div_add_mod' j sz] at h3
        exact h3
      · rw [List.getElem?_eq_none (by omega), List.getElem?_eq_none (by rw [fm_len hc, hbl]; omega)]
    rw [← this]; exact hr
  · obtain ⟨i, hi, he⟩ := List.getElem_of_mem hx
    exact (hbp i x (by rw [List.getElem?_eq_getElem hi, he])).2
end
theorem Rd.blk_lt {sz : Nat} {w : World} {s : SV} {vs : List Value} (h : Rd sz w s vs) (hv : vs ≠ []) : ∀ x ∈ s.blk, x < w.heap.size := by
  intro x hx
  cases ha : s.a with
  | none => simp [SV.blk, ha] at hx
  | some a =>
    have hx : x = a.block := by simpa [SV.blk, ha] using hx
    cases vs with
    | nil => exact absurd rfl hv
    | cons v vs =>
      have h2 := World.block_lt_of_cell? w _ (h.at ha (i := 0) (v := v) rfl)
      rw [add_block] at h2
      omega
end Go.Sp
