/-
  Reading and writing at a place of a list; lists that are written from their head on.
-/
import Derived.Test.YtflffabmfoldeaaSpFn
import Derived.Test.YtflffabmfoldeaaSpNum
namespace Go.Sp
set_option linter.unusedVariables false
set_option linter.unusedSimpArgs false
/-- The first so many of one list, and the rest of another one. -/
def blend {α : Type} (A B : List α) (j : Nat) : List α := A.take j ++ B.drop j
section
variable {α : Type} {A B : List α} {j : Nat}
theorem blend_zero : blend A B 0 = B := by simp [blend]
theorem blend_end (h : A.length = B.length) : blend A B A.length = A := by
  unfold blend
  rw [List.take_length, h, List.drop_length, List.append_nil]
theorem blend_all (h : A.length = B.length) {n : Nat} (hn : n = A.length) : blend A B n = A := by subst hn; exact blend_end h
theorem blend_len (h : A.length = B.length) (hj : j ≤ A.length) : (blend A B j).length = B.length := by simp [blend]; omega
theorem blend_get (h : A.length = B.length) (hj : j < A.length) : (blend A B j)[j]? = B[j]? := by
  unfold blend
  rw [List.getElem?_append_right (by simp; omega), List.getElem?_drop]
  congr 1
  simp; omega
theorem blend_done (h : A.length = B.length) (hj : j ≤ A.length) {i : Nat} (hi : i < j) : (blend A B j)[i]? = A[i]? := by
  unfold blend
  rw [List.getElem?_append_left (by simp; omega), List.getElem?_take, if_pos hi]
theorem blend_rest (h : A.length = B.length) (hj : j ≤ A.length) {i : Nat} (hi : j ≤ i) : (blend A B j)[i]? = B[i]? := by
  unfold blend
  rw [List.getElem?_append_right (by simp; omega), List.getElem?_drop]
  congr 1
  simp; omega
theorem blend_set (h : A.length = B.length) {x : α} (hx : A[j]? = some x) : (blend A B j).set j x = blend A B (j + 1) := by
  have hj : j < A.length := (List.getElem?_eq_some_iff.1 hx).1
  apply List.ext_getElem?
  intro i
  rw [List.getElem?_set, blend_len h (by omega)]
  by_cases h1 : j = i
  · subst h1
    rw [if_pos rfl, if_pos (by omega), blend_done h (by omega) (by omega), hx]
  · rw [if_neg h1]
    by_cases h2 : i < j
    · rw [blend_done h (by omega) h2, blend_done h (by omega) (by omega)]
    · rw [blend_rest h (by omega) (by omega), blend_rest h (by omega) (by omega)]
/-- Nothing to write there. -/
theorem blend_skip (h : A.length = B.length) (hx : A[j]? = B[j]?) (hj : j < A.length) : blend A B j = blend A B (j + 1) := by
  apply List.ext_getElem?
  intro i
  by_cases h2 : i < j
  · rw [blend_done h (by omega) h2, blend_done h (by omega) (by omega)]
  · rw [blend_rest h (by omega) (by omega)]
    by_cases h3 : i = j
    · subst h3
      rw [blend_done h (by omega) (by omega), hx]
    · rw [blend_rest h (by omega) (by omega)]
theorem map_blend {β : Type} (f : α → β) : (blend A B j).map f = blend (A.map f) (B.map f) j := by simp [blend, List.map_take, List.map_drop]
end
theorem flat1 {α : Type} (z : α) (n : Nat) : (List.replicate n [z]).flatten = List.replicate n z := by
  induction n with
  | zero => rfl
  | succ n ih => rw [List.replicate_succ, List.flatten_cons, ih]; rfl
namespace M
theorem idx_ld {α : Type} {tov : α → Value} {w : World} {s : SV} {vs : List Value} (hs : Rd 1 w s vs) {j : Nat} {x : α} (hv : vs[j]? = some (tov x)) {K : α → Prop} (h : K x) : M.idx s (j : Int) 1 fun a => M.ld tov (a.add ((j : Int).toNat * 1)) w K := by
  have hl := hs.len
  have hj : j < vs.length := (List.getElem?_eq_some_iff.1 hv).1
  obtain ⟨a, ha⟩ := hs.some (by omega)
  exact ⟨a, ha, by omega, by omega, x, by rw [Int.toNat_natCast, Nat.mul_one]; exact hs.at ha hv, h⟩
theorem idx_st {e : TypeId} {w : World} {s : SV} {vs : List Value} (ho : Own e 1 w s vs) {j : Nat} (hj : j < vs.length) {v : Value} {K : World → Prop} (h : ∀ w', Own e 1 w' s (vs.set j v) → Keeps s.blk w w' → K w') :
    M.idx s (j : Int) 1 fun a => M.st (a.add ((j : Int).toNat * 1)) v w K := by
  have hl := ho.rd.len
  obtain ⟨a, ha⟩ := ho.rd.some (by omega)
  obtain ⟨h1, h2, h3, h4⟩ := ho.put ha hj v
  refine ⟨a, ha, by omega, by omega, ?_⟩
  rw [Int.toNat_natCast, Nat.mul_one]
  exact ⟨h1, h2, h _ h3 h4⟩
theorem mk_by {P : Program} {t e bytes : Nat} {z : Value} (hB : sliceB P t e 1 = true) (hE : elemB P e 1 bytes = true) (hz : (P.info? e).map (·.zero) = some (some z)) (hz1 : z.cells.toList = [z]) {w : World} {n : Nat} (hb : n * bytes ≤ 140737488355328) {K : SV → World → Prop}
    (h : ∀ b w', b = w.heap.size → w'.heap.size = b + 1 → Own e 1 w' ⟨some ⟨b, 0, none⟩, n, n⟩ (List.replicate n z) → Keeps [] w w' → K ⟨some ⟨b, 0, none⟩, n, n⟩ w') : M.mk P t (.int .i64 (n : Int)) (.int .i64 (n : Int)) w K := by
  obtain ⟨w', h1, h2, h3, h4⟩ := mk_own hB hE hz (w := w) hb
  rw [hz1] at h2
  rw [flat1] at h2
  exact ⟨_, _, h1, h _ _ rfl h4 h2 h3⟩
end M
end Go.Sp
