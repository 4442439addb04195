/-
  Arguments in plain words: lists out of slices that are good.
-/
import Derived.Test.YtflffabmfoldeaaSpRow
import Derived.Test.YtflffabmfoldeaaSpBytes
namespace Go.Sp
set_option linter.unusedVariables false
set_option linter.unusedSimpArgs false
open Go.RowKit (Below)
theorem list_choose {α : Type} {n : Nat} {p : Nat → α → Prop} (h : ∀ i, i < n → ∃ x, p i x) : ∃ l : List α, l.length = n ∧ ∀ i x, l[i]? = some x → p i x := by
  induction n with
  | zero => exact ⟨[], rfl, fun i x hx => by simp at hx⟩
  | succ n ih =>
    obtain ⟨l, hl, hp⟩ := ih fun i hi => h i (by omega)
    obtain ⟨x, hx⟩ := h n (by omega)
    refine ⟨l ++ [x], by simp [hl], fun i y hy => ?_⟩
    by_cases hi : i < l.length
    · rw [List.getElem?_append_left hi] at hy; exact hp i y hy
    · by_cases hi2 : i = l.length
      · subst hi2
        simp at hy
        subst hy; rw [hl]; exact hx
      · rw [List.getElem?_eq_none (by simp; omega)] at hy; cases hy
theorem Rd.row {sz : Nat} {w : World} {s : SV} {vs : List Value} (h : Rd sz w s vs) {a : Addr} (ha : s.a = Option.some a) {i j : Nat} (hj : j < sz) {v : Value} (hv : ((vs.drop (i * sz)).take sz)[j]? = Option.some v) : w.cell? ((a.add (i * sz)).add j) = Option.some v := by
  rw [List.getElem?_take, if_pos hj, List.getElem?_drop] at hv
  rw [add_add]
  exact h.cell a ha _ _ hv
theorem Rd.arg {sz : Nat} {W w : World} {s : SV} {vs : List Value} (h : Rd sz W s vs) (k : Below W.heap.size W w) : Rd sz w s vs :=
  ⟨h.len, h.cap, h.none, fun a ha i v hv => by
    have h1 := h.cell a ha i v hv
    rw [k.cell (World.block_lt_of_cell? W _ h1)]; exact h1⟩
theorem below_cell {W w : World} (k : Below W.heap.size W w) {a : Addr} {v : Value} (h : W.cell? a = some v) : w.cell? a = some v := by
  rw [k.cell (World.block_lt_of_cell? W _ h)]; exact h
/-- The bytes of a slice of bytes. -/
theorem good_bytes {w : World} {v : Value} (h : Gd w (.slice (.cons (.int .u8) .nil)) v) : ∃ (s : SV) (bs : List UInt8), v = s.v ∧ Rd 1 w s (bv bs) ∧ bs.length = s.len ∧ s.cap ≤ maxLen := by
  simp only [Gd] at h
  obtain ⟨s, vs, rfl, hr, hc, hg⟩ := h
  simp only [ShL.len, Nat.zero_add] at hr hg
  have hl := hr.len
  rw [Nat.mul_one] at hl
  obtain ⟨bs, hbl, hbp⟩ := list_choose (n := s.len) (p := fun i (b : UInt8) => vs[i]? = some (Value.int .u8 b.toNat)) (fun i hi => by
    have h1 := hg i hi
    simp only [GdL, Gd] at h1
    obtain ⟨v, r, h2, ⟨n, rfl, h3, h4⟩, rfl⟩ := h1
    have h5 : ((vs.drop (i * 1)).take 1)[0]? = some (Value.int .u8 n) := by rw [h2]; rfl
    rw [List.getElem?_take, if_pos (by omega), List.getElem?_drop] at h5
    have e1 : IntKind.u8.min = 0 := rfl
    have e2 : IntKind.u8.max = 255 := rfl
    refine ⟨UInt8.ofNat n.toNat, ?_⟩
    rw [UInt8.toNat_ofNat', Nat.mod_eq_of_lt (by omega), Int.toNat_of_nonneg (by omega)]
    simpa using h5)
  refine ⟨s, bs, rfl, ?_, hbl, hc⟩
  have : vs = bv bs := by
    apply List.ext_getElem?
    intro i
    by_cases hi : i < bs.length
    · rw [hbp i bs[i] (List.getElem?_eq_getElem hi), bv_get (List.getElem?_eq_getElem hi)]
    · rw [List.getElem?_eq_none (by omega), List.getElem?_eq_none (by rw [bv_length]; omega)]
  rw [← this]; exact hr
/-- Behind w all that lay in W is as it was. -/
def Aft (W w : World) : Prop := Below W.heap.size W w ∧ W.heap.size ≤ w.heap.size
theorem Aft.refl (W : World) : Aft W W := ⟨Below.refl _ _, Nat.le_refl _⟩
theorem Aft.step {W w w' : World} {D : List Nat} (h : Aft W w) (k : Keeps D w w') (hD : ∀ x ∈ D, W.heap.size ≤ x) : Aft W w' := ⟨k.below h.1 h.2 hD, Nat.le_trans h.2 k.size⟩
theorem Aft.new {W w w' : World} (h : Aft W w) (k : Keeps [] w w') : Aft W w' := h.step k (by simp)
theorem Aft.one {W w w' : World} {p : Nat} (h : Aft W w) (k : Keeps [p] w w') (hp : W.heap.size ≤ p) : Aft W w' := h.step k (by simpa using hp)
theorem GdArgs.one {W : World} {sh : Sh} {l : List (Bool × ShL)} {vs : List Value} (h : GdArgs W ((false, .cons sh .nil) :: l) vs) : ∃ v r, vs = v :: r ∧ Gd W sh v ∧ GdArgs W l r := by
  obtain ⟨v, r, rfl, h1, _, h2, h3⟩ := h
  refine ⟨v, r, rfl, ?_, h3⟩
  rw [h1 rfl] at h2
  simp only [GdL] at h2
  obtain ⟨v', r', h4, h5, _⟩ := h2
  simp only [List.cons.injEq] at h4
  rw [h4.1]
  exact h5
/-- The numbers of a slice of numbers. -/
theorem good_ints {k : IntKind} {w : World} {v : Value} (h : Gd w (.slice (.cons (.int k) .nil)) v) : ∃ (s : SV) (zs : List Int), v = s.v ∧ Rd 1 w s (zs.map (Value.int k)) ∧ zs.length = s.len ∧ s.cap ≤ maxLen ∧ ∀ z ∈ zs, k.min ≤ z ∧ z ≤ k.max := by
  simp only [Gd] at h
  obtain ⟨s, vs, rfl, hr, hc, hg⟩ := h
  simp only [ShL.len, Nat.zero_add] at hr hg
  have hl := hr.len
  rw [Nat.mul_one] at hl
  obtain ⟨zs, hbl, hbp⟩ := list_choose (n := s.len) (p := fun i (z : Int) => vs[i]? = some (Value.int k z) ∧ k.min ≤ z ∧ z ≤ k.max) (fun i hi => by
    have h1 := hg i hi
    simp only [GdL, Gd] at h1
    obtain ⟨v, r, h2, ⟨n, rfl, h3, h4⟩, rfl⟩ := h1
    have h5 : ((vs.drop (i * 1)).take 1)[0]? = some (Value.int k n) := by rw [h2]; rfl
    rw [List.getElem?_take, if_pos (by omega), List.getElem?_drop] at h5
    exact ⟨n, by simpa using h5, h3, h4⟩)
  refine ⟨s, zs, rfl, ?_, hbl, hc, fun z hz => ?_⟩
  · have : vs = zs.map (Value.int k) := by
      apply List.ext_getElem?
      intro i
      by_cases hi : i < zs.length
      · rw [(hbp i zs[i] (List.getElem?_eq_getElem hi)).1, List.getElem?_map, List.getElem?_eq_getElem hi]; rfl
      · rw [List.getElem?_eq_none (by omega), List.getElem?_eq_none (by simp; omega)]
    rw [← this]; exact hr
  · obtain ⟨i, hi, rfl⟩ := List.getElem_of_mem hz
    exact (hbp i _ (List.getElem?_eq_getElem hi)).2
theorem good_int {k : IntKind} {w : World} {v : Value} (h : Gd w (.int k) v) : ∃ n, v = .int k n ∧ k.min ≤ n ∧ n ≤ k.max := by
  simpa only [Gd] using h
theorem good_bool {w : World} {v : Value} (h : Gd w .bool v) : ∃ b, v = .bool b := by
  simpa only [Gd] using h
end Go.Sp
