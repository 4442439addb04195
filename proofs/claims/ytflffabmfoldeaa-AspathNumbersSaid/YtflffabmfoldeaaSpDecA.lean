/-
  Candidates among the arguments.
-/
import Derived.Test.YtflffabmfoldeaaSpDec
namespace Go.Sp
set_option linter.unusedVariables false
set_option linter.unusedSimpArgs false
open Go.RowKit (Below)
def uv (l : List Int) : List Value := l.map (Value.int .u32)
def u32Sh : ShL := .cons (.int .u32) .nil
def segSh : ShL := .cons (.int .i64) (.cons (.slice u32Sh) .nil)
def rawSh : ShL := .cons (.int .u32) (.cons (.int .u32) (.cons .bool (.cons (.int .i64) (.cons (.slice segSh) (.cons (.int .u32) (.cons .bool (.cons (.int .u32) (.cons .bool (.cons (.int .u32) (.cons .bool (.cons (.slice u32Sh) (.cons .flo .nil))))))))))))
theorem good_u32s {w : World} {v : Value} (h : Gd w (.slice u32Sh) v) : ∃ (s : SV) (l : List Int), v = s.v ∧ Rd 1 w s (uv l) := by
  simp only [Gd, u32Sh, ShL.len, Nat.zero_add] at h
  obtain ⟨s, vs, rfl, hr, hc, hg⟩ := h
  have hl := hr.len
  rw [Nat.mul_one] at hl
  obtain ⟨bs, hbl, hbp⟩ := list_choose (n := s.len) (p := fun i (b : Int) => vs[i]? = some (Value.int .u32 b)) (fun i hi => by
    have h1 := hg i hi
    simp only [GdL, Gd] at h1
    obtain ⟨v, r, h2, ⟨n, rfl, h3, h4⟩, rfl⟩ := h1
    have h5 : ((vs.drop (i * 1)).take 1)[0]? = some (Value.int .u32 n) := by rw [h2]; rfl
    rw [List.getElem?_take, if_pos (by omega), List.getElem?_drop] at h5
    exact ⟨n, by simpa using h5⟩)
  refine ⟨s, bs, rfl, ?_⟩
  have : vs = uv bs := by
    apply List.ext_getElem?
    intro i
    by_cases hi : i < bs.length
    · rw [hbp i bs[i] (List.getElem?_eq_getElem hi)]; simp [uv, hi]
    · rw [List.getElem?_eq_none (by omega), List.getElem?_eq_none (by simp [uv]; omega)]
  rw [← this]; exact hr
theorem good_segs {w : World} {v : Value} (h : Gd w (.slice segSh) v) : ∃ (s : SV) (l : List Sg), v = s.v ∧ Segs w s l := by
  simp only [Gd] at h
  obtain ⟨s, vs, rfl, hr, hc, hg⟩ := h
  have hl := hr.len
  have e2 : segSh.len = 2 := rfl
  rw [e2] at hl hg hr
  obtain ⟨bs, hbl, hbp⟩ := list_choose (n := s.len) (p := fun i (x : Sg) => (vs.drop (i * 2)).take 2 = sgv x ∧ Rd 1 w x.2.1 (uv x.2.2)) (fun i hi => by
    have h1 := hg i hi
    simp only [segSh, GdL] at h1
    obtain ⟨v1, r1, h2, ⟨k, rfl, _⟩, v2, r2, rfl, h3, rfl⟩ := h1
    obtain ⟨t, l, rfl, h4⟩ := good_u32s h3
    exact ⟨(k, t, l), h2, h4⟩)
  have hv : ∀ i x, bs[i]? = some x → x ∈ bs → Rd 1 w x.2.1 (uv x.2.2) := fun i x hx _ => (hbp i x hx).2
  refine ⟨s, bs, rfl, ?_, fun x hx => ?_⟩
  · have : vs = sgvs bs := by
      apply List.ext_getElem?
      intro j
      by_cases hj : j < vs.length
      · have hi : j / 2 < bs.length := by omega
        have h1 := (hbp (j / 2) bs[j / 2] (List.getElem?_eq_getElem hi)).1
        have h2 : ((sgvs bs).drop (j / 2 * 2)).take 2 = sgv bs[j / 2] := by
          rw [sgvs_drop, List.drop_eq_getElem_cons hi]; rfl
        have h3 : ((vs.drop (j / 2 * 2)).take 2)[j % 2]? = (((sgvs bs).drop (j / 2 * 2)).take 2)[j % 2]? := by rw [h1, h2]
        rw [List.getElem?_take, List.getElem?_take, if_pos (by omega), if_pos (by omega), List.getElem?_drop, List.getElem?_drop, show j / 2 * 2 + j % 2 = j by omega] at h3
        exact h3
      · rw [List.getElem?_eq_none (by omega), List.getElem?_eq_none (by rw [sgvs_len]; omega)]
    rw [← this]; exact hr
  · obtain ⟨i, hi, he⟩ := List.getElem_of_mem hx
    exact (hbp i x (by rw [List.getElem?_eq_getElem hi, he])).2
/-- A raw candidate's cells. -/
@[reducible] def Cn.raw (c : Cn) : List Value := [.int .u32 c.id, .int .u32 c.addr, .bool c.inner, .int .i64 c.origin, c.path.v, .int .u32 c.next, .bool c.hasMed, .int .u32 c.med, .bool c.hasPref, .int .u32 c.pref, .bool c.atomic, c.comms.v, .float .f64 c.cost]
theorem Segs.arg {W w : World} {s : SV} {l : List Sg} (h : Segs W s l) (k : Below W.heap.size W w) : Segs w s l := ⟨h.1.arg k, fun x hx => (h.2 x hx).arg k⟩
/-- A raw candidate of the list, as it lies in memory from then on. -/
def RawAt (W : World) (s : SV) (i : Nat) (x : Cn) : Prop :=
  ∃ a : Addr, s.a = some a ∧ (x.cost < 18446744073709551616 ∧ 0 ≤ x.addr) ∧ ∀ w, Below W.heap.size W w → Cs w (a.add (i * 13)) 0 x.raw ∧ Segs w x.path x.segs ∧ ∃ l, Rd 1 w x.comms (uv l)
theorem good_raws {W : World} {v : Value} (h : Gd W (.slice rawSh) v) : ∃ (s : SV) (l : List Cn), v = s.v ∧ l.length = s.len ∧ s.len ≤ maxLen ∧ ∀ i x, l[i]? = some x → RawAt W s i x := by
  simp only [Gd] at h
  obtain ⟨s, vs, rfl, hr, hc, hg⟩ := h
  have e13 : rawSh.len = 13 := rfl
  obtain ⟨l, hl, hp⟩ := list_choose (n := s.len) (p := fun i x => RawAt W s i x) (fun i hi => by
    obtain ⟨a, ha⟩ := hr.some (by omega)
    have h1 := hg i hi
    simp only [rawSh, GdL] at h1
    obtain ⟨v1, r1, h2, ⟨n1, rfl, _⟩, v2, r2, rfl, ⟨n2, rfl, hn2, _⟩, v3, r3, rfl, ⟨b3, rfl⟩, v4, r4, rfl, ⟨n4, rfl, _⟩, v5, r5, rfl, g5, v6, r6, rfl, ⟨n6, rfl, _⟩, v7, r7, rfl, ⟨b7, rfl⟩, v8, r8, rfl, ⟨n8, rfl, _⟩, v9, r9, rfl, ⟨b9, rfl⟩, v10, r10, rfl, ⟨n10, rfl, _⟩, v11, r11, rfl, ⟨b11, rfl⟩, v12, r12, rfl, g12, v13, r13, rfl, ⟨n13, rfl, hn13⟩, rfl⟩ := h1
    obtain ⟨s5, l5, rfl, h5⟩ := good_segs g5
    obtain ⟨s12, l12, rfl, h12⟩ := good_u32s g12
    refine ⟨⟨0, n1, n2, b3, n4, s5, n6, b7, n8, b9, n10, b11, s12, n13, l5⟩, a, ha, ⟨hn13, hn2⟩, fun w hw => ⟨cs_of _ _ fun j v hj => ?_, h5.arg hw, l12, h12.arg hw⟩⟩
    rw [Nat.zero_add]
    have hjl : j < 13 := (List.getElem?_eq_some_iff.1 hj).1
    exact below_cell hw (hr.row ha (i := i) (j := j) (v := v) (by rw [e13]; exact hjl) (by rw [show ((vs.drop (i * rawSh.len)).take rawSh.len) = _ from h2]; exact hj)))
  exact ⟨s, l, rfl, hl, Nat.le_trans hr.cap hc, hp⟩
end Go.Sp
