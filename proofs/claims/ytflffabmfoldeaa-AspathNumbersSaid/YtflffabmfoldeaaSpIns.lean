/-
  A list that is made longer at its head.
-/
import Derived.Test.YtflffabmfoldeaaSpIdx
import Derived.Test.YtflffabmfoldeaaSpZero
import Derived.Lib.Overlaps
namespace Go.Sp
set_option linter.unusedVariables false
set_option linter.unusedSimpArgs false
/-- So many noughts in a new row. -/
theorem app_zeros_new {P : Program} {t tn ty e sz bytes : Nat} {kn : IntKind} (hB : sliceB P t e sz = true) (hE : elemB P e sz bytes = true) (htn : P.underlying tn = some (.int kn)) {w : World} {s : SV} (hs0 : s.len = 0) (kq : IntKind) {n : Nat} (hn : s.cap < n)
    (hb : n * bytes ≤ 140737488355328) :
    ∃ (c : Nat) (w' : World) (zs : List Value), (Builtin.append_ #[t, tn] ty #[s.v, .int kq (n : Int)]).run P w = .ok (SV.v ⟨some ⟨w.heap.size, 0, none⟩, n, c⟩) w' ∧ Own e sz w' ⟨some ⟨w.heap.size, 0, none⟩, n, c⟩ zs ∧ zs.length = n * sz ∧ Keeps [] w w' ∧ w'.heap.size = w.heap.size + 1 := by
  have ht := slice_under hB
  unfold elemB at hE
  cases hi : P.info? e with
  | none => simp [hi] at hE
  | some i =>
    simp only [hi, Bool.and_eq_true] at hE
    obtain ⟨⟨⟨⟨e1, e2⟩, e3⟩, e4⟩, e5⟩ := hE
    have e1 := Nat.eq_of_beq_eq_true e1
    have e2 := Nat.eq_of_beq_eq_true e2
    have e4 := Nat.le_of_ble_eq_true e4
    have e5 := Nat.le_of_ble_eq_true e5
    cases hz : i.zero with
    | none => simp [hz] at e3
    | some z =>
      simp only [hz] at e3
      have e3 := Nat.eq_of_beq_eq_true e3
      have h2 : n * 1 ≤ n * bytes := Nat.mul_le_mul_left _ e5
      have hmax : n ≤ maxLen := by unfold maxLen; omega
      obtain ⟨sa, sl, sc⟩ := s
      simp only [] at hs0 hn
      subst hs0
      have hfc : (Builtin.firstCells i.size 0 (.slice sa 0 sc)).run P w.drew = .ok ([] : List Value).toArray w.drew := by
        cases sa with
        | none => rfl
        | some a =>
          have := run_firstCells_some (P := P) w.drew i.size 0 a 0 sc [] (by simp) (fun j u hj => by simp at hj)
          exact this
      have hr := Lib.run_append_grow_zeros (P := P) w t tn ty e i z kq kn ht htn hi hz sa 0 sc [] hfc n (by omega) (by omega) (by omega) (by unfold maxLen at hmax; omega) (by rw [e2]; omega) (by
        rw [Nat.zero_add]
        exact growslice_fits (by omega) (by rw [e2]; exact hb))
      simp only [Nat.zero_add] at hr
      have hge := grownCap_ge w n sc e
      have hcm := grownCap_le_maxLen w n sc e hmax
      refine ⟨grownCap w n sc e, _, (Builtin.zeroCells z.cells n).toList, hr, ⟨?_, .inr ⟨w.heap.size, _, _, rfl, Nat.zero_le _, heap_alloc_new w.drew _, hge, hcm, ?_, ?_⟩⟩, ?_, (Keeps.drew [] w).and (Keeps.alloc [] w.drew _), by simp⟩
      · rw [zeroCells_list, e3]
      · simp only [Array.size_append, size_zeroCells, e3]
        simp only [List.size_toArray, List.length_nil, Nat.zero_add]
        rw [← Nat.add_mul, Nat.add_sub_cancel' hge]
      · have hl : (Builtin.zeroCells z.cells n).toList.length = n * sz := by rw [zeroCells_list, e3]
        simp only [Array.toList_append, List.nil_append]
        rw [← hl]
        simp
      · rw [zeroCells_list, e3]
/-- There is room for one more. -/
theorem Own.more {e : TypeId} {sz : Nat} {w : World} {s : SV} {vs : List Value} (h : Own e sz w s vs) (hc : s.len + 1 ≤ s.cap) :
    ∃ (g : Nat) (cur : Array Value) (vs' : List Value), s.a = some ⟨g, 0, none⟩ ∧ w.heap[g]? = some (.cells cur e (0, 0)) ∧ cur.size = s.cap * sz ∧ Own e sz w ⟨s.a, s.len + 1, s.cap⟩ vs' ∧ vs'.take (s.len * sz) = vs := by
  obtain ⟨hl, rfl | ⟨g, cur, ha, hg, hc1, hm, hcs, htk⟩⟩ := h.row
  · simp at hc
  · have hle : (s.len + 1) * sz ≤ s.cap * sz := Nat.mul_le_mul_right _ hc
    have hle2 : s.len * sz ≤ (s.len + 1) * sz := Nat.mul_le_mul_right _ (by omega)
    have hcl : cur.toList.length = s.cap * sz := by simpa using hcs
    refine ⟨g, cur, cur.toList.take ((s.len + 1) * sz), ha, hg, hcs, ⟨by rw [List.length_take, hcl]; exact Nat.min_eq_left hle, .inr ⟨g, s.cap, cur, by rw [← ha], Nat.zero_le _, hg, hc, hm, hcs, rfl⟩⟩, ?_⟩
    rw [List.take_take, Nat.min_eq_left hle2]
    exact htk
theorem sub_zero (s : SV) (n sz : Nat) : s.sub 0 n sz = ⟨s.a, n, s.cap⟩ := by
  unfold SV.sub
  obtain ⟨a, l, c⟩ := s
  cases a <;> simp [add_zero]
theorem Rd.all {sz : Nat} {w : World} {s : SV} {vs : List Value} (h : Rd sz w s vs) : Rd sz w ⟨s.a, s.len, s.cap⟩ vs := h
/-- A row that is there whole, and is not frozen. -/
theorem Blk.shape {w : World} {b : Nat} {T : TypeId} {cs : List Value} (h : Blk w b T cs) : w.shape? b = some (T, cs.length) := by
  unfold Blk at h
  simp [World.shape?, h]
theorem splice_zero {α : Type} (L cs : List α) : splice L 0 cs = cs ++ L.drop cs.length := by simp [splice]
end Go.Sp
