/-
  append(s, make([]T, n)...): the number n in the place of a slice; and make([]T, n).
-/
import Derived.Test.YtflffabmfoldeaaSpNum
import Derived.Lib.AppendZerosOnto
namespace Go.Sp
set_option linter.unusedVariables false
set_option linter.unusedSimpArgs false
theorem zeroCells_list (z : Array Value) (n : Nat) : (Builtin.zeroCells z n).toList.length = n * z.size := by simp [Builtin.zeroCells]
/-- The zero value of an element type that takes one cell. -/
def zeroB (P : Program) (e : Nat) (z : Value) : Prop := ∃ i, P.info? e = some i ∧ i.zero = some z ∧ z.cells = #[z] ∧ z.oneCell' = true
theorem zeroCells_one (z : Value) (n : Nat) : Builtin.zeroCells #[z] n = (List.replicate n z).toArray := by
  apply Array.ext
  · simp [Builtin.zeroCells]
  · intro i h1 h2
    simp [Builtin.zeroCells] at h1 ⊢
    simp [Nat.mod_one]
theorem app_zeros {P : Program} {t tn ty e bytes : Nat} {kn : IntKind} (hB : sliceB P t e 1 = true) (hE : elemB P e 1 bytes = true) (htn : P.underlying tn = some (.int kn)) {z : Value} (hz : zeroB P e z) {w : World} {s : SV} {vs : List Value} (ho : Own e 1 w s vs) (kq : IntKind) (n : Nat)
    (hb : (s.len + n) * bytes ≤ 140737488355328) :
    ∃ r w', (Builtin.append_ #[t, tn] ty #[s.v, .int kq (n : Int)]).run P w = .ok (SV.v r) w' ∧ Own e 1 w' r (vs ++ List.replicate n z) ∧ r.len = s.len + n ∧ Keeps s.blk w w' ∧ (∀ k ∈ r.blk, k ∈ s.blk ∨ w.heap.size ≤ k) := by
  obtain ⟨i, hi, hzi, hzc, hz1⟩ := hz
  unfold elemB at hE
  simp only [hi, Bool.and_eq_true] at hE
  obtain ⟨⟨⟨⟨e1, e2⟩, e3⟩, e4⟩, e5⟩ := hE
  have e1 := Nat.eq_of_beq_eq_true e1
  have e2 := Nat.eq_of_beq_eq_true e2
  have e5 := Nat.le_of_ble_eq_true e5
  have ht : P.underlying t = some (.slice e) := by
    unfold sliceB at hB; split at hB <;> try (simp at hB; done)
    rename_i e' h
    simp only [Bool.and_eq_true] at hB
    have := Nat.eq_of_beq_eq_true hB.1
    subst this
    exact h
  have h2 : (s.len + n) * 1 ≤ (s.len + n) * bytes := Nat.mul_le_mul_left _ e5
  have hnb : n * bytes ≤ (s.len + n) * bytes := Nat.mul_le_mul_right _ (by omega)
  have hmax : s.len + n ≤ maxLen := by unfold maxLen; omega
  have hw : IntKind.i64.wrap (n : Int) = n := by rw [IntKind.wrap_i64]; omega
  have hneg : ¬ ((n : Int) < 0) := by omega
  have hw0 : IntKind.i64.wrap (0 : Int) = 0 := by rw [IntKind.wrap_i64]; rfl
  have h48i : ¬ (281474976710656 < (n : Int) * (i.bytes : Int)) := by rw [← Int.natCast_mul, e2]; omega
  have grown : ∀ old : Nat, old < s.len + n →
      Own e 1 (w.drew.alloc (.cells (vs.toArray ++ Builtin.zeroCells z.cells n ++ Builtin.zeroCells z.cells (grownCap w (s.len + n) old e - (s.len + n))) e)) ⟨some ⟨w.heap.size, 0, none⟩, s.len + n, grownCap w (s.len + n) old e⟩ (vs ++ List.replicate n z) ∧
      Keeps s.blk w (w.drew.alloc (.cells (vs.toArray ++ Builtin.zeroCells z.cells n ++ Builtin.zeroCells z.cells (grownCap w (s.len + n) old e - (s.len + n))) e)) := by
    intro old ho'
    have hge := grownCap_ge w (s.len + n) old e
    have hcm : grownCap w (s.len + n) old e ≤ maxLen := grownCap_le_maxLen w (s.len + n) old e hmax
    have hv := ho.row.1
    refine ⟨⟨?_, .inr ⟨w.heap.size, _, _, rfl, Nat.zero_le _, heap_alloc_new w.drew _, hge, hcm, ?_, ?_⟩⟩, (Keeps.drew _ w).and (Keeps.alloc _ _ _)⟩
    · simp; omega
    · rw [hzc]; simp [size_zeroCells]; omega
    · rw [hzc, zeroCells_one, zeroCells_one]
      simp only [Array.toList_append, Nat.mul_one]
      have : (vs ++ List.replicate n z).length = s.len + n := by simp; omega
      rw [← this]
      exact List.take_left
  obtain ⟨hv, hrow⟩ := ho.row
  rcases hrow with rfl | ⟨g, cur, hsa, hg, hnc, hcm, hcs, htake⟩
  · have hvs : vs = [] := List.eq_nil_of_length_eq_zero (by simpa using hv)
    subst hvs
    by_cases hn : n = 0
    · subst hn
      refine ⟨SV.nil, w, ?_, by simpa using ho, by simp, Keeps.refl _ _, fun k hk => .inl hk⟩
      simp [Builtin.append_, run_underlying ht, run_underlying htn, sizeOf, typeInfo, hi, asInt, asIntOf, hw0]
    · have hr := Lib.run_append_nil_zeros (P := P) w t tn ty e i z kq kn ht htn hi hzi n (by omega) (by omega) (by unfold maxLen at hmax; omega) (by rw [e2]; omega)
      have hgr := grown 0 (by simp; omega)
      simp only [Nat.zero_add, List.nil_append] at hgr
      refine ⟨⟨some ⟨w.heap.size, 0, none⟩, n, grownCap w n 0 e⟩, _, hr, ?_, by simp, ?_, ?_⟩
      · simpa using hgr.1
      · simpa using hgr.2
      · intro k hk; right; simp [SV.blk] at hk; omega
  · obtain ⟨sa, sl, sc⟩ := s
    simp only [] at hsa hnc hcm hcs htake hv hb hmax h2 hnb
    subst hsa
    by_cases hroom : sl + n ≤ sc
    · have hst := run_storeCells_at P g (sl * i.size) e (List.replicate n z) 0 cur w hg (by rw [e1]; simp; omega) (by intro u hu; rw [List.eq_of_mem_replicate hu]; exact hz1)
      simp only [Nat.add_zero] at hst
      have hd : (Builtin.append_ #[t, tn] ty #[(SV.mk (some ⟨g, 0, none⟩) sl sc).v, .int kq (n : Int)]).run P w =
          .ok (.slice (some ⟨g, 0, none⟩) (sl + n) sc) (w.setRow g (cur.toList.take (sl * i.size) ++ List.replicate n z ++ cur.toList.drop (sl * i.size + (List.replicate n z).length)).toArray) := by
        by_cases hn : n = 0
        · subst hn
          simp [storeCells] at hst
          have hroom' : sl ≤ sc := by omega
          simp [Builtin.append_, run_underlying ht, run_underlying htn, sizeOf, typeInfo, hi, asInt, asIntOf, hw0, hroom', storeCells]
          exact hst
        · have hns : ¬ (n * i.size = 0) := Nat.mul_ne_zero hn (by omega)
          simp [Builtin.append_, run_underlying ht, run_underlying htn, sizeOf, typeInfo, zeroValue, hi, hzi, asInt, asIntOf, hw, hn, hneg, hns, h48i, hroom, hzc, zeroCells_one, Addr.add_lit, hst]
      refine ⟨⟨some ⟨g, 0, none⟩, sl + n, sc⟩, _, hd, ⟨by simp; omega, .inr ⟨g, sc, _, rfl, Nat.zero_le _, setRow_heap w g cur _ e _ hg, hroom, hcm, ?_, ?_⟩⟩, rfl, ⟨rfl, rfl, rfl, by simp, fun k _ hk => setRow_other w g k _ (fun e => hk (by simp [SV.blk, e]))⟩, fun k hk => .inl (by simpa [SV.blk] using hk)⟩
      · rw [e1]; simp; omega
      · rw [e1]
        simp only [Nat.mul_one] at *
        have e9 : (cur.toList.take sl ++ List.replicate n z ++ cur.toList.drop (sl + (List.replicate n z).length)).take (sl + n) = cur.toList.take sl ++ List.replicate n z := by
          have : (cur.toList.take sl ++ List.replicate n z).length = sl + n := by simp; omega
          rw [← this]; exact List.take_left
        have e10 : cur.toList.take sl = vs := by simpa using htake
        rw [e10] at e9 ⊢
        simpa using e9
    · have hn : 0 < n := by omega
      have holds : ∀ j u, vs[j]? = some u → w.cell? ((⟨g, 0, none⟩ : Addr).add j) = some u := fun j u hj => ho.rd.at rfl hj
      have hfc : (Builtin.firstCells i.size sl (.slice (some ⟨g, 0, none⟩) sl sc)).run P w.drew = .ok vs.toArray w.drew := by
        have := run_firstCells_some (P := P) w.drew i.size sl ⟨g, 0, none⟩ sl sc vs (by rw [e1]; omega) (fun j u hj => by
          have := holds j u hj
          simpa using this)
        exact this
      have hr := Lib.run_append_grow_zeros (P := P) w t tn ty e i z kq kn ht htn hi hzi (some ⟨g, 0, none⟩) sl sc vs hfc n hn (by omega) (by omega) (by unfold maxLen at hmax; omega) (by rw [e2]; omega) (by
        exact growslice_fits (by omega) (by rw [e2]; exact hb))
      have hgr := grown sc (by simp; omega)
      exact ⟨⟨some ⟨w.heap.size, 0, none⟩, _, _⟩, _, hr, hgr.1, rfl, hgr.2, fun k hk => .inr (by simp [SV.blk] at hk; omega)⟩
/-- The head of an owned slice is owned. -/
theorem Own.head {e : TypeId} {sz : Nat} {w : World} {s : SV} {vs : List Value} (h : Own e sz w s vs) {u : Nat} (hu : u ≤ s.len) : Own e sz w (s.sub 0 u sz) (vs.take (u * sz)) := by
  obtain ⟨hv, rfl | ⟨g, cur, h1, h2, h3, h4, h5, h6⟩⟩ := h.row
  · have : u = 0 := by simpa using hu
    subst this
    simp only [Nat.zero_mul, List.take_zero]
    exact Own.nil e sz w
  · obtain ⟨sa, sl, sc⟩ := s
    simp only [] at h1 h3 h4 h5 h6 hu hv
    subst h1
    have hs : (SV.mk (some ⟨g, 0, none⟩) sl sc).sub 0 u sz = SV.mk (some ⟨g, 0, none⟩) u sc := by
      unfold SV.sub
      simp only [Nat.zero_mul, Nat.sub_zero, Option.map_some, add_zero, ite_self]
    rw [hs]
    have hle : u * sz ≤ sl * sz := Nat.mul_le_mul_right _ hu
    refine ⟨by rw [List.length_take, hv]; exact Nat.min_eq_left hle, .inr ⟨g, sc, cur, rfl, Nat.zero_le _, h2, Nat.le_trans hu h3, h4, h5, ?_⟩⟩
    show List.take (u * sz) cur.toList = _
    rw [← h6, List.take_take, Nat.min_eq_left hle]
end Go.Sp
