/-
  Values that are functions; slices that are made; copies.
-/
import Derived.Test.YtflffabmfoldeaaSpUse
import Derived.Laws.MakeOwn
import Derived.Laws.OwnMore
import Derived.Laws.CopyOwn
namespace Go.Sp
set_option linter.unusedVariables false
set_option linter.unusedSimpArgs false

/-- A function's value: which, and what it has caught. -/
structure FV where
  f : FuncId
  caps : List Value
@[reducible] def FV.v (x : FV) : Value := .func (.func x.f) #[] x.caps.toArray

namespace M
def mk (P : Program) (t : TypeId) (l c : Value) (w : World) (K : SV → World → Prop) : Prop := ∃ s w', (Instr.makeSlice t l c).run P w = .ok (SV.v s) w' ∧ K s w'
def cp (P : Program) (t1 t2 ty : TypeId) (s x : SV) (w : World) (K : Int → World → Prop) : Prop := ∃ n w', (Builtin.copy_ #[t1, t2] ty #[s.v, x.v]).run P w = .ok (.int .i64 n) w' ∧ K n w'
end M
namespace R
section
variable {P : Program} {ρ : Operand → Value} {d : Option Tmp} {ty : TypeId} {ps : String} {af : Array Edge} {g : Option (Nat × Bool)} {x y z : Operand} {v u : Value} {t t' : TypeId} {w w' : World}
theorem mks {s : SV} (hx : ρ x = v) (hy : ρ y = u) (hr : (Instr.makeSlice t v u).run P w = .ok (SV.v s) w') : (execOp ρ ⟨d, .makeSlice t x y, ty, ps, af, g⟩).run P w = .ok (.value (SV.v s)) w' := by
  simp only [SV.v] at *
  simp [execOp, hx, hy, hr]
theorem cpy {s r : SV} {t1 t2 : TypeId} {n : Int} (hx : ρ x = s.v) (hy : ρ y = r.v) (hr : (Builtin.copy_ #[t1, t2] ty #[s.v, r.v]).run P w = .ok (.int .i64 n) w') :
    (execOp ρ ⟨d, .call ⟨.builtin .copy, #[x, y], #[t1, t2]⟩, ty, ps, af, g⟩).run P w = .ok (.value (.int .i64 n)) w' := by
  simp only [SV.v] at *
  simp [execOp, resolve, invoke, builtin, hx, hy, hr]
theorem mkf {n : FuncId} {cs : Array Operand} {caps : List Value} (hx : cs.toList.map ρ = caps) (w : World) : (execOp ρ ⟨d, .makeFunc (.func n) #[] cs, ty, ps, af, g⟩).run P w = .ok (.value (FV.v ⟨n, caps⟩)) w := by
  have hx' : cs.map ρ = caps.toArray := by rw [← hx, ← Array.toList_map, Array.toArray_toList]
  simp [execOp, Instr.makeFunc, hx']
theorem callxw {f : FuncId} {xs : Array Operand} {args : List Value} {ts : Array TypeId} (h : (callFunc f args.toArray).run P w = .ok (.value v) w') (hx : xs.toList.map ρ = args) (hf : ρ x = .func (.func f) #[] #[]) :
    (execOp ρ ⟨d, .call ⟨.value x, xs, ts⟩, ty, ps, af, g⟩).run P w = .ok (.value v) w' := by
  have hx' : xs.map ρ = args.toArray := by rw [← hx, ← Array.toList_map, Array.toArray_toList]
  simp [execOp, resolve, hf, hx', Deferred.ofValue, invoke, h]
theorem callv {fv : FV} {xs : Array Operand} {args : List Value} {ts : Array TypeId} (hB : bodyB P fv.f = true) (hx : xs.toList.map ρ = args) (hf : ρ x = FV.v fv) :
    (execOp ρ ⟨d, .call ⟨.value x, xs, ts⟩, ty, ps, af, g⟩).run P w = .ok (.enter fv.f (args ++ fv.caps).toArray) w := by
  have hx' : xs.map ρ = args.toArray := by rw [← hx, ← Array.toList_map, Array.toArray_toList]
  unfold bodyB at hB
  split at hB <;> try (simp at hB; done)
  rename_i fn hfn
  simp only [Bool.and_eq_true, Bool.not_eq_true'] at hB
  have h2 : fn.body.isNone = false := by cases hb : fn.body <;> simp_all
  have h3 : ¬ fn.name = "runtime.NumGoroutine" := by simpa using hB.2
  have h4 : ¬ fn.body = none := by intro h; simp [h] at h2
  simp [execOp, resolve, hf, FV.v, hx', Deferred.ofValue, invoke, callFunc, hfn, h3, h4]
end
end R

/-- A slice of so many noughts. -/
theorem mk_own {P : Program} {t e sz bytes : Nat} {z : Value} (hB : sliceB P t e sz = true) (hE : elemB P e sz bytes = true) (hz : (P.info? e).map (·.zero) = some (some z)) {w : World} {n : Nat} (hb : n * bytes ≤ 140737488355328) :
    ∃ w', (Instr.makeSlice t (.int .i64 (n : Int)) (.int .i64 (n : Int))).run P w = .ok (SV.v ⟨some ⟨w.heap.size, 0, none⟩, n, n⟩) w' ∧ Own e sz w' ⟨some ⟨w.heap.size, 0, none⟩, n, n⟩ (List.replicate n z.cells.toList).flatten ∧ Keeps [] w w' ∧ w'.heap.size = w.heap.size + 1 := by
  unfold elemB at hE
  cases hi : P.info? e with
  | none => simp [hi] at hE
  | some i =>
    rw [hi] at hz
    have hz : i.zero = some z := by simpa using hz
    simp only [hi, hz, Bool.and_eq_true] at hE
    obtain ⟨⟨⟨⟨e1, e2⟩, e3⟩, e4⟩, e5⟩ := hE
    have e1 := Nat.eq_of_beq_eq_true e1
    have e2 := Nat.eq_of_beq_eq_true e2
    have e3 := Nat.eq_of_beq_eq_true e3
    have e4 := Nat.le_of_ble_eq_true e4
    have e5 := Nat.le_of_ble_eq_true e5
    have ht : P.underlying t = some (.slice e) := by
      unfold sliceB at hB; split at hB <;> try (simp at hB; done)
      rename_i e' h
      simp only [Bool.and_eq_true] at hB
      have := Nat.eq_of_beq_eq_true hB.1
      subst this
      exact h
    have hn : n ≤ 140737488355328 := Nat.le_trans (Nat.le_mul_of_pos_right n e5) hb
    have hbi : (i.bytes : Int) * (n : Int) ≤ 281474976710656 := by
      have : ((n * bytes : Nat) : Int) ≤ 281474976710656 := by omega
      rw [Int.natCast_mul] at this
      rw [e2, Int.mul_comm]; exact this
    have hr := run_make (P := P) w t e i z ht hi hz .i64 .i64 (n : Int) (n : Int) (by omega) (Int.le_refl _) hbi (by omega)
    simp only [Int.toNat_natCast, e1] at hr
    have hc : (madeCells z.cells (n * sz)).toList = (List.replicate n z.cells.toList).flatten := by
      apply List.ext_getElem?
      intro k
      have hlz : z.cells.toList.length = sz := by simpa using e3
      have hg : ∀ (n k : Nat), (List.replicate n z.cells.toList).flatten[k]? = if k < n * sz then z.cells[k % sz]? else none := by
        intro n
        induction n with
        | zero => intro k; simp
        | succ n ih =>
          intro k
          rw [List.replicate_succ, List.flatten_cons, List.getElem?_append, hlz]
          by_cases hk : k < sz
          · rw [if_pos hk, if_pos (by rw [Nat.add_mul]; omega), Nat.mod_eq_of_lt hk]; simp
          · rw [if_neg hk, ih, Nat.add_mul, Nat.one_mul]
            have : k % sz = (k - sz) % sz := by
              rw [← Nat.mod_eq_sub_mod (by omega)]
            rw [this]
            by_cases h2 : k < n * sz + sz
            · rw [if_pos (by omega), if_pos h2]
            · rw [if_neg (by omega), if_neg h2]
      rw [hg]
      by_cases hk : k < n * sz
      · rw [if_pos hk]
        have hm : k % sz < sz := Nat.mod_lt _ (by omega)
        rw [Array.getElem?_toList]
        simp only [madeCells, e3, Array.getElem?_map, Array.getElem?_range]
        rw [if_pos hk]
        simp only [Option.map_some]
        rw [getElem!_pos z.cells (k % sz) (by omega)]
        rw [Array.getElem?_eq_getElem (by omega)]
      · rw [if_neg hk, Array.getElem?_toList, Array.getElem?_eq_none]
        rw [size_madeCells]; omega
    have hca : madeCells z.cells (n * sz) = ((List.replicate n z.cells.toList).flatten).toArray := by rw [← hc]
    rw [hca] at hr
    refine ⟨_, hr, Own.new w e sz n _ ?_ (by unfold maxLen; omega), Keeps.alloc [] w _, by simp⟩
    rw [← hc, Array.length_toList, size_madeCells]
theorem elem_size {P : Program} {e sz bytes : Nat} (hE : elemB P e sz bytes = true) : (P.info? e).map (·.size) = some sz ∧ 1 ≤ sz := by
  unfold elemB at hE
  cases hi : P.info? e with
  | none => simp [hi] at hE
  | some i =>
    simp only [hi, Bool.and_eq_true] at hE
    obtain ⟨⟨⟨⟨e1, e2⟩, e3⟩, e4⟩, e5⟩ := hE
    have e1 := Nat.eq_of_beq_eq_true e1
    exact ⟨by simp [e1], Nat.le_of_ble_eq_true e4⟩
theorem slice_under {P : Program} {t e sz : Nat} (hB : sliceB P t e sz = true) : P.underlying t = some (.slice e) := by
  unfold sliceB at hB; split at hB <;> try (simp at hB; done)
  rename_i e' h
  simp only [Bool.and_eq_true] at hB
  have := Nat.eq_of_beq_eq_true hB.1
  subst this
  exact h
theorem run_copy_gen {P : Program} (w : World) (dT sT ty elem sz : Nat) (g o dLen dCap : Nat) (a : Addr) (sLen sCap : Nat) (cur : Array Value) (t : TypeId) (cs : List Value)
    (hu : P.underlying dT = some (.slice elem)) (hs : (P.info? elem).map (·.size) = some sz)
    (hg : w.heap[g]? = some (.cells cur t (0, 0))) (hn : cs.length = Nat.min sLen dLen * sz)
    (hsrc : ∀ j v, cs[j]? = some v → w.cell? (a.add j) = some v) (hfit : o + cs.length ≤ cur.size) (h1 : ∀ v ∈ cs, v.oneCell' = true) :
    (Builtin.copy_ #[dT, sT] ty #[.slice (some ⟨g, o, none⟩) dLen dCap, .slice (some a) sLen sCap]).run P w =
      .ok (goInt (Nat.min sLen dLen)) (w.setRow g (cur.toList.take o ++ cs ++ cur.toList.drop (o + cs.length)).toArray) := by
  have hl := run_loadCells_list (P := P) w a cs hsrc
  have hst := run_storeCells_at P g o t cs 0 cur w hg (by simpa using hfit) h1
  cases hq : P.info? elem with
  | none => simp [hq] at hs
  | some i =>
    have hi : i.size = sz := by simpa [hq] using hs
    simp [Builtin.copy_, run_underlying hu, Builtin.lenOf, Builtin.firstCells, sizeOf, typeInfo, hq, hi, ← hn, hl, hst]
theorem run_copy_no {P : Program} (w : World) (dT sT ty elem sz : Nat) (d a : Option Addr) (dLen dCap sLen sCap : Nat) (hu : P.underlying dT = some (.slice elem)) (hs : (P.info? elem).map (·.size) = some sz) (hn : Nat.min sLen dLen = 0) :
    (Builtin.copy_ #[dT, sT] ty #[.slice d dLen dCap, .slice a sLen sCap]).run P w = .ok (goInt 0) w := by
  cases hq : P.info? elem with
  | none => simp [hq] at hs
  | some i =>
    have hl : ∀ (x : Addr), (loadCells x 0).run P w = .ok #[] w := fun x => by simpa using run_loadCells_list (P := P) w x [] (by simp)
    cases d <;> cases a <;> simp [Builtin.copy_, run_underlying hu, Builtin.lenOf, Builtin.firstCells, sizeOf, typeInfo, hq, hn, storeCells, hl]
/-- A copy onto an owned slice, from place i on: as many as both have. -/
theorem cp_subT {P : Program} {t ty e sz bytes : Nat} (hB : sliceB P t e sz = true) (hE : elemB P e sz bytes = true) {w : World} {s x : SV} {vs news : List Value} (ho : Own e sz w s vs) (hx : Rd sz w x news) {i : Nat} (hi : i ≤ s.len) (h1 : ∀ u ∈ news.take (min x.len (s.len - i) * sz), u.oneCell' = true) :
    ∃ w', (Builtin.copy_ #[t, t] ty #[(s.sub i s.len sz).v, x.v]).run P w = .ok (.int .i64 (min x.len (s.len - i) : Nat)) w' ∧ Own e sz w' s (splice vs (i * sz) (news.take (min x.len (s.len - i) * sz))) ∧ Keeps s.blk w w' := by
  have hu := slice_under hB
  obtain ⟨hs, hsz⟩ := elem_size hE
  obtain ⟨hvl, hrow⟩ := ho.row
  have hxl := hx.len
  by_cases h0 : min x.len (s.len - i) = 0
  · refine ⟨w, ?_, ?_, Keeps.refl _ _⟩
    · have := run_copy_no (P := P) w t t ty e sz (s.sub i s.len sz).a x.a (s.len - i) (s.cap - i) x.len x.cap hu hs h0
      rw [h0]
      exact this
    · rw [h0, Nat.zero_mul, List.take_zero]
      simpa [splice] using ho
  · rcases hrow with rfl | ⟨g, cur, ha, hg, hc, hm, hcs, htk⟩
    · simp at h0
    obtain ⟨a, hax⟩ := hx.some (by omega)
    have hne : s.cap ≠ i := by omega
    have hsub : (s.sub i s.len sz).a = some ⟨g, i * sz, none⟩ := by
      simp only [SV.sub, if_neg hne, ha, Option.map_some, add_mk, Nat.zero_add]
    have hlen : (news.take (min x.len (s.len - i) * sz)).length = min x.len (s.len - i) * sz := by
      rw [List.length_take, hxl]
      have : min x.len (s.len - i) * sz ≤ x.len * sz := Nat.mul_le_mul_right _ (Nat.min_le_left _ _)
      omega
    have hle : i * sz + min x.len (s.len - i) * sz ≤ s.len * sz := by
      rw [← Nat.add_mul]
      exact Nat.mul_le_mul_right _ (by omega)
    have hcap : s.len * sz ≤ s.cap * sz := Nat.mul_le_mul_right _ hc
    have hr := run_copy_gen (P := P) w t t ty e sz g (i * sz) (s.len - i) (s.cap - i) a x.len x.cap cur e (news.take (min x.len (s.len - i) * sz)) hu hs hg hlen
      (fun j v hv => hx.cell a hax j v (by
        rw [List.getElem?_take] at hv
        split at hv
        · exact hv
        · cases hv)) (by rw [hlen]; omega) h1
    have hsv : (s.sub i s.len sz).v = .slice (some ⟨g, i * sz, none⟩) (s.len - i) (s.cap - i) := by
      rw [← hsub]; rfl
    have hxv : x.v = .slice (some a) x.len x.cap := by rw [← hax]
    refine ⟨_, by rw [hsv, hxv]; exact hr, ?_, ?_⟩
    · have hgl := (Array.getElem?_eq_some_iff.1 hg).1
      refine ⟨by rw [length_splice _ _ _ (by rw [hlen, hvl]; exact hle)]; exact hvl, .inr ⟨g, s.cap, _, by rw [← ha], Nat.zero_le _, setRow_heap w g cur _ e _ hg, hc, hm, ?_, ?_⟩⟩
      · simp only [List.size_toArray, List.length_append, List.length_take, List.length_drop, Array.length_toList, hxl]
        have : min x.len (s.len - i) * sz ≤ x.len * sz := Nat.mul_le_mul_right _ (Nat.min_le_left _ _)
        omega
      · rw [← htk]
        generalize hN : news.take (min x.len (s.len - i) * sz) = N at *
        apply List.ext_getElem?
        intro k
        unfold splice
        simp only [List.getElem?_take, List.getElem?_append, List.length_append, List.length_take, List.getElem?_drop, Array.length_toList]
        have e1 : min (i * sz) cur.size = i * sz := by omega
        have e2 : min (i * sz) (min (s.len * sz) cur.size) = i * sz := by omega
        rw [e1, e2]
        by_cases k1 : k < i * sz
        · have k4 : k < s.len * sz := by omega
          have k5 : k < i * sz + N.length := by omega
          simp only [k1, k4, k5, if_true]
        · by_cases k2 : k < i * sz + N.length
          · rw [if_pos (by omega), if_pos k2, if_neg k1, if_neg k1, if_pos (by omega)]
          · by_cases k3 : k < s.len * sz
            · rw [if_pos k3, if_neg k2, if_neg k1, if_neg (by omega), if_pos (by omega)]
              congr 1
              omega
            · rw [if_neg k3, if_neg k1, if_neg (by omega), if_neg (by omega)]
    · refine ⟨rfl, rfl, rfl, by simp [World.setRow], fun k hk hn => setRow_other w g k _ (fun h => hn (by rw [SV.blk, ha]; simp [h]))⟩
theorem cp_sub {P : Program} {t ty e sz bytes : Nat} (hB : sliceB P t e sz = true) (hE : elemB P e sz bytes = true) {w : World} {s x : SV} {vs news : List Value} (ho : Own e sz w s vs) (hx : Rd sz w x news) (h1 : ∀ u ∈ news, u.oneCell' = true) {i : Nat} (hi : i ≤ s.len) :
    ∃ w', (Builtin.copy_ #[t, t] ty #[(s.sub i s.len sz).v, x.v]).run P w = .ok (.int .i64 (min x.len (s.len - i) : Nat)) w' ∧ Own e sz w' s (splice vs (i * sz) (news.take (min x.len (s.len - i) * sz))) ∧ Keeps s.blk w w' :=
  cp_subT hB hE ho hx hi (fun u hu => h1 u (List.mem_of_mem_take hu))
end Go.Sp
