/-
  Rules for maps, and maps whose keys are prefixes.
-/
import Derived.Test.YtecegjimdohmeaaSpUse
import Derived.MapKept
import Derived.ChangeKeysEq
namespace Go.Sp
set_option linter.unusedVariables false
set_option linter.unusedSimpArgs false
namespace R
section
variable {P : Program} {ρ : Operand → Value} {d : Option Tmp} {ty : TypeId} {ps : String} {af : Array Edge} {g : Option (Nat × Bool)} {x y z : Operand} {v u q r : Value} {t t1 t2 : TypeId} {w w' : World}
theorem look {b : Bool} (hx : ρ x = v) (hy : ρ y = u) (hr : (Instr.lookup t v u b).run P w = .ok r w) : (execOp ρ ⟨d, .lookup t x y b, ty, ps, af, g⟩).run P w = .ok (.value r) w := by
  simp only [execOp, hx, hy, Sem.run_bind, hr, Result.andThen_ok, Sem.run_pure]
theorem upd (hx : ρ x = v) (hy : ρ y = u) (hz : ρ z = q) (hr : (Instr.mapUpdate t v u q).run P w = .ok () w') : (execOp ρ ⟨d, .mapUpdate t x y z, ty, ps, af, g⟩).run P w = .ok .skip w' := by
  simp only [execOp, hx, hy, hz, Sem.run_bind, hr, Result.andThen_ok, Sem.run_pure]
theorem del (hx : ρ x = v) (hy : ρ y = u) (hr : (Builtin.delete_ #[t1, t2] ty #[v, u]).run P w = .ok r w') :
    (execOp ρ ⟨d, .call ⟨.builtin .delete, #[x, y], #[t1, t2]⟩, ty, ps, af, g⟩).run P w = .ok (.value r) w' := by
  simp [execOp, resolve, invoke, builtin, hx, hy, hr]
theorem mlen (hx : ρ x = v) (hr : (Builtin.len_ #[t1] ty #[v]).run P w = .ok r w) :
    (execOp ρ ⟨d, .call ⟨.builtin .len, #[x], #[t1]⟩, ty, ps, af, g⟩).run P w = .ok (.value r) w := by
  simp [execOp, resolve, invoke, builtin, hx, hr]
theorem mkmap {b : Addr} (hp : ⟨w.heap.size, 0, none⟩ = b) (hw : w.alloc (.map #[] 0) = w') : (execOp ρ ⟨d, .makeMap t none, ty, ps, af, g⟩).run P w = .ok (.value (.map (some b.block))) w' := by
  subst hp hw
  simp [execOp, Instr.makeMap]
end
end R
/-! ### Maps whose keys are prefixes -/
def kv (k : Nat × Int) : Value := .agg #[.int .u32 (k.1 : Int), .int .i64 k.2]
/-- What a map asks of a key that is a prefix. -/
theorem check_pair {P : Program} {kt : TypeId} {fs : Array Field} {f1 f2 : Field} (hu : P.underlying kt = some (.struct fs)) (hfs : fs.toList = [f1, f2]) (o1 : f1.offset = 0) (o2 : f2.offset = 1)
    (n1 : f1.name ≠ "_") (n2 : f2.name ≠ "_") (p1 : P.underlying f1.type = some (.int .u32)) (p2 : P.underlying f2.type = some (.int .i64)) (em : Bool) (w : World) (k : Nat × Int) :
    (Instr.checkKey em 10000 kt (kv k)).run P w = .ok () w := by
  have q1 : P.plainKey f1.type = true := by unfold Program.plainKey; rw [p1]
  have q2 : P.plainKey f2.type = true := by unfold Program.plainKey; rw [p2]
  have r1 : (part f1.type #[.int .u32 (k.1 : Int), .int .i64 k.2] f1.offset).run P w = .ok (.int .u32 (k.1 : Int)) w := run_part_plain w q1 (by rw [o1]; rfl)
  have r2 : (part f2.type #[.int .u32 (k.1 : Int), .int .i64 k.2] f2.offset).run P w = .ok (.int .i64 k.2) w := run_part_plain w q2 (by rw [o2]; rfl)
  have c1 : (Instr.checkKey em 9999 f1.type (.int .u32 (k.1 : Int))).run P w = .ok () w := by
    rw [show 9999 = 9998 + 1 from rfl, Instr.checkKey]; simp [run_underlying p1]
  have c2 : (Instr.checkKey em 9999 f2.type (.int .i64 k.2)).run P w = .ok () w := by
    rw [show 9999 = 9998 + 1 from rfl, Instr.checkKey]; simp [run_underlying p2]
  unfold kv
  rw [show 10000 = 9999 + 1 from rfl, Instr.checkKey]
  simp only [Sem.run_bind, run_underlying hu, Result.andThen_ok]
  rw [← Array.forIn_toList, hfs]
  simp only [List.forIn_cons, List.forIn_nil, Sem.run_bind, n1, n2, ne_eq, not_false_eq_true, if_true, Result.andThen_ok, r1, r2, c1, c2, Sem.run_pure]
/-- Prefixes may be a map's keys. -/
structure KeyT (P : Program) (kt : TypeId) : Prop where
  check : ∀ em w k, (Instr.checkKey em 10000 kt (kv k)).run P w = .ok () w
  eq : ∀ a b w, (Op.equal kt (kv a) (kv b)).run P w = .ok (a == b) w
  under : ∃ fs, P.underlying kt = some (.struct fs)
abbrev Ents := List ((Nat × Int) × Value)
def MapAt (w : World) (r : Nat) (es : Ents) : Prop := ∃ (ents : Array MapEntry) (clock : Nat), w.heap[r]? = some (.map ents clock) ∧ ents.toList.map (fun e => (e.key, e.val)) = es.map (fun x => (kv x.1, x.2))
def mfind (es : Ents) (k : Nat × Int) : Option (Nat × Value) := match es with
  | [] => none
  | x :: l => if k == x.1 then some (0, x.2) else (mfind l k).map fun p => (p.1 + 1, p.2)
def mget (es : Ents) (k : Nat × Int) : Option Value := (mfind es k).map (·.2)
def mset (es : Ents) (k : Nat × Int) (v : Value) : Ents := match mfind es k with
  | some (i, _) => es.set i (k, v)
  | none => es ++ [(k, v)]
def mdel (es : Ents) (k : Nat × Int) : Ents := match mfind es k with
  | some (i, _) => es.eraseIdx i
  | none => es
theorem MapAt.keep {w w' : World} {r : Nat} {es : Ents} {D : List Nat} (h : MapAt w r es) (k : Keeps D w w') (hn : r ∉ D) : MapAt w' r es := by
  obtain ⟨ents, clock, h1, h2⟩ := h
  exact ⟨ents, clock, (k.block r (Array.getElem?_eq_some_iff.1 h1).1 hn).trans h1, h2⟩
theorem MapAt.lt {w : World} {r : Nat} {es : Ents} (h : MapAt w r es) : r < w.heap.size := by
  obtain ⟨ents, clock, h1, h2⟩ := h
  exact (Array.getElem?_eq_some_iff.1 h1).1
theorem MapAt.new (w : World) : MapAt (w.alloc (.map #[] 0)) w.heap.size [] := ⟨#[], 0, heap_alloc_new w _, rfl⟩
theorem run_ask {P : Program} {kt : TypeId} (T : KeyT P kt) (k : Nat × Int) (w : World) : ∀ (ents : List MapEntry) (es : Ents) (i : Nat), ents.map (fun e => (e.key, e.val)) = es.map (fun x => (kv x.1, x.2)) →
    (Instr.findAsking kt (kv k) ents i).run P w = .ok ((mfind es k).map fun p => (p.1 + i, p.2)) w
  | [], [], i, _ => rfl
  | [], x :: l, i, h => by simp at h
  | e :: l, [], i, h => by simp at h
  | e :: l, x :: es, i, h => by
    simp only [List.map_cons, List.cons.injEq, Prod.mk.injEq] at h
    obtain ⟨⟨h1, h2⟩, h3⟩ := h
    simp only [Instr.findAsking, Sem.run_bind, h1, T.eq, Result.andThen_ok, mfind]
    cases hk : k == x.1 with
    | true => simp [h2]
    | false =>
      have ih := run_ask T k w l es (i + 1) h3
      simp only [Bool.false_eq_true, if_false, ih]
      cases mfind es k with
      | none => rfl
      | some p => simp; omega
theorem run_fk {P : Program} {kt : TypeId} (T : KeyT P kt) (k : Nat × Int) (w : World) (ents : List MapEntry) (es : Ents) (h : ents.map (fun e => (e.key, e.val)) = es.map (fun x => (kv x.1, x.2))) :
    (Instr.findKey kt (kv k) ents).run P w = .ok (mfind es k) w := by
  obtain ⟨fs, hf⟩ := T.under
  unfold Instr.findKey
  simp only [Sem.run_bind, run_underlying hf, Result.andThen_ok]
  have ha := run_ask T k w ents es 0 h
  have e0 : ((mfind es k).map fun p => (p.1 + 0, p.2)) = mfind es k := by cases mfind es k <;> rfl
  rw [e0] at ha
  cases ents with
  | nil =>
    cases es with
    | nil => rfl
    | cons x l => simp at h
  | cons e l =>
    have : Instr.findNow (.struct fs) (kv k) (e :: l) 0 = none := by
      unfold Instr.findNow Instr.sameNow kv
      rfl
    rw [this]
    exact ha
theorem map_er {α β : Type} (f : α → β) : ∀ (l : List α) (i : Nat), (l.eraseIdx i).map f = (l.map f).eraseIdx i
  | [], _ => rfl
  | x :: l, 0 => rfl
  | x :: l, i + 1 => by simp [map_er f l i]
theorem mfind_lt : ∀ {es : Ents} {k : Nat × Int} {i : Nat} {v : Value}, mfind es k = some (i, v) → es[i]? = some (k, v)
  | [], k, i, v, h => by simp [mfind] at h
  | x :: l, k, i, v, h => by
    unfold mfind at h
    split at h
    · rename_i hk
      cases h
      have : k = x.1 := by simpa using hk
      subst this; rfl
    · cases hm : mfind l k with
      | none => rw [hm] at h; cases h
      | some p =>
        rw [hm] at h
        cases h
        exact mfind_lt (i := p.1) (v := p.2) hm
section
variable {P : Program} {w : World} {r : Nat} {es : Ents} {mt kt et : TypeId}
theorem run_getM {ents : Array MapEntry} {clock : Nat} (hb : w.heap[r]? = some (.map ents clock)) : (getObj r).run P w = .ok (.map ents clock) w := by simp [getObj, Sem.run, hb]
theorem run_setM {ents : Array MapEntry} {clock : Nat} (o' : Obj) (hb : w.heap[r]? = some (.map ents clock)) : (setObj r o').run P w = .ok () { w with heap := w.heap.setIfInBounds r o' } := by simp [setObj, Sem.run, hb]
theorem keeps_setM (w : World) (r : Nat) (o : Obj) : Keeps [r] w { w with heap := w.heap.setIfInBounds r o } :=
  ⟨rfl, rfl, rfl, by simp, fun k _ hn => by
    have : k ≠ r := by simpa using hn
    simp [Ne.symm this]⟩
theorem look_ok (T : KeyT P kt) (hm : P.underlying mt = some (.map kt et)) (h : MapAt w r es) (k : Nat × Int) {z : Value} (hz : (P.info? et).map (·.zero) = some (some z)) :
    (Instr.lookup mt (.map (some r)) (kv k) true).run P w = .ok (.tuple #[(mget es k).getD z, .bool (mget es k).isSome]) w ∧ (Instr.lookup mt (.map (some r)) (kv k) false).run P w = .ok ((mget es k).getD z) w := by
  obtain ⟨ents, clock, hb, he⟩ := h
  obtain ⟨i, hi, hzz⟩ := Option.map_eq_some_iff.1 hz
  have hzero : (zeroValue et).run P w = .ok z w := by
    simp only [zeroValue, typeInfo, Sem.run_bind, run_program, hi, Sem.run_pure, Result.andThen_ok, hzz]
  unfold Instr.lookup
  simp only [Sem.run_bind, run_underlying hm, Result.andThen_ok, run_getM hb, Sem.run_pure, T.check, run_fk T k w _ es he, mget]
  cases mfind es k with
  | none => simp [hzero]
  | some p => simp
theorem upd_ok (T : KeyT P kt) (hm : P.underlying mt = some (.map kt et)) (h : MapAt w r es) (k : Nat × Int) (v : Value) :
    ∃ w', (Instr.mapUpdate mt (.map (some r)) (kv k) v).run P w = .ok () w' ∧ MapAt w' r (mset es k v) ∧ Keeps [r] w w' := by
  obtain ⟨ents, clock, hb, he⟩ := h
  have hlt := (Array.getElem?_eq_some_iff.1 hb).1
  unfold Instr.mapUpdate
  simp only [Sem.run_bind, run_underlying hm, Result.andThen_ok, run_getM hb, T.check, run_fk T k w _ es he, mset]
  cases hf : mfind es k with
  | none =>
    exact ⟨_, run_setM (.map (ents.push { key := kv k, val := v, born := clock }) (clock + 1)) hb, ⟨ents.push { key := kv k, val := v, born := clock }, clock + 1, by simp [hlt], by simp [he]⟩, keeps_setM _ _ _⟩
  | some p =>
    obtain ⟨i, u⟩ := p
    have hi := mfind_lt hf
    have hl : ents.size = es.length := by
      have := congrArg List.length he
      simpa using this
    have hil : i < es.length := (List.getElem?_eq_some_iff.1 hi).1
    have hkey : (ents[i]?).map (·.key) = some (kv k) := by
      have h1 : (ents.toList.map (fun e => (e.key, e.val)))[i]? = some (kv k, u) := by rw [he]; simp [hi]
      rw [List.getElem?_map] at h1
      rw [← Array.getElem?_toList]
      cases hx : ents.toList[i]? with
      | none => rw [hx] at h1; cases h1
      | some e => rw [hx] at h1; simp at h1; simp [h1.1]
    have hsame : ∀ n, Instr.sameBits (n + 1) (kv k) (kv k) = true := fun n => by simp [Instr.sameBits, kv]
    have hstay : (Instr.keyThatStays (kv k) (kv k)).run P w = .ok (kv k) w := by
      unfold Instr.keyThatStays
      rw [hsame 9999, if_pos rfl]; rfl
    simp only [hkey, Option.getD_some, Sem.run_bind, hstay, Result.andThen_ok]
    refine ⟨_, run_setM (.map (ents.modify i fun e => { e with key := kv k, val := v }) clock) hb, ⟨ents.modify i fun e => { e with key := kv k, val := v }, clock, by simp [hlt], ?_⟩, keeps_setM _ _ _⟩
    apply List.ext_getElem?
    intro j
    rw [List.getElem?_map, List.getElem?_map, Array.getElem?_toList, Array.getElem?_modify, List.getElem?_set]
    have hj : (ents[j]?).map (fun e => (e.key, e.val)) = (es[j]?).map (fun x => (kv x.1, x.2)) := by
      have h1 := congrArg (·[j]?) he
      simpa using h1
    by_cases hij : i = j
    · subst hij
      rw [if_pos rfl, if_pos rfl, if_pos hil]
      cases hx : ents[i]? with
      | none => rw [hx] at hkey; cases hkey
      | some e => simp
    · rw [if_neg hij, if_neg hij]; exact hj
theorem del_ok (T : KeyT P kt) (hm : P.underlying mt = some (.map kt et)) (h : MapAt w r es) (k : Nat × Int) (t2 ty : TypeId) :
    ∃ w', (Builtin.delete_ #[mt, t2] ty #[.map (some r), kv k]).run P w = .ok (.tuple #[]) w' ∧ MapAt w' r (mdel es k) ∧ Keeps [r] w w' := by
  obtain ⟨ents, clock, hb, he⟩ := h
  have hlt := (Array.getElem?_eq_some_iff.1 hb).1
  unfold Builtin.delete_
  simp only [Sem.run_bind, run_underlying hm, Result.andThen_ok, run_getM hb, T.check, run_fk T k w _ es he, mdel, List.getElem?_toArray, List.getElem?_cons_zero, List.getElem?_cons_succ]
  cases hf : mfind es k with
  | none =>
    exact ⟨{ w with heap := w.heap.setIfInBounds r (.map ents clock) }, by simp only [Sem.run_bind, run_setM (.map ents clock) hb, Result.andThen_ok]; rfl, ⟨ents, clock, by simp [hlt], he⟩, keeps_setM _ _ _⟩
  | some p =>
    obtain ⟨i, u⟩ := p
    have hl : ents.size = es.length := by
      have := congrArg List.length he
      simpa using this
    have hil : i < es.length := (List.getElem?_eq_some_iff.1 (mfind_lt hf)).1
    refine ⟨{ w with heap := w.heap.setIfInBounds r (.map (ents.eraseIdxIfInBounds i) clock) }, by simp only [Sem.run_bind, run_setM (.map (ents.eraseIdxIfInBounds i) clock) hb, Result.andThen_ok]; rfl, ⟨ents.eraseIdxIfInBounds i, clock, by simp [hlt], ?_⟩, keeps_setM _ _ _⟩
    have e1 : (ents.eraseIdxIfInBounds i).toList = ents.toList.eraseIdx i := by
      simp [Array.eraseIdxIfInBounds, hl, hil]
    rw [e1, map_er, he, ← map_er]
theorem mlen_ok (hm : P.underlying mt = some (.map kt et)) (h : MapAt w r es) (ty : TypeId) : (Builtin.len_ #[mt] ty #[.map (some r)]).run P w = .ok (.int .i64 (es.length : Int)) w := by
  obtain ⟨ents, clock, hb, he⟩ := h
  have hl : ents.size = es.length := by
    have := congrArg List.length he
    simpa using this
  unfold Builtin.len_
  simp [run_underlying hm, run_getM hb, hl, goInt]
end
theorem mget_mset (es : Ents) (k k' : Nat × Int) (v : Value) : mget (mset es k v) k' = if k = k' then some v else mget es k' := by
  induction es with
  | nil =>
    by_cases h : k = k'
    · subst h; simp [mset, mget, mfind]
    · have : (k' == k) = false := by simpa using fun e => h e.symm
      simp [mset, mget, mfind, h, this]
  | cons x l ih =>
    by_cases hk : k == x.1
    · have hkx : k = x.1 := by simpa using hk
      have e : mset (x :: l) k v = (k, v) :: l := by simp [mset, mfind, hk]
      rw [e]
      by_cases h : k = k'
      · subst h; simp [mget, mfind]
      · have h1 : (k' == k) = false := by simpa using fun e => h e.symm
        have h2 : (k' == x.1) = false := by rw [← hkx]; exact h1
        simp [mget, mfind, h, h1, h2]
    · have hk' : (k == x.1) = false := by simpa using hk
      have e : mset (x :: l) k v = x :: mset l k v := by
        simp only [mset, mfind, hk', Bool.false_eq_true, if_false]
        cases mfind l k with
        | none => rfl
        | some p => rfl
      rw [e]
      unfold mget mfind
      cases h3 : k' == x.1 with
      | true =>
        have : k ≠ k' := fun h => by rw [← h] at h3; rw [hk'] at h3; cases h3
        simp [this]
      | false =>
        simp only [Bool.false_eq_true, if_false, Option.map_map]
        have ih' := ih
        unfold mget at ih'
        have e2 : ((fun x : Nat × Value => x.2) ∘ fun p : Nat × Value => (p.1 + 1, p.2)) = fun x => x.2 := rfl
        rw [e2]; exact ih'
/-- Each key once. -/
def Once (es : Ents) : Prop := (es.map (·.1)).Nodup
theorem mget_none {es : Ents} {k : Nat × Int} : mget es k = none ↔ ∀ x ∈ es, x.1 ≠ k := by
  induction es with
  | nil => simp [mget, mfind]
  | cons x l ih =>
    unfold mget mfind
    cases h : k == x.1 with
    | true =>
      have : k = x.1 := by simpa using h
      simp [this]
    | false =>
      have hne : x.1 ≠ k := fun e => by rw [e] at h; simp at h
      unfold mget at ih
      cases hm : mfind l k with
      | none => rw [hm] at ih; simp [hne]; simpa using ih
      | some p => rw [hm] at ih; simp [hne]; simpa using ih
theorem mset_len (es : Ents) (k : Nat × Int) (v : Value) : (mset es k v).length = if (mget es k).isSome then es.length else es.length + 1 := by
  unfold mset mget
  cases mfind es k with
  | none => simp
  | some p => simp
theorem Once.mset {es : Ents} (h : Once es) (k : Nat × Int) (v : Value) : Once (mset es k v) := by
  unfold Once Sp.mset at *
  cases hf : mfind es k with
  | none =>
    have := mget_none.1 (show mget es k = none by unfold mget; rw [hf]; rfl)
    simp only [List.map_append, List.map_cons, List.map_nil]
    rw [List.nodup_append]
    refine ⟨h, by simp, fun a ha b hb => ?_⟩
    simp at hb; subst hb
    obtain ⟨x, hx, rfl⟩ := List.mem_map.1 ha
    exact this x hx
  | some p =>
    have hi := mfind_lt hf
    have e : (es.set p.1 (k, v)).map (·.1) = es.map (·.1) := by
      rw [List.map_set]
      apply List.ext_getElem?
      intro j
      rw [List.getElem?_set]
      split
      · rename_i hj
        subst hj
        obtain ⟨hl, hx⟩ := List.getElem?_eq_some_iff.1 hi
        simp [hl, hx]
      · rfl
    simp only [e]; exact h
theorem mdel_none {es : Ents} {k : Nat × Int} (h : mget es k = none) : mdel es k = es := by
  unfold mdel
  cases hf : mfind es k with
  | none => rfl
  | some p => unfold mget at h; rw [hf] at h; cases h
theorem mget_mdel {es : Ents} (h : Once es) (k k' : Nat × Int) : mget (mdel es k) k' = if k = k' then none else mget es k' := by
  induction es with
  | nil => simp [mdel, mget, mfind]
  | cons x l ih =>
    have hl : Once l := (List.nodup_cons.1 h).2
    have hx : ∀ y ∈ l, y.1 ≠ x.1 := fun y hy e => by
      have hm : y.1 ∈ l.map (·.1) := List.mem_map.2 ⟨y, hy, rfl⟩
      rw [e] at hm
      exact (List.nodup_cons.1 h).1 hm
    by_cases hk : k == x.1
    · have hkx : k = x.1 := by simpa using hk
      have e : mdel (x :: l) k = l := by simp [mdel, mfind, hk]
      rw [e]
      by_cases h1 : k = k'
      · subst h1
        rw [if_pos rfl]
        exact mget_none.2 (fun y hy => by rw [hkx]; exact hx y hy)
      · rw [if_neg h1]
        have h2 : (k' == x.1) = false := by rw [← hkx]; simpa using fun e => h1 e.symm
        simp [mget, mfind, h2]
        cases mfind l k' <;> rfl
    · have hk' : (k == x.1) = false := by simpa using hk
      have e : mdel (x :: l) k = x :: mdel l k := by
        simp only [mdel, mfind, hk', Bool.false_eq_true, if_false]
        cases mfind l k with
        | none => rfl
        | some p => rfl
      rw [e]
      unfold mget mfind
      cases h3 : k' == x.1 with
      | true =>
        have : k ≠ k' := fun h => by rw [← h] at h3; rw [hk'] at h3; cases h3
        simp [this]
      | false =>
        simp only [Bool.false_eq_true, if_false, Option.map_map]
        have ih' := ih hl
        unfold mget at ih'
        have e2 : ((fun x : Nat × Value => x.2) ∘ fun p : Nat × Value => (p.1 + 1, p.2)) = fun x => x.2 := rfl
        rw [e2]; exact ih'
theorem mdel_len (es : Ents) (k : Nat × Int) : (mdel es k).length + (if (mget es k).isSome then 1 else 0) = es.length := by
  unfold mdel mget
  cases hf : mfind es k with
  | none => simp
  | some p =>
    have := (List.getElem?_eq_some_iff.1 (mfind_lt hf)).1
    simp [List.length_eraseIdx, this]; omega
theorem Once.mdel {es : Ents} (h : Once es) (k : Nat × Int) : Once (mdel es k) := by
  unfold Once Sp.mdel at *
  cases hf : mfind es k with
  | none => exact h
  | some p => exact h.sublist ((List.eraseIdx_sublist _ _).map _)
end Go.Sp
