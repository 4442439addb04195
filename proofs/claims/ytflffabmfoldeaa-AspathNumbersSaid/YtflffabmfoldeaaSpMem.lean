/-
  Memory in the small logic: loads, stores, new blocks, append, calls; and the words of the printed formulas.
-/
import Derived.Test.YtflffabmfoldeaaSpOps
namespace Go.Sp
set_option linter.unusedVariables false
set_option linter.unusedSimpArgs false

/-- Several cells written one behind the other. -/
def stCs (w : World) (a : Addr) : List Value → Nat → World
  | [], _ => w
  | v :: vs, i => stCs (w.setCell (a.add i) v) a vs (i + 1)
/-- They are there, may be written, and take one cell each. -/
def okCs (w : World) (a : Addr) : List Value → Nat → Prop
  | [], _ => True
  | v :: vs, i => (∃ u, w.cell? (a.add i) = some u) ∧ w.frozen? (a.add i) = false ∧ okCs (w.setCell (a.add i) v) a vs (i + 1)

theorem run_storeCells_ok {P : Program} {a : Addr} : ∀ (vs : List Value) (i : Nat) (w : World), (∀ v ∈ vs, v.oneCell' = true) → okCs w a vs i → (storeCells a vs i).run P w = .ok () (stCs w a vs i)
  | [], _, w, _, _ => by simp [storeCells, stCs]
  | v :: vs, i, w, h1, ⟨⟨u, hu⟩, hf, hr⟩ => by
    have hv : v.oneCell' = true := h1 v (by simp)
    have ih := run_storeCells_ok (P := P) vs (i + 1) (w.setCell (a.add i) v) (fun x hx => h1 x (by simp [hx])) hr
    have hst : (store (a.add i) v).run P w = .ok () (w.setCell (a.add i) v) := by
      rw [run_store P w (a.add i) v .plain hv]
      simp [hu, hf]
    rw [storeCells, Sem.run_bind, hst]
    simp only [Result.andThen_ok, ih, stCs]

/-- The cells from a on, number i on, hold these values. -/
inductive Cs (w : World) (a : Addr) : Nat → List Value → Prop
  | nil {i : Nat} : Cs w a i []
  | cons {i : Nat} {v : Value} {vs : List Value} (h : w.cell? (a.add i) = some v) (t : Cs w a (i + 1) vs) : Cs w a i (v :: vs)
theorem Cs.get {w : World} {a : Addr} : ∀ {i : Nat} {vs : List Value} (_ : Cs w a i vs) (j : Nat) {v : Value}, vs[j]? = some v → w.cell? (a.add (i + j)) = some v
  | _, _, .nil, j, _, h => by simp at h
  | i, v :: vs, .cons h t, 0, u, hu => by simp at hu; subst hu; simpa using h
  | i, v :: vs, .cons h t, j + 1, u, hu => by
    have := t.get j (by simpa using hu)
    rw [show i + (j + 1) = i + 1 + j by omega]; exact this
theorem Ls.nil {α : Type} : ([] : List α) = [] := rfl
theorem Ls.cons {α : Type} {a b : α} {l m : List α} (h : a = b) (t : l = m) : a :: l = b :: m := by rw [h, t]
namespace R
section
variable {P : Program} {ρ : Operand → Value} {d : Option Tmp} {ty : TypeId} {ps : String} {af : Array Edge} {g : Option (Nat × Bool)} {x y z : Operand} {v u : Value} {t t' : TypeId} {k k' : IntKind} {w w' : World} {p : Option Addr}
theorem ld {a : Addr} (hB : scalarB P t = true) (hx : ρ x = .pointer (some a)) (hc : w.cell? a = some v) : (execOp ρ ⟨d, .load t x, ty, ps, af, g⟩).run P w = .ok (.value v) w := by
  simp [execOp, hx, Instr.loadAt, Instr.sureAddr, loadVar, scalarB_run hB, hc]
theorem ldA {a : Addr} {n : Nat} {vs : List Value} (hB : aggB P t = true) (hS : sizeB P t n = true) (hx : ρ x = .pointer (some a)) (hn : vs.length = n) (hc : Cs w a 0 vs) :
    (execOp ρ ⟨d, .load t x, ty, ps, af, g⟩).run P w = .ok (.value (.agg vs.toArray)) w := by
  have h1 : (loadCells a vs.length).run P w = .ok vs.toArray w := run_loadCells_list w a vs fun j v h => by simpa using hc.get j h
  rw [hn] at h1
  simp only [execOp, hx, Instr.loadAt, Instr.sureAddr, loadVar, Sem.run_bind, Sem.run_pure, Result.andThen_ok, aggB_run hB, if_true, sizeB_run hS, h1]
theorem st {a : Addr} (hS : sizeB P t 1 = true) (hx : ρ x = .pointer (some a)) (hy : ρ y = v) (hv : v.cells = #[v]) (h1 : v.oneCell' = true) (hc : ∃ u, w.cell? a = some u) (hf : w.frozen? a = false) (hw : w.setCell a v = w') :
    (execOp ρ ⟨d, .store t x y, ty, ps, af, g⟩).run P w = .ok .skip w' := by
  subst hw
  obtain ⟨u, hu⟩ := hc
  have ha : a.add 0 = a := by simp [Addr.add]
  have hs := run_storeCells_ok (P := P) (a := a) [v] 0 w (by simpa using h1) ⟨⟨u, by rw [ha]; exact hu⟩, by rw [ha]; exact hf, trivial⟩
  simp only [stCs, ha] at hs
  simp [execOp, hx, hy, Instr.storeAt, Instr.sureAddr, storeVar, hv, sizeB_run hS, hs]
theorem stA {a : Addr} {n : Nat} (vs : List Value) (hS : sizeB P t n = true) (hx : ρ x = .pointer (some a)) (hy : ρ y = .agg vs.toArray) (hn : vs.length = n) (h1 : ∀ v ∈ vs, v.oneCell' = true) (hc : okCs w a vs 0) (hw : stCs w a vs 0 = w') :
    (execOp ρ ⟨d, .store t x y, ty, ps, af, g⟩).run P w = .ok .skip w' := by
  subst hw
  have hs := run_storeCells_ok (P := P) (a := a) vs 0 w h1 hc
  simp [execOp, hx, hy, Instr.storeAt, Instr.sureAddr, storeVar, Value.cells, sizeB_run hS, hn, hs]
theorem alloc_def (w : World) (o : Obj) : ({ w with heap := w.heap.push o } : World) = w.alloc o := rfl
theorem box {cs : Array Value} {b : Addr} (hx : ρ x = v) (hv : v.cells = cs) (hp : ⟨w.heap.size, 0, none⟩ = b) (hw : w.alloc (.cells cs t) = w') : (execOp ρ ⟨d, .box t x, ty, ps, af, g⟩).run P w = .ok (.value (.pointer (some b))) w' := by
  subst hp hw
  simp only [execOp, hx, Instr.box, newVar, newRow, hv, Sem.run_bind, run_newObj, Result.andThen_ok, Sem.run_pure, alloc_def]
theorem alloc {cs : Array Value} {b : Addr} (hz : (P.info? t).map (·.zero) = some (some v)) (hv : v.cells = cs) (hp : ⟨w.heap.size, 0, none⟩ = b) (hw : w.alloc (.cells cs t) = w') : (execOp ρ ⟨d, .alloc t, ty, ps, af, g⟩).run P w = .ok (.value (.pointer (some b))) w' := by
  subst hp hw
  obtain ⟨i, hi, hzz⟩ := Option.map_eq_some_iff.1 hz
  simp only [execOp, Instr.alloc, newVar, newRow, hv, Sem.run_bind, run_newObj, Result.andThen_ok, Sem.run_pure, alloc_def, zeroValue, typeInfo, run_program, hi, hzz]
theorem Pr {α β : Type} {i : α} {a b : β} (h : a = b) : (i, a) = (i, b) := by rw [h]
theorem bsl {e n : Nat} {parts : Array (Nat × Operand)} {vs : List (Nat × Value)} {cs : Array Value} {b : Addr} (hl : parts.toList.map (fun p => (p.1, ρ p.2)) = vs)
    (hr : ∀ w : World, (Instr.buildSlice t n vs.toArray).run P w = .ok (.slice (some ⟨w.heap.size, 0, none⟩) n n) (w.alloc (.cells cs e))) (hp : ⟨w.heap.size, 0, none⟩ = b) (hw : w.alloc (.cells cs e) = w') :
    (execOp ρ ⟨d, .buildSlice t n parts, ty, ps, af, g⟩).run P w = .ok (.value (.slice (some b) n n)) w' := by
  subst hp hw
  have h1 : (parts.map fun (i, x) => (i, ρ x)) = vs.toArray := by rw [← hl, ← Array.toList_map, Array.toArray_toList]
  simp only [execOp, h1, Sem.run_bind, hr, Result.andThen_ok, Sem.run_pure]
theorem bld {parts : Array (Nat × Operand)} {vs : List (Nat × Value)} (hl : parts.toList.map (fun p => (p.1, ρ p.2)) = vs) (hr : ∀ w : World, (Instr.build t vs.toArray).run P w = .ok v w) (w : World) :
    (execOp ρ ⟨d, .build t parts, ty, ps, af, g⟩).run P w = .ok (.value v) w := by
  have h1 : (parts.map fun (i, x) => (i, ρ x)) = vs.toArray := by rw [← hl, ← Array.toList_map, Array.toArray_toList]
  simp only [execOp, h1, Sem.run_bind, hr, Result.andThen_ok, Sem.run_pure]
theorem call {f : FuncId} {xs : Array Operand} {args : List Value} {ts : Array TypeId} (hB : bodyB P f = true) (hx : xs.toList.map ρ = args) (hf : ρ x = .func (.func f) #[] #[]) :
    (execOp ρ ⟨d, .call ⟨.value x, xs, ts⟩, ty, ps, af, g⟩).run P w = .ok (.enter f args.toArray) w := by
  have hx' : xs.map ρ = args.toArray := by rw [← hx, ← Array.toList_map, Array.toArray_toList]
  unfold bodyB at hB
  split at hB <;> try (simp at hB; done)
  rename_i fn hfn
  simp only [Bool.and_eq_true, Bool.not_eq_true'] at hB
  have h2 : fn.body.isNone = false := by cases hb : fn.body <;> simp_all
  have h3 : ¬ fn.name = "runtime.NumGoroutine" := by simpa using hB.2
  have h4 : ¬ fn.body = none := by intro h; simp [h] at h2
  simp [execOp, resolve, hf, hx', Deferred.ofValue, invoke, callFunc, hfn, h3, h4]
theorem min2 {t1 t2 : TypeId} {a b : Int} (hx : ρ x = .int k a) (hy : ρ y = .int k b) (w : World) : (execOp ρ ⟨d, .call ⟨.builtin .min, #[x, y], #[t1, t2]⟩, ty, ps, af, g⟩).run P w = .ok (.value (.int k (min a b))) w := by
  have : min a b = if b < a then b else a := by omega
  simp [execOp, resolve, invoke, builtin, hx, hy, Builtin.min_, Builtin.min2, this]
theorem max2 {t1 t2 : TypeId} {a b : Int} (hx : ρ x = .int k a) (hy : ρ y = .int k b) (w : World) : (execOp ρ ⟨d, .call ⟨.builtin .max, #[x, y], #[t1, t2]⟩, ty, ps, af, g⟩).run P w = .ok (.value (.int k (max a b))) w := by
  have : max a b = if b > a then b else a := by omega
  simp [execOp, resolve, invoke, builtin, hx, hy, Builtin.max_, Builtin.max2, this]
theorem app {x y : Operand} {t1 t2 : TypeId} {s r : SV} {q : Value} {w' : World} (hx : ρ x = s.v) (hy : ρ y = q) (hr : (Builtin.append_ #[t1, t2] ty #[s.v, q]).run P w = .ok r.v w') :
    (execOp ρ ⟨d, .call ⟨.builtin .append, #[x, y], #[t1, t2]⟩, ty, ps, af, g⟩).run P w = .ok (.value r.v) w' := by
  simp only [SV.v] at *
  simp [execOp, resolve, invoke, builtin, hx, hy, hr]
theorem b2s {s : SV} {b : ByteArray} (hr : (convert t t' s.v).run P w = .ok (.string b) w) (hx : ρ x = s.v) :
    (execOp ρ ⟨d, .convert t t' x, ty, ps, af, g⟩).run P w = .ok (.value (.string b)) w := by
  simp only [SV.v] at *
  simp [execOp, hx, hr]
theorem ldCell {a : Addr} {v : Value} (hB : scalarB P t = true) (hc : w.cell? a = some v) : (loadVar t a).run P w = .ok v w := by
  simp [loadVar, scalarB_run hB, hc]
theorem ldCellA {a : Addr} {n : Nat} {vs : List Value} (hB : aggB P t = true) (hS : sizeB P t n = true) (hn : vs.length = n) (hc : Cs w a 0 vs) : (loadVar t a).run P w = .ok (.agg vs.toArray) w := by
  have h1 : (loadCells a vs.length).run P w = .ok vs.toArray w := run_loadCells_list w a vs fun j v h => by simpa using hc.get j h
  rw [hn] at h1
  simp only [loadVar, Sem.run_bind, Sem.run_pure, Result.andThen_ok, aggB_run hB, if_true, sizeB_run hS, h1]
theorem eqS {xs ys : Array Value} {b : Bool} (hE : ∀ w : World, (Op.equalIn 10000 t (.agg xs) (.agg ys)).run P w = .ok b w) (hg : P.eqGuardType P.depth t = false) (hx : ρ x = .agg xs) (hy : ρ y = .agg ys) (w : World) :
    (execOp ρ ⟨d, .binOp .eql t x y t', ty, ps, af, g⟩).run P w = .ok (.value (.bool b)) w := by
  simp only [execOp, hx, hy, Sem.run_bind, run_eqGuard_agg w .eql t x y xs ys hg, Result.andThen_ok, run_eql_struct, hE, Sem.run_pure]
theorem neS {xs ys : Array Value} {b : Bool} (hE : ∀ w : World, (Op.equalIn 10000 t (.agg xs) (.agg ys)).run P w = .ok b w) (hg : P.eqGuardType P.depth t = false) (hx : ρ x = .agg xs) (hy : ρ y = .agg ys) (w : World) :
    (execOp ρ ⟨d, .binOp .neq t x y t', ty, ps, af, g⟩).run P w = .ok (.value (.bool (!b))) w := by
  simp only [execOp, hx, hy, Sem.run_bind, run_eqGuard_agg w .neq t x y xs ys hg, Result.andThen_ok, run_neq_struct, hE, Sem.run_pure]
end
end R

/-! ### The words of the formulas -/
namespace M
def nil (p : Option Addr) (K : Addr → Prop) : Prop := ∃ a, p = some a ∧ K a
def ld {α : Type} (tov : α → Value) (a : Addr) (w : World) (K : α → Prop) : Prop := ∃ x, w.cell? a = some (tov x) ∧ K x
def st (a : Addr) (v : Value) (w : World) (K : World → Prop) : Prop := (∃ u, w.cell? a = some u) ∧ w.frozen? a = false ∧ K (w.setCell a v)
theorem st_use {a : Addr} {v : Value} {w : World} {K : World → Prop} (h : st a v w K) : ∃ w', w.setCell a v = w' ∧ (∃ u, w.cell? a = some u) ∧ w.frozen? a = false ∧ K w' := ⟨_, rfl, h⟩
def stA (a : Addr) (vs : List Value) (w : World) (K : World → Prop) : Prop := okCs w a vs 0 ∧ K (stCs w a vs 0)
theorem stA_use {a : Addr} {vs : List Value} {w : World} {K : World → Prop} (h : stA a vs w K) : ∃ w', stCs w a vs 0 = w' ∧ okCs w a vs 0 ∧ K w' := ⟨_, rfl, h⟩
def new (o : Obj) (w : World) (K : Addr → World → Prop) : Prop := K ⟨w.heap.size, 0, none⟩ (w.alloc o)
theorem new_use {o : Obj} {w : World} {K : Addr → World → Prop} (h : new o w K) : ∃ b : Addr, ⟨w.heap.size, 0, none⟩ = b ∧ ∃ w', w.alloc o = w' ∧ K b w' := ⟨_, rfl, _, rfl, h⟩
def drew (w : World) (K : World → Prop) : Prop := K w.drew
theorem drew_use {w : World} {K : World → Prop} (h : drew w K) : ∃ w', w' = w.drew ∧ K w' := ⟨_, rfl, h⟩
def idx (s : SV) (i : Int) (sz : Nat) (K : Addr → Prop) : Prop := ∃ a, s.a = some a ∧ 0 ≤ i ∧ i < s.len ∧ K a
def inb (i : Int) (n : Nat) (K : Prop) : Prop := 0 ≤ i ∧ i < n ∧ K
def idxS (s : ByteArray) (i : Int) (K : Int → Prop) : Prop := ∃ c : UInt8, 0 ≤ i ∧ s[i.toNat]? = some c ∧ K c.toNat
def bnd (lo hi : Int) (s : SV) (K : Prop) : Prop := 0 ≤ lo ∧ lo ≤ hi ∧ hi ≤ s.cap ∧ K
def sh (y : Int) (K : Prop) : Prop := 0 ≤ y ∧ K
def nz (y : Int) (K : Prop) : Prop := y ≠ 0 ∧ K
def cat (s t : ByteArray) (K : Prop) : Prop := s.size + t.size ≤ 9223372036854775807 ∧ K
def app (P : Program) (t1 t2 ty : TypeId) (s : SV) (q : Value) (w : World) (K : SV → World → Prop) : Prop := ∃ r w', (Builtin.append_ #[t1, t2] ty #[s.v, q]).run P w = .ok (SV.v r) w' ∧ K r w'
def b2s (P : Program) (t t' : TypeId) (s : SV) (w : World) (K : ByteArray → Prop) : Prop := ∃ b, (convert t t' s.v).run P w = .ok (.string b) w ∧ K b
def ite (b : Bool) (A B : Prop) : Prop := (b = true → A) ∧ (b = false → B)
theorem ite_t {b : Bool} {A B : Prop} (h : ite b A B) (hb : b = true) : A := h.1 hb
theorem ite_f {b : Bool} {A B : Prop} (h : ite b A B) (hb : b = false) : B := h.2 hb
theorem ite_use {b : Bool} {A B : Prop} (h : ite b A B) : (b = true ∧ A) ∨ (b = false ∧ B) := by
  cases b
  · exact .inr ⟨rfl, h.2 rfl⟩
  · exact .inl ⟨rfl, h.1 rfl⟩
def keep (p q : Prop) : Prop := p ∧ q
def both (p q : Prop) : Prop := p ∧ q
/-- A place where ways meet: k goes on from it. -/
def join {α : Type} (k : α) (m : α → Prop) : Prop := m k
theorem join_use {α : Type} {k : α} {m : α → Prop} (h : join k m) : ∃ J, J = k ∧ m J := ⟨k, rfl, h⟩
theorem join_by {α : Type} {k : α} {m : α → Prop} (T : α → Prop) (hk : T k) (hm : ∀ J, T J → m J) : join k m := hm k hk
def loop0 (b : (World → Prop) → World → Prop) (w : World) : Prop :=
  ∃ I : Nat → World → Prop, (∃ n, I n w) ∧ ∀ n w, I n w → b (fun w => ∃ m, m < n ∧ I m w) w
def loop1 {α : Type} (b : (α → World → Prop) → α → World → Prop) (x : α) (w : World) : Prop :=
  ∃ I : Nat → α → World → Prop, (∃ n, I n x w) ∧ ∀ n x w, I n x w → b (fun x w => ∃ m, m < n ∧ I m x w) x w
def loop2 {α β : Type} (b : (α → β → World → Prop) → α → β → World → Prop) (x : α) (y : β) (w : World) : Prop :=
  ∃ I : Nat → α → β → World → Prop, (∃ n, I n x y w) ∧ ∀ n x y w, I n x y w → b (fun x y w => ∃ m, m < n ∧ I m x y w) x y w
def loop3 {α β γ : Type} (b : (α → β → γ → World → Prop) → α → β → γ → World → Prop) (x : α) (y : β) (z : γ) (w : World) : Prop :=
  ∃ I : Nat → α → β → γ → World → Prop, (∃ n, I n x y z w) ∧ ∀ n x y z w, I n x y z w → b (fun x y z w => ∃ m, m < n ∧ I m x y z w) x y z w
def loop4 {α β γ δ : Type} (b : (α → β → γ → δ → World → Prop) → α → β → γ → δ → World → Prop) (x : α) (y : β) (z : γ) (u : δ) (w : World) : Prop :=
  ∃ I : Nat → α → β → γ → δ → World → Prop, (∃ n, I n x y z u w) ∧ ∀ n x y z u w, I n x y z u w → b (fun x y z u w => ∃ m, m < n ∧ I m x y z u w) x y z u w
def loop5 {α β γ δ ε : Type} (b : (α → β → γ → δ → ε → World → Prop) → α → β → γ → δ → ε → World → Prop) (x : α) (y : β) (z : γ) (u : δ) (v : ε) (w : World) : Prop :=
  ∃ I : Nat → α → β → γ → δ → ε → World → Prop, (∃ n, I n x y z u v w) ∧ ∀ n x y z u v w, I n x y z u v w → b (fun x y z u v w => ∃ m, m < n ∧ I m x y z u v w) x y z u v w
def loop6 {α β γ δ ε ζ : Type} (b : (α → β → γ → δ → ε → ζ → World → Prop) → α → β → γ → δ → ε → ζ → World → Prop) (x : α) (y : β) (z : γ) (u : δ) (v : ε) (s : ζ) (w : World) : Prop :=
  ∃ I : Nat → α → β → γ → δ → ε → ζ → World → Prop, (∃ n, I n x y z u v s w) ∧ ∀ n x y z u v s w, I n x y z u v s w → b (fun x y z u v s w => ∃ m, m < n ∧ I m x y z u v s w) x y z u v s w
end M
end Go.Sp
