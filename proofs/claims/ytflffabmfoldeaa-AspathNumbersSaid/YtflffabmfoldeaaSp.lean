/-
  A small logic over Code.wp, for any program: environments (functions from slots to values) in the place of frames; one rule an operation.
-/
import Derived.OrdersHeld
import Derived.Scope
import Derived.WalkKit
import Derived.WalkLawsBesides
namespace Go.Sp
set_option linter.unusedVariables false
set_option linter.unusedSimpArgs false

abbrev Env := Nat → Value
def Env.up (e : Env) (d : Nat) (v : Value) : Env := fun t => bif Nat.beq t d then v else e t
def Env.put (e : Env) (d : Option Nat) (v : Value) : Env := match d with
  | some d => e.up d v
  | none => e
def Env.ev (e : Env) (x : Operand) : Value := match x with
  | .tmp t => e t
  | .const v => v
  | .global g => .pointer (some ⟨g, 0, none⟩)
  | .func f => .func (.func f) #[] #[]

structure Rel (N : Nat) (a : Act) (e : Env) : Prop where
  d : a.defers = []
  n : a.tmps.size = N
  t : ∀ t, t < N → a.tmps.getD t undef = e t

def fitsX (N : Nat) (x : Operand) : Bool := match x with
  | .tmp t => Nat.blt t N
  | _ => true
def noSel (o : Op) : Bool := match o with
  | .select _ _ => false
  | _ => true
/-- The operands, as a list that reduces. -/
def opnds : Op → List Operand
  | .alloc _ | .ready _ | .waits _ => []
  | .move x | .assign x | .box _ x | .load _ x | .nilCheck x | .unOp _ _ x | .convert _ _ x | .sliceToArrayPointer _ x | .makeInterface _ x
  | .makeChan _ x | .fieldAddr _ x _ | .field _ x _ | .range _ x | .next x _ | .entry x | .typeAssert x _ _ _ | .extract x _ | .panic x | .recv _ x _ => [x]
  | .pick c a b => [c, a, b]
  | .build _ ps | .buildSlice _ _ ps => ps.toList.map (·.2)
  | .store _ a v | .binOp _ _ a v _ | .makeSlice _ a v | .indexAddr _ a v | .index _ a v | .lookup _ a v _ | .mapEntry _ a v | .send a v => [a, v]
  | .makeFunc _ first captured => first.toList ++ captured.toList
  | .makeMap _ r => r.toList
  | .slice _ x l h m => x :: (l.toList ++ h.toList ++ m.toList)
  | .mapUpdate _ m k v | .entryStore _ m k v | .insert _ m k v => [m, k, v]
  | .call c | .go c | .defer c => (match c.callee with | .value f => [f] | .invoke r _ => [r] | .builtin _ => []) ++ c.args.toList
  | .select _ _ => []
def fits (N : Nat) (o : Oper) : Bool := (opnds o.op).all (fitsX N) && noSel o.op
theorem mem_opnds {o : Op} (h : noSel o = true) {x : Operand} (hx : x ∈ o.operands) : x ∈ opnds o := by
  cases o <;> first | (simp [noSel] at h; done) | skip
  all_goals simp only [Op.operands, opnds] at hx ⊢
  all_goals first
    | (simp at hx ⊢; done)
    | (simp at hx ⊢; exact hx)
    | (rename_i c; obtain ⟨cal, args, ts⟩ := c; cases cal <;> simp [Call.operands] at hx ⊢ <;> exact hx)
    | skip
theorem Rel.ev {N : Nat} {a : Act} {e : Env} (h : Rel N a e) {x : Operand} (hx : fitsX N x = true) : a.eval x = e.ev x := by
  cases x with
  | tmp t => exact h.t t (by simpa [fitsX] using hx)
  | _ => rfl
theorem noSel_spec {o : Op} (h : noSel o = true) : ∀ cs b, o ≠ .select cs b := by
  intro cs b hc; subst hc; simp [noSel] at h
theorem Rel.exec {N : Nat} {a : Act} {e : Env} (h : Rel N a e) {o : Oper} (ho : fits N o = true) : execOp a.eval o = execOp e.ev o := by
  simp only [fits, Bool.and_eq_true, List.all_eq_true] at ho
  exact execOp_congr o (noSel_spec ho.2) (fun x hx => h.ev (ho.1 x (mem_opnds ho.2 hx)))
theorem Rel.put {N : Nat} {a : Act} {e : Env} (h : Rel N a e) (d : Option Nat) (v : Value) : Rel N (a.put d v) (e.put d v) := by
  cases d with
  | none => exact h
  | some d =>
    refine ⟨h.d, by simp [Act.put, h.n], fun t ht => ?_⟩
    simp only [Act.put, Env.put, Env.up]
    by_cases hd : t = d
    · subst hd
      simp [Array.getD, h.n, ht]
    · have h1 : Nat.beq t d = false := Bool.eq_false_iff.2 fun h => hd (Nat.eq_of_beq_eq_true h)
      have := h.t t ht
      rw [h1]
      simp only [cond_false]
      rw [← this]
      simp [Array.getD_eq_getD_getElem?, Array.getElem?_setIfInBounds_ne (Ne.symm hd)]

/-- What an operation does, its operands known. -/
def OpE (P : Program) (o : Oper) (e : Env) (w : World) (K : Value → World → Prop) : Prop :=
  match (execOp e.ev o).run P w with
  | .ok (.value v) w' => K v w'
  | .ok .skip w' => K undef w'
  | .ok (.enter f args) w' => Calls P f args w' fun en w'' => ∃ v, en = .returned v ∧ K v w''
  | _ => False

theorem OpE.wp {P : Program} {N : Nat} {o : Oper} {e : Env} {w : World} {K : Value → World → Prop} {a : Act} {K' : Act → World → Prop} {Q : Exit → Act → World → Prop}
    (ha : Rel N a e) (ho : fits N o = true) (h : OpE P o e w K) (hk : ∀ v w', K v w' → K' (a.put o.dst v) w') : o.wp P a w K' Q := by
  unfold Oper.wp
  rw [ha.exec ho]
  unfold OpE at h
  generalize (execOp e.ev o).run P w = r at h
  cases r with
  | halt x w' => exact h.elim
  | ok n w' =>
    cases n <;> simp only [Oper.upon] <;> try exact h.elim
    case value v => exact hk _ _ h
    case skip => exact hk _ _ h
    case enter f args =>
      refine Calls.mono h fun en w'' hh => ?_
      obtain ⟨v, rfl, hK⟩ := hh
      exact hk _ _ hK

theorem OpE.pure {P : Program} {o : Oper} {e : Env} {w : World} {K : Value → World → Prop} {v : Value} (h : ∀ w, (execOp e.ev o).run P w = .ok (.value v) w) (k : K v w) : OpE P o e w K := by
  unfold OpE; rw [h]; exact k
theorem OpE.run {P : Program} {o : Oper} {e : Env} {w w' : World} {K : Value → World → Prop} {v : Value} (h : (execOp e.ev o).run P w = .ok (.value v) w') (k : K v w') : OpE P o e w K := by
  unfold OpE; rw [h]; exact k
theorem OpE.skip {P : Program} {o : Oper} {e : Env} {w w' : World} {K : Value → World → Prop} (h : (execOp e.ev o).run P w = .ok .skip w') (k : K undef w') : OpE P o e w K := by
  unfold OpE; rw [h]; exact k
theorem OpE.enter {P : Program} {o : Oper} {e : Env} {w w' : World} {K : Value → World → Prop} {f : FuncId} {args : Array Value} (h : (execOp e.ev o).run P w = .ok (.enter f args) w')
    (k : Calls P f args w' fun en w'' => ∃ v, en = .returned v ∧ K v w'') : OpE P o e w K := by
  unfold OpE; rw [h]; exact k

/-! ### Lists of operations, in the text's order -/
def QO (N : Nat) (K : Env → World → Prop) : Exit → Act → World → Prop
  | .normal, a, w => ∃ e, Rel N a e ∧ K e w
  | _, _, _ => False
def LE (P : Program) (N : Nat) (ops : Array Oper) (K : Env → World → Prop) (l : List Oper) (e : Env) (w : World) : Prop :=
  ∀ a, Rel N a e → wpList P ops (QO N K) l a w

section
variable {P : Program} {N : Nat} {ops : Array Oper} {K : Env → World → Prop} {l : List Oper} {e : Env} {w : World} {o : Oper}
theorem LE.nil (h : K e w) : LE P N ops K [] e w := fun _ ha => ⟨e, ha, h⟩
theorem yielded_of {a : Act} (ha : Rel N a e) {g t : Nat} {b : Bool} (hs : (ops[g]?).bind (·.dst) = some t) (ht : Nat.blt t N = true) (hb : e t = .bool b) : yielded ops a.tmps g = some b := by
  have ht' : t < N := by simpa using ht
  have h1 := ha.t t ht'
  have h2 : a.tmps[t]? = some (.bool b) := by
    have hlt : t < a.tmps.size := by rw [ha.n]; exact ht'
    rw [Array.getD_eq_getD_getElem?, Array.getElem?_eq_getElem hlt] at h1
    rw [Array.getElem?_eq_getElem hlt]
    simp only [Option.getD_some] at h1
    rw [h1, hb]
  simp only [yielded, hs, Option.bind_some, h2]
theorem yielded_undef {a : Act} (ha : Rel N a e) {g t : Nat} (hs : (ops[g]?).bind (·.dst) = some t) (ht : Nat.blt t N = true) (hb : e t = undef) : yielded ops a.tmps g = none := by
  have ht' : t < N := by simpa using ht
  have h1 := ha.t t ht'
  have h2 : a.tmps[t]? = some undef := by
    have hlt : t < a.tmps.size := by rw [ha.n]; exact ht'
    rw [Array.getD_eq_getD_getElem?, Array.getElem?_eq_getElem hlt] at h1
    rw [Array.getElem?_eq_getElem hlt]
    simp only [Option.getD_some] at h1
    rw [h1, hb]
  simp only [yielded, hs, Option.bind_some, h2, undef]
/-- The operation is carried out: it has no guard, or its guard says yes. -/
def Wn (N : Nat) (ops : Array Oper) (o : Oper) (e : Env) : Prop :=
  o.guard = none ∨ ∃ g t b, o.guard = some (g, b) ∧ (ops[g]?).bind (·.dst) = some t ∧ Nat.blt t N = true ∧ e t = .bool b
theorem Wn.no (h : o.guard = none) : Wn N ops o e := .inl h
theorem Wn.yes (g t : Nat) (b : Bool) (h : o.guard = some (g, b)) (hs : (ops[g]?).bind (·.dst) = some t) (ht : Nat.blt t N = true) (hb : e t = .bool b) : Wn N ops o e := .inr ⟨g, t, b, h, hs, ht, hb⟩
/-- It is passed over. -/
def Un (N : Nat) (ops : Array Oper) (o : Oper) (e : Env) : Prop :=
  ∃ g t b, o.guard = some (g, b) ∧ (ops[g]?).bind (·.dst) = some t ∧ Nat.blt t N = true ∧ (e t = .bool (!b) ∨ e t = undef)
theorem Un.no (g t : Nat) (b : Bool) (h : o.guard = some (g, b)) (hs : (ops[g]?).bind (·.dst) = some t) (ht : Nat.blt t N = true) (hb : e t = .bool (!b)) : Un N ops o e := ⟨g, t, b, h, hs, ht, .inl hb⟩
theorem Un.un (g t : Nat) (b : Bool) (h : o.guard = some (g, b)) (hs : (ops[g]?).bind (·.dst) = some t) (ht : Nat.blt t N = true) (hb : e t = undef) : Un N ops o e := ⟨g, t, b, h, hs, ht, .inr hb⟩
theorem Wn.wanted {a : Act} (ha : Rel N a e) (h : Wn N ops o e) : Region.wanted o (yielded ops a.tmps) = true := by
  rcases h with h | ⟨g, t, b, h, hs, ht, hb⟩
  · simp [Region.wanted, h]
  · simp [Region.wanted, h, yielded_of ha hs ht hb]
theorem Un.unwanted {a : Act} (ha : Rel N a e) (h : Un N ops o e) : Region.wanted o (yielded ops a.tmps) = false := by
  obtain ⟨g, t, b, h, hs, ht, hb | hb⟩ := h
  · simp [Region.wanted, h, yielded_of ha hs ht hb]
  · simp [Region.wanted, h, yielded_undef ha hs ht hb]
theorem LE.op (hg : Wn N ops o e) (hf : fits N o = true) (h : OpE P o e w fun v w' => LE P N ops K l (e.put o.dst v) w') : LE P N ops K (o :: l) e w := by
  intro a ha
  refine wpList_step fun K' hK' => ?_
  rw [if_pos (hg.wanted ha)]
  exact OpE.wp ha hf h fun v w' hk => hK' _ _ (hk _ (ha.put _ _))
theorem LE.u (hg : Un N ops o e) (h : LE P N ops K l (e.put o.dst undef) w) : LE P N ops K (o :: l) e w := by
  intro a ha
  refine wpList_step fun K' hK' => ?_
  rw [if_neg (by rw [hg.unwanted ha]; simp)]
  exact hK' _ _ (h _ (ha.put _ _))
theorem LE.p {v : Value} (hg : Wn N ops o e) (hf : fits N o = true) (hv : ∀ w, (execOp e.ev o).run P w = .ok (.value v) w) (h : LE P N ops K l (e.put o.dst v) w) : LE P N ops K (o :: l) e w := LE.op hg hf (OpE.pure hv h)
theorem LE.r {v : Value} {w' : World} (hg : Wn N ops o e) (hf : fits N o = true) (hv : (execOp e.ev o).run P w = .ok (.value v) w') (h : LE P N ops K l (e.put o.dst v) w') : LE P N ops K (o :: l) e w := LE.op hg hf (OpE.run hv h)
theorem LE.s {w' : World} (hg : Wn N ops o e) (hf : fits N o = true) (hv : (execOp e.ev o).run P w = .ok .skip w') (h : LE P N ops K l (e.put o.dst undef) w') : LE P N ops K (o :: l) e w := LE.op hg hf (OpE.skip hv h)
theorem LE.c {f : FuncId} {args : Array Value} (hg : Wn N ops o e) (hf : fits N o = true) (hv : (execOp e.ev o).run P w = .ok (.enter f args) w)
    (h : Calls P f args w fun en w'' => ∃ v, en = .returned v ∧ LE P N ops K l (e.put o.dst v) w'') : LE P N ops K (o :: l) e w := LE.op hg hf (OpE.enter hv h)

end
/-! ### A region that draws its order -/
/-- Which operations wait, by whatever chain, for operation number i. -/
def aftGo (i : Nat) : List Oper → List Bool → List Bool
  | [], acc => acc
  | o :: l, acc => aftGo i l (acc ++ [o.after.any fun e => Region.binds .any e && (e.on == i || acc.getD e.on false)])
def aft (ops : Array Oper) (i j : Nat) : Bool := (aftGo i ops.toList []).getD j false
def Closed (ops : Array Oper) (listed : Array Bool) : Prop := ∀ k o, ops[k]? = some o → listed.getD k true = true → ∀ e ∈ o.after, Region.binds .any e = true → listed.getD e.on false = true
theorem aftGo_unlisted {ops : Array Oper} {listed : Array Bool} (hc : Closed ops listed) {i : Nat} (hi : listed.getD i false = false) : ∀ (l : List Oper) (acc : List Bool), (∀ j, l[j]? = ops[acc.length + j]?) →
    (∀ k, acc.getD k false = true → listed.getD k true = false) → ∀ k, (aftGo i l acc).getD k false = true → listed.getD k true = false
  | [], acc, _, h, k, hk => h k hk
  | o :: l, acc, hl, h, k, hk => by
    have h0 : ops[acc.length]? = some o := by simpa using (hl 0).symm
    refine aftGo_unlisted hc hi l (acc ++ [o.after.any fun e => Region.binds .any e && (e.on == i || acc.getD e.on false)]) (fun j => by
      have := hl (j + 1)
      simpa [Nat.add_assoc, Nat.add_comm 1 j] using this) (fun k hk => ?_) k hk
    by_cases hk1 : k < acc.length
    · refine h k ?_
      rw [List.getD_eq_getElem?_getD, List.getElem?_append_left hk1, ← List.getD_eq_getElem?_getD] at hk
      exact hk
    · by_cases hk2 : k = acc.length
      · subst hk2
        have h1 : (o.after.any fun e => Region.binds .any e && (e.on == i || acc.getD e.on false)) = true := by
          simpa [List.getD_eq_getElem?_getD] using hk
        cases hlk : listed.getD acc.length true with
        | false => rfl
        | true =>
          obtain ⟨e, he, h2⟩ := Array.any_eq_true'.1 h1
          simp only [Bool.and_eq_true, Bool.or_eq_true, beq_iff_eq] at h2
          have h3 := hc _ o h0 hlk e he h2.1
          rcases h2.2 with h4 | h4
          · rw [h4] at h3; rw [h3] at hi; cases hi
          · have h5 := h e.on h4
            rcases Nat.lt_or_ge e.on listed.size with h' | h'
            · simp [h'] at h3 h5; rw [h3] at h5; cases h5
            · simp [Array.getElem?_eq_none h'] at h3
      · exfalso
        have : acc.length + 1 ≤ k := by omega
        rw [List.getD_eq_getElem?_getD, List.getElem?_eq_none (by simpa using this)] at hk
        cases hk
theorem closed_set {ops : Array Oper} {listed : Array Bool} (hc : Closed ops listed) {j : Nat} (hj : j ∈ Region.ready .any ops listed) : Closed ops (listed.setIfInBounds j true) := by
  intro k o hk hl e he hb
  obtain ⟨hjun, oj, hoj, hall⟩ := mem_ready.1 hj
  have up : listed.getD e.on false = true → (listed.setIfInBounds j true).getD e.on false = true := by
    intro h
    by_cases hje : j = e.on
    · subst hje
      rcases Nat.lt_or_ge e.on listed.size with h' | h'
      · simp [h']
      · simp [Array.getElem?_eq_none h'] at h
    · rw [getD_set_ne false hje]; exact h
  by_cases hkj : k = j
  · subst hkj
    rw [hoj] at hk
    obtain rfl := Option.some.inj hk
    exact up (hall e he hb)
  · rw [getD_set_ne true (Ne.symm hkj)] at hl
    exact up (hc k o hk hl e he hb)
theorem aft_ready {ops : Array Oper} {listed : Array Bool} (hc : Closed ops listed) {i j : Nat} (hi : listed.getD i false = false) (hj : j ∈ Region.ready .any ops listed) (hji : j ≠ i) : aft ops i j = false := by
  cases h : aft ops i j with
  | false => rfl
  | true =>
    have hc' := closed_set hc hj
    have hi' : (listed.setIfInBounds j true).getD i false = false := by rw [getD_set_ne false hji]; exact hi
    have h1 := aftGo_unlisted hc' hi' ops.toList [] (fun j => by simp) (fun k hk => by simp at hk) j h
    obtain ⟨hjun, oj, hoj, hall⟩ := mem_ready.1 hj
    rcases Nat.lt_or_ge j listed.size with h' | h'
    · simp [h'] at h1
    · simp [Array.getElem?_eq_none h'] at hjun
/-- Whatever order is picked from here on; an operation leaves the world as it was, or behind operation number i the world meets C i. -/
def wpAnyG (P : Program) (ops : Array Oper) (Q : Exit → Act → World → Prop) (C : Nat → World → Prop) : Nat → Array Bool → Act → World → Prop
  | 0, listed, a, w => Region.ready .any ops listed = [] ∧ Q .normal a w
  | fuel + 1, listed, a, w =>
    (Region.ready .any ops listed = [] → Q .normal a w) ∧
    ∀ i ∈ Region.ready .any ops listed, wpOp P ops Q i (fun a' w' => (w' = w ∨ C i w') ∧ wpAnyG P ops Q C fuel (listed.setIfInBounds i true) a' w') a w
section
variable {P : Program} {ops : Array Oper} {Q : Exit → Act → World → Prop} {C : Nat → World → Prop} {S : World → Prop}
theorem wpAny_of_G : ∀ (fuel : Nat) (listed : Array Bool) (a : Act) (w : World), wpAnyG P ops Q C fuel listed a w → wpAny P .any ops Q fuel listed a w
  | 0, _, _, _, h => h
  | fuel + 1, _, _, _, h => ⟨h.1, fun i hi => wpOp_mono (fun a' w' h' => wpAny_of_G fuel _ a' w' h'.2) (h.2 i hi)⟩
theorem wpAnyG_mono {C' : Nat → World → Prop} (hs : ∀ j w, C' j w → C j w) : ∀ (fuel : Nat) (listed : Array Bool) (a : Act) (w : World), wpAnyG P ops Q C' fuel listed a w → wpAnyG P ops Q C fuel listed a w
  | 0, _, _, _, h => h
  | fuel + 1, _, _, _, h => ⟨h.1, fun i hi => wpOp_mono (fun a' w' h' => ⟨h'.1.imp id (hs _ _), wpAnyG_mono hs fuel _ a' w' h'.2⟩) (h.2 i hi)⟩
theorem wpAnyG_first {i : Nat} {oi : Oper} {v : Value} (hi : ops[i]? = some oi) (hsel : ∀ (j : Nat) (o : Oper) cs b, ops[j]? = some o → o.op ≠ .select cs b)
    (hQ : ∀ c a w, Q (.panic c) (a.put oi.dst v) w → Q (.panic c) a w) (hC : ∀ j w, aft ops i j = false → C j w → S w) :
    ∀ (fuel : Nat) (listed : Array Bool) (a : Act) (w : World), Closed ops listed →
      (∀ j oj, ops[j]? = some oj → j ≠ i → listed.getD j true = false → (∀ e ∈ oj.after, Region.binds .any e = true → e.on ≠ i) → oi.apart ops oj = true) →
      i ∈ Region.ready .any ops listed → YieldsIf P ops S oi v a → S w →
      wpAnyG P ops Q C fuel (listed.setIfInBounds i true) (a.put oi.dst v) w → wpAnyG P ops Q C (fuel + 1) listed a w := by
  intro fuel
  induction fuel with
  | zero =>
    intro listed a w _ _ hr hy hS H
    refine ⟨fun h => (by rw [h] at hr; cases hr), fun j hj => ?_⟩
    by_cases hji : j = i
    · subst hji; exact hy.wpOp hi hS ⟨.inl rfl, H⟩
    · have := ready_mono hj hji
      rw [H.1] at this
      cases this
  | succ fuel ih =>
    intro listed a w hc hfree hr hy hS H
    refine ⟨fun h => (by rw [h] at hr; cases hr), fun j hj => ?_⟩
    by_cases hji : j = i
    · subst hji; exact hy.wpOp hi hS ⟨.inl rfl, H⟩
    · have h1 := H.2 j (ready_mono hj hji)
      obtain ⟨hjun, oj, hoj, hall⟩ := mem_ready.1 hj
      have hiun : listed.getD i false = false := by
        have h0 := (mem_ready.1 hr).1
        rcases Nat.lt_or_ge i listed.size with h' | h'
        · simp [h'] at h0 ⊢; exact h0
        · simp [Array.getElem?_eq_none h']
      have hnot : ∀ e ∈ oj.after, Region.binds .any e = true → e.on ≠ i := fun e he hb heq => by
        have h1 := hall e he hb
        rw [heq, hiun] at h1
        cases h1
      have hja := aft_ready hc hiun hj hji
      have h2 := wpOp_putIf hoj (hfree j oj hoj hji hjun hnot) (fun cs b => hsel i oi cs b hi) (fun cs b => hsel j oj cs b hoj) hQ hy h1
      have hfree' : ∀ k ok, ops[k]? = some ok → k ≠ i → (listed.setIfInBounds j true).getD k true = false →
          (∀ e ∈ ok.after, Region.binds .any e = true → e.on ≠ i) → oi.apart ops ok = true := fun k ok hk hki hun hno => by
        refine hfree k ok hk hki ?_ hno
        by_cases hjk : j = k
        · subst hjk; exact hjun
        · rw [getD_set_ne true hjk] at hun; exact hun
      refine wpOp_mono (fun a' w' h3 => ⟨h3.2.1, ih (listed.setIfInBounds j true) a' w' (closed_set hc hj) hfree' (ready_mono hr (Ne.symm hji)) h3.1 ?_ ?_⟩) h2
      · rcases h3.2.1 with h4 | h4
        · rw [h4]; exact hS
        · exact hC j w' hja h4
      · rw [Array.setIfInBounds_comm _ _ hji]
        exact h3.2.2
end
def DE (P : Program) (N : Nat) (ops : Array Oper) (C : Nat → World → Prop) (K : Env → World → Prop) (fuel : Nat) (listed : Array Bool) (e : Env) (w : World) : Prop :=
  Closed ops listed → ∀ a, Rel N a e → wpAnyG P ops (QO N K) C fuel listed a w
section
variable {P : Program} {N : Nat} {ops : Array Oper} {K : Env → World → Prop} {l : List Oper} {e : Env} {w : World} {o : Oper}
variable {C : Nat → World → Prop} {S : World → Prop} {fuel : Nat} {listed : Array Bool}
theorem DE.done (hr : Region.ready .any ops listed = []) (h : K e w) : DE P N ops C K fuel listed e w := by
  intro _ a ha
  cases fuel with
  | zero => exact ⟨hr, e, ha, h⟩
  | succ n => exact ⟨fun _ => ⟨e, ha, h⟩, by rw [hr]; simp⟩
theorem DE.more {C' : Nat → World → Prop} (hs : ∀ j w, C' j w → C j w) (h : DE P N ops C' K fuel listed e w) : DE P N ops C K fuel listed e w :=
  fun hc a ha => wpAnyG_mono hs fuel listed a w (h hc a ha)
def takeB (ops : Array Oper) (listed : Array Bool) (i : Nat) : Bool := Region.noSelect ops && Region.free .any ops listed i && (Region.ready .any ops listed).contains i
theorem takeB_ready {i : Nat} (h : takeB ops listed i = true) : i ∈ Region.ready .any ops listed := by
  simp only [takeB, Bool.and_eq_true] at h
  simpa using h.2
/-- A held operation: it yields its value in every world that meets S, and S holds behind all that may come ahead of it. -/
theorem DE.h (i : Nat) (S : World → Prop) {v : Value} (hi : ops[i]? = some o) (hB : takeB ops listed i = true) (hg : Wn N ops o e) (hft : fits N o = true)
    (hS : S w) (hC : ∀ j w, aft ops i j = false → C j w → S w) (hv : ∀ w, S w → (execOp e.ev o).run P w = .ok (.value v) w)
    (h : DE P N ops C K fuel (listed.setIfInBounds i true) (e.put o.dst v) w) : DE P N ops C K (fuel + 1) listed e w := by
  intro hc a ha
  have hr := takeB_ready hB
  simp only [takeB, Bool.and_eq_true] at hB
  refine wpAnyG_first hi (Region.noSelect_spec hB.1.1) (fun c a w hq => hq) hC fuel listed a w hc (Region.free_spec hi hB.1.2) hr (.inl ⟨hg.wanted ha, fun w hw => ?_⟩) hS (h (closed_set hc hr) _ (ha.put _ _))
  rw [ha.exec hft]; exact hv w hw
theorem DE.hold (i : Nat) (S : World → Prop) {v : Value} (hi : ops[i]? = some o) (hB : takeB ops listed i = true) (hg : Wn N ops o e) (hft : fits N o = true)
    (hS : S w) (hv : ∀ w, S w → (execOp e.ev o).run P w = .ok (.value v) w)
    (h : DE P N ops (fun j w => (aft ops i j = false → S w) ∧ C j w) K fuel (listed.setIfInBounds i true) (e.put o.dst v) w) : DE P N ops C K (fuel + 1) listed e w :=
  DE.more (fun _ _ hs => hs.2) (DE.h i S hi hB hg hft hS (fun _ _ ha hs => hs.1 ha) hv h)
theorem DE.t (i : Nat) {v : Value} (hi : ops[i]? = some o) (hB : takeB ops listed i = true) (hg : Wn N ops o e) (hft : fits N o = true)
    (hv : ∀ w, (execOp e.ev o).run P w = .ok (.value v) w) (h : DE P N ops C K fuel (listed.setIfInBounds i true) (e.put o.dst v) w) : DE P N ops C K (fuel + 1) listed e w :=
  DE.h i (fun _ => True) hi hB hg hft trivial (fun _ _ _ _ => trivial) (fun w _ => hv w) h
theorem DE.u (i : Nat) (hi : ops[i]? = some o) (hB : takeB ops listed i = true) (hg : Un N ops o e)
    (h : DE P N ops C K fuel (listed.setIfInBounds i true) (e.put o.dst Go.undef) w) : DE P N ops C K (fuel + 1) listed e w := by
  intro hc a ha
  have hr := takeB_ready hB
  simp only [takeB, Bool.and_eq_true] at hB
  exact wpAnyG_first (S := fun _ => True) hi (Region.noSelect_spec hB.1.1) (fun c a w hq => hq) (fun _ _ _ _ => trivial) fuel listed a w hc (Region.free_spec hi hB.1.2) hr (.inr ⟨hg.unwanted ha, rfl⟩) trivial (h (closed_set hc hr) _ (ha.put _ _))
/-- One operation out of those that may come up. -/
def One (P : Program) (N : Nat) (ops : Array Oper) (C : Nat → World → Prop) (K : Env → World → Prop) (fuel : Nat) (listed : Array Bool) (e : Env) (w : World) (i : Nat) : Prop :=
  i ∈ Region.ready .any ops listed → Closed ops listed → ∀ a, Rel N a e → wpOp P ops (QO N K) i (fun a' w' => (w' = w ∨ C i w') ∧ wpAnyG P ops (QO N K) C fuel (listed.setIfInBounds i true) a' w') a w
theorem One.op (i : Nat) (hi : ops[i]? = some o) (hg : Wn N ops o e) (hft : fits N o = true)
    (h : OpE P o e w fun v w' => (w' = w ∨ C i w') ∧ DE P N ops C K fuel (listed.setIfInBounds i true) (e.put o.dst v) w') : One P N ops C K fuel listed e w i := by
  intro hr hc a ha
  unfold wpOp
  simp only [hi]
  rw [if_pos (hg.wanted ha)]
  exact .inl (OpE.wp ha hft h fun v w' hk => ⟨hk.1, hk.2 (closed_set hc hr) _ (ha.put _ _)⟩)
theorem One.r (i : Nat) {v : Value} {w' : World} (hi : ops[i]? = some o) (hg : Wn N ops o e) (hft : fits N o = true) (hv : (execOp e.ev o).run P w = .ok (.value v) w') (hS : w' = w ∨ C i w')
    (h : DE P N ops C K fuel (listed.setIfInBounds i true) (e.put o.dst v) w') : One P N ops C K fuel listed e w i := One.op i hi hg hft (OpE.run hv ⟨hS, h⟩)
theorem One.s (i : Nat) {w' : World} (hi : ops[i]? = some o) (hg : Wn N ops o e) (hft : fits N o = true) (hv : (execOp e.ev o).run P w = .ok .skip w') (hS : C i w')
    (h : DE P N ops C K fuel (listed.setIfInBounds i true) (e.put o.dst undef) w') : One P N ops C K fuel listed e w i := One.op i hi hg hft (OpE.skip hv ⟨.inr hS, h⟩)
theorem One.c (i : Nat) {f : FuncId} {args : Array Value} (hi : ops[i]? = some o) (hg : Wn N ops o e) (hft : fits N o = true) (hv : (execOp e.ev o).run P w = .ok (.enter f args) w)
    (h : Calls P f args w fun en w'' => ∃ v, en = .returned v ∧ C i w'' ∧ DE P N ops C K fuel (listed.setIfInBounds i true) (e.put o.dst v) w'') : One P N ops C K fuel listed e w i :=
  One.op i hi hg hft (OpE.enter hv (h.mono fun _ _ ⟨v, h1, h2, h3⟩ => ⟨v, h1, .inr h2, h3⟩))
theorem wpAnyG_all {rs : List Nat} {a : Act} {Q : Exit → Act → World → Prop} (hr : Region.ready .any ops listed = rs) (hne : rs ≠ [])
    (h : ∀ i ∈ rs, wpOp P ops Q i (fun a' w' => (w' = w ∨ C i w') ∧ wpAnyG P ops Q C fuel (listed.setIfInBounds i true) a' w') a w) : wpAnyG P ops Q C (fuel + 1) listed a w :=
  ⟨fun h0 => absurd (hr ▸ h0) hne, hr ▸ h⟩
theorem DE.main (i : Nat) (hr : (Region.ready .any ops listed == [i]) = true) (h : One P N ops C K fuel listed e w i) : DE P N ops C K (fuel + 1) listed e w := by
  have hr' : Region.ready .any ops listed = [i] := by simpa using hr
  exact fun hc a ha => wpAnyG_all hr' (by simp) fun j hj => by obtain rfl := List.mem_singleton.1 hj; exact h (by rw [hr']; simp) hc a ha
theorem DE.main2 (i j : Nat) (hr : (Region.ready .any ops listed == [i, j]) = true) (h : One P N ops C K fuel listed e w i) (h' : One P N ops C K fuel listed e w j) : DE P N ops C K (fuel + 1) listed e w := by
  have hr' : Region.ready .any ops listed = [i, j] := by simpa using hr
  exact fun hc a ha => wpAnyG_all hr' (by simp) fun k hk => by
    rcases List.mem_cons.1 hk with rfl | hk
    · exact h (by rw [hr']; simp) hc a ha
    · obtain rfl := List.mem_singleton.1 hk; exact h' (by rw [hr']; simp) hc a ha
theorem DE.main3 (i j l : Nat) (hr : (Region.ready .any ops listed == [i, j, l]) = true) (h : One P N ops C K fuel listed e w i) (h' : One P N ops C K fuel listed e w j) (h'' : One P N ops C K fuel listed e w l) : DE P N ops C K (fuel + 1) listed e w := by
  have hr' : Region.ready .any ops listed = [i, j, l] := by simpa using hr
  exact fun hc a ha => wpAnyG_all hr' (by simp) fun k hk => by
    rcases List.mem_cons.1 hk with rfl | hk
    · exact h (by rw [hr']; simp) hc a ha
    · rcases List.mem_cons.1 hk with rfl | hk
      · exact h' (by rw [hr']; simp) hc a ha
      · obtain rfl := List.mem_singleton.1 hk; exact h'' (by rw [hr']; simp) hc a ha
theorem aftT {i j : Nat} {p : Prop} (h : aft ops i j = true) : aft ops i j = false → p := fun h' => by rw [h] at h'; cases h'
theorem wp_region_G {id : Nat} {a : Act} {w : World} {Q : Exit → Act → World → Prop} (hm : P.follows .mixedOrders = true)
    (h : wpAnyG P ops Q C ops.size (Array.replicate ops.size false) a { w with drawn := w.drawn + 1 }) : (Code.region id ops true).wp P Q a w :=
  wp_region_any hm (wpAny_of_G _ _ _ _ h)
theorem closed_start (ops : Array Oper) (n : Nat) (hn : ops.size ≤ n) : Closed ops (Array.replicate n false) := by
  intro k o hk hl
  have : k < n := Nat.lt_of_lt_of_le (Array.getElem?_eq_some_iff.1 hk).1 hn
  simp [this] at hl
end

/-! ### Statements -/
inductive Ex where
  | nrm
  | ex (id : Nat)
  | ret
def QS (N : Nat) (Q : Ex → Env → World → Prop) : Exit → Act → World → Prop
  | .normal, a, w => ∃ e, Rel N a e ∧ Q .nrm e w
  | .exit i, a, w => ∃ e, Rel N a e ∧ Q (.ex i) e w
  | .ret, a, w => ∃ e, Rel N a e ∧ Q .ret e w
  | _, _, _ => False
def WE (P : Program) (N : Nat) (c : Code) (Q : Ex → Env → World → Prop) (e : Env) (w : World) : Prop := ∀ a, Rel N a e → c.wp P (QS N Q) a w
def Ex.seq (R : Env → World → Prop) (Q : Ex → Env → World → Prop) : Ex → Env → World → Prop
  | .nrm => R
  | x => Q x
def Ex.blk (id : Nat) (Q : Ex → Env → World → Prop) : Ex → Env → World → Prop
  | .ex i => bif Nat.beq i id then Q .nrm else Q (.ex i)
  | x => Q x

section
variable {P : Program} {N : Nat} {Q : Ex → Env → World → Prop} {e : Env} {w : World} {c c1 c2 : Code}
theorem WE.mono {Q' : Ex → Env → World → Prop} (h : WE P N c Q e w) (hq : ∀ x e w, Q x e w → Q' x e w) : WE P N c Q' e w :=
  fun a ha => wp_mono (h a ha) fun x a w hx => by
    cases x <;> first | exact hx.elim | (obtain ⟨e, h1, h2⟩ := hx; exact ⟨e, h1, hq _ _ _ h2⟩)
theorem WE.skip (h : Q .nrm e w) : WE P N .skip Q e w := fun _ ha => wp_skip ⟨e, ha, h⟩
theorem WE.label {l : Nat} (h : Q .nrm e w) : WE P N (.label l) Q e w := fun _ ha => wp_label ⟨e, ha, h⟩
theorem WE.exit {id : Nat} (h : Q (.ex id) e w) : WE P N (.exit id) Q e w := fun _ ha => wp_exit ⟨e, ha, h⟩
theorem WE.ret (h : Q .ret e w) : WE P N .ret Q e w := fun _ ha => wp_ret ⟨e, ha, h⟩
theorem WE.seq (h : WE P N c1 (Ex.seq (WE P N c2 Q) Q) e w) : WE P N (.seq c1 c2) Q e w :=
  fun a ha => wp_seq (wp_mono (h a ha) fun x a w hx => by
    cases x with
    | normal => obtain ⟨e, h1, h2⟩ := hx; exact h2 _ h1
    | exit i => exact hx
    | ret => exact hx
    | _ => exact hx.elim)
theorem WE.condT {x : Operand} (hf : fitsX N x = true) {b : Bool} (hx : e.ev x = .bool b) (ht : b = true → WE P N c1 Q e w) (hff : b = false → WE P N c2 Q e w) : WE P N (.cond x c1 c2) Q e w :=
  fun a ha => wp_cond_split (t := b) (by rw [ha.ev hf, hx]) (fun h => ht h a ha) (fun h => hff h a ha)
theorem WE.block {id : Nat} (h : WE P N c (Ex.blk id Q) e w) : WE P N (.block id c) Q e w :=
  fun a ha => wp_block (wp_mono (h a ha) fun x a w hx => by
    cases x with
    | normal => exact hx
    | ret => exact hx
    | exit i =>
      obtain ⟨e, h1, h2⟩ := hx
      simp only [Exit.inBlock]
      simp only [Ex.blk] at h2
      by_cases hi : i = id
      · subst hi
        have : Nat.beq i i = true := by simp
        rw [this] at h2
        rw [if_pos rfl]; exact ⟨e, h1, h2⟩
      · have : Nat.beq i id = false := Bool.eq_false_iff.2 fun h => hi (Nat.eq_of_beq_eq_true h)
        rw [this] at h2
        rw [if_neg hi]; exact ⟨e, h1, h2⟩
    | _ => exact hx.elim)
theorem WE.scope (h : WE P N c Q e w) : WE P N (.scope c) Q e w :=
  fun a ha => wp_scope_straight (wp_mono (h a ha) fun x a w hx => by
    cases x <;> first | exact hx | exact hx.elim)
theorem wpList_QS {ops : Array Oper} {l : List Oper} {K : Env → World → Prop} (hk : ∀ e w, K e w → Q .nrm e w) : ∀ {a : Act} {w : World}, wpList P ops (QO N K) l a w → wpList P ops (QS N Q) l a w := by
  induction l with
  | nil => intro a w h; obtain ⟨e, h1, h2⟩ := h; exact ⟨e, h1, hk _ _ h2⟩
  | cons o l ih =>
    intro a w h
    unfold wpList at h ⊢
    split
    · rename_i hw
      rw [if_pos hw] at h
      rcases h with h | ⟨_, ⟨_, _, hf⟩⟩
      · refine .inl ?_
        unfold Oper.wp at h ⊢
        generalize (execOp a.eval o).run P w = r at h
        cases r with
        | ok n w' =>
          cases n <;> simp only [Oper.upon] at h ⊢ <;> first | exact ih h | skip
          case enter f args => exact Calls.mono h fun en w'' he => by cases en <;> first | exact ih he | exact he.elim | (obtain ⟨_, _, hf⟩ := he; exact hf.elim)
          case row r args => exact Rows.mono h fun v w'' he => ih he
        | halt x w' => cases x <;> simp only [Oper.upon] at h ⊢ <;> exact h.elim
      · exact hf.elim
    · rename_i hw
      rw [if_neg hw] at h
      exact ih h
theorem WE.reg {id : Nat} {l : List Oper} (h : LE P N l.toArray (Q .nrm) l e w) : WE P N (.region id l.toArray false) Q e w :=
  fun a ha => wp_region_lit (wpList_QS (fun _ _ h => h) (h a ha))
theorem WE.draw {id : Nat} {l : List Oper} (hm : P.follows .mixedOrders = true) (h : DE P N l.toArray (fun _ _ => True) (Q .nrm) l.length (List.replicate l.length false).toArray e w.drew) : WE P N (.region id l.toArray true) Q e w := by
  intro a ha
  refine wp_mono (Q := QO N (Q .nrm)) (wp_region_G (C := fun _ _ => True) hm ?_) fun x a w hx => by
    cases x <;> first | exact hx.elim | exact hx
  have := h (by have := closed_start l.toArray l.length (by simp); simpa using this) a ha
  simpa using this
/-- Where ways meet: behind the first part 'L' holds. -/
theorem WE.join (L : Env → World → Prop) (h : WE P N c1 (Ex.seq L Q) e w) (hL : ∀ e w, L e w → WE P N c2 Q e w) : WE P N (.seq c1 c2) Q e w :=
  WE.seq (WE.mono h fun x e w hx => by cases x <;> first | exact hL _ _ hx | exact hx)
/-- Where the ways out of a block meet. -/
theorem WE.blkJ {id : Nat} (L : Env → World → Prop) (h : WE P N c (Ex.blk id (Ex.seq L Q)) e w) (hL : ∀ e w, L e w → Q .nrm e w) : WE P N (.block id c) Q e w :=
  WE.block (WE.mono h fun x e w hx => by
    cases x with
    | nrm => exact hL _ _ hx
    | ret => exact hx
    | ex i =>
      simp only [Ex.blk] at hx ⊢
      cases hb : Nat.beq i id <;> simp only [hb, cond_true, cond_false, Ex.seq] at hx ⊢
      · exact hx
      · exact hL _ _ hx)
theorem WE.regJ {id : Nat} {l : List Oper} (L : Env → World → Prop) (h : LE P N l.toArray L l e w) (hL : ∀ e w, L e w → Q .nrm e w) : WE P N (.region id l.toArray false) Q e w :=
  fun a ha => wp_region_lit (wpList_QS hL (h a ha))
theorem WE.drawJ {id : Nat} {l : List Oper} (L : Env → World → Prop) (hm : P.follows .mixedOrders = true) (h : DE P N l.toArray (fun _ _ => True) L l.length (List.replicate l.length false).toArray e w.drew) (hL : ∀ e w, L e w → Q .nrm e w) : WE P N (.region id l.toArray true) Q e w := by
  intro a ha
  refine wp_mono (Q := QO N L) (wp_region_G (C := fun _ _ => True) hm ?_) fun x a w hx => by
    cases x <;> first | exact hx.elim | (obtain ⟨e, h1, h2⟩ := hx; exact ⟨e, h1, hL _ _ h2⟩)
  have := h (by have := closed_start l.toArray l.length (by simp); simpa using this) a ha
  simpa using this
/-- A loop: a relation 'I n' on environments and worlds, n: at most so many rounds. -/
theorem WE.loop (I : Nat → Env → World → Prop) (n : Nat) (h0 : I n e w) (hr : ∀ n e w, I n e w → WE P N c (Ex.seq (fun e' w' => ∃ m, m < n ∧ I m e' w') Q) e w) : WE P N (.loop c) Q e w := by
  intro a ha b k cs
  have key : ∀ n e w a, Rel N a e → I n e w → ∃ x a' w', QS N Q x a' w' ∧ Arrives P (lone (b.at a (.code c :: .inLoop c :: k)) cs w) b k cs x a' w' := by
    intro n
    induction n using Nat.strongRecOn with
    | _ n ih =>
      intro e w a ha hI
      obtain ⟨x, a₁, w₁, hq, harr⟩ := hr n e w hI a ha b (.inLoop c :: k) cs
      cases x with
      | normal =>
        obtain ⟨e1, h1, m, hm, hI'⟩ := hq
        obtain ⟨x2, a₂, w₂, hq₂, harr₂⟩ := ih m hm e1 w₁ a₁ h1 hI'
        exact ⟨x2, a₂, w₂, hq₂, .of_steps (Steps.trans harr (.one step_inLoop)) harr₂⟩
      | exit id => exact ⟨.exit id, a₁, w₁, hq, .pass (x := .inLoop c) rfl (fun _ _ => .inl (by simp)) harr⟩
      | ret => exact ⟨.ret, a₁, w₁, hq, .pass (x := .inLoop c) rfl (fun _ _ => .inl (by simp)) harr⟩
      | _ => exact hq.elim
  obtain ⟨x, a', w', hq, harr⟩ := key n e w a ha h0
  exact ⟨x, a', w', hq, .of_steps (.one step_loop) harr⟩
end

/-! ### Into a function and out of it -/
def env0 (args : List Value) : Env := fun t => args.getD t undef
/-- What the result slots hold in the end. -/
inductive Res (P : Program) (e : Env) (w : World) : List ResultVar → List Value → Prop
  | nil : Res P e w [] []
  | tmp {t : Nat} {v : Value} {rs : List ResultVar} {vs : List Value} (h : e t = v) (r : Res P e w rs vs) : Res P e w (.tmp t :: rs) (v :: vs)
  | cell {t : Nat} {ty : TypeId} {p : Addr} {v : Value} {rs : List ResultVar} {vs : List Value} (h : e t = .pointer (some p)) (hl : (loadVar ty p).run P w = .ok v w) (r : Res P e w rs vs) : Res P e w (.cell t ty :: rs) (v :: vs)
def tup : List Value → Value
  | [v] => v
  | vs => .tuple vs.toArray
def retQ (P : Program) (rs : List ResultVar) (R : Ending → World → Prop) : Ex → Env → World → Prop
  | .ex _, _, _ => False
  | _, e, w => ∃ vs, Res P e w rs vs ∧ R (.returned (tup vs)) w
def okR (N : Nat) : ResultVar → Bool
  | .tmp t => Nat.blt t N
  | .cell t _ => Nat.blt t N
def resOne (tmps : Array Value) : ResultVar → Sem Value
  | .tmp t => pure (tmps.getD t undef)
  | .cell a t => do loadVar t (← asAddr (tmps.getD a undef))
theorem Res.spec {N : Nat} {P : Program} {a : Act} {e : Env} {w : World} (ha : Rel N a e) {rs : List ResultVar} {vs : List Value} (h : Res P e w rs vs) (hf : rs.all (okR N) = true) :
    (rs.mapM (resOne a.tmps)).run P w = .ok vs w := by
  induction h with
  | nil => simp
  | tmp h r ih =>
    simp only [List.all_cons, Bool.and_eq_true] at hf
    have h1 := ha.t _ (by simpa [okR] using hf.1)
    simp only [List.mapM_cons, Sem.run_bind, resOne, Sem.run_pure, Result.andThen_ok, ih hf.2, h1, h]
  | cell h hl r ih =>
    simp only [List.all_cons, Bool.and_eq_true] at hf
    have h1 := ha.t _ (by simpa [okR] using hf.1)
    simp only [List.mapM_cons, Sem.run_bind, resOne, Sem.run_pure, Result.andThen_ok, ih hf.2, h1, h, asAddr, hl]
theorem results_eq (fn : Func) (tmps : Array Value) : results fn tmps = (do
    let vs ← fn.results.mapM (resOne tmps)
    pure (if h : vs.size = 1 then vs[0] else .tuple vs)) := by
  unfold results
  congr 1
theorem tup_eq (vs : List Value) : (if h : vs.toArray.size = 1 then vs.toArray[0] else Value.tuple vs.toArray) = tup vs := by
  match vs with
  | [] => rfl
  | [v] => rfl
  | _ :: _ :: _ => rfl
theorem resV_spec {N : Nat} {a : Act} {e : Env} (ha : Rel N a e) {fn : Func} {rs : List ResultVar} (hrs : fn.results = rs.toArray) (hf : rs.all (okR N) = true)
    {P : Program} {w : World} {vs : List Value} (hv : Res P e w rs vs) : (results fn a.tmps).run P w = .ok (tup vs) w := by
  rw [results_eq, hrs, List.mapM_toArray]
  simp only [Sem.run_bind, map_eq_pure_bind, hv.spec ha hf, Result.andThen_ok, Sem.run_pure, tup_eq]
theorem calls_of_WE {P : Program} {f : FuncId} {fn : Func} {c : Code} {N : Nat} {args : List Value} {w : World} {R : Ending → World → Prop} {rs : List ResultVar}
    (hf : P.funcs[f]? = some fn) (hb : fn.body = some c) (hN : fn.ntmps = N) (ha : Nat.ble args.length N = true) (hrs : fn.results = rs.toArray)
    (hok : rs.all (okR N) = true)
    (h : WE P N c (retQ P rs R) (env0 args) w) : Calls P f args.toArray w R := by
  have hle : args.length ≤ N := Nat.le_of_ble_eq_true ha
  refine calls_of_wp hf hb (wp_mono (h _ ?_) ?_)
  · refine ⟨rfl, ?_, fun t ht => ?_⟩
    · simp [hN]; omega
    · simp only [env0, hN, List.size_toArray]
      rw [Array.getD_eq_getD_getElem?, List.getD_eq_getElem?_getD, Array.getElem?_append]
      split
      · simp
      · rename_i hge
        rw [Array.getElem?_replicate]
        simp only [List.size_toArray, Nat.not_lt] at hge
        rw [List.getElem?_eq_none hge]
        split <;> simp
  · intro x a w hx
    cases x with
    | normal =>
      obtain ⟨e, h1, v, h2, h3⟩ := hx
      exact ⟨h1.d, _, resV_spec h1 hrs hok h2, h3⟩
    | ret =>
      obtain ⟨e, h1, v, h2, h3⟩ := hx
      exact ⟨h1.d, _, resV_spec h1 hrs hok h2, h3⟩
    | exit i => obtain ⟨e, h1, h2⟩ := hx; exact h2.elim
    | _ => exact hx.elim
attribute [irreducible] WE LE DE One OpE
end Go.Sp
