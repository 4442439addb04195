/-
  From 'reads as data' to plain words on memory, by the type's shape; and the row of a law out of its contract.
-/
import Derived.Test.YtflffabmfoldeaaSpNum
import Derived.ProofKit
import Derived.SizedLaws
namespace Go.Sp
set_option linter.unusedVariables false
set_option linter.unusedSimpArgs false
open Go.RowKit (Below)

mutual
inductive Sh where
  | int (k : IntKind)
  | bool
  | flo
  | slice (es : ShL)
inductive ShL where
  | nil
  | cons (s : Sh) (l : ShL)
end
def ShL.len : ShL → Nat
  | .nil => 0
  | .cons _ l => l.len + 1
def ShL.app : ShL → ShL → ShL
  | .nil, m => m
  | .cons s l, m => .cons s (l.app m)
mutual
/-- A cell that holds a value of this shape, all that it leads to included. -/
def Gd (w : World) : Sh → Value → Prop
  | .int k, v => ∃ n, v = .int k n ∧ k.min ≤ n ∧ n ≤ k.max
  | .bool, v => ∃ b, v = .bool b
  | .flo, v => ∃ n, v = .float .f64 n ∧ n < 18446744073709551616
  | .slice es, v => ∃ (s : SV) (vs : List Value), v = s.v ∧ Rd es.len w s vs ∧ s.cap ≤ maxLen ∧ ∀ i, i < s.len → GdL w es ((vs.drop (i * es.len)).take es.len)
def GdL (w : World) : ShL → List Value → Prop
  | .nil, vs => vs = []
  | .cons s l, vs => ∃ v r, vs = v :: r ∧ Gd w s v ∧ GdL w l r
end
theorem GdL.app {w : World} : ∀ {l m : ShL} {a b : List Value}, GdL w l a → GdL w m b → GdL w (l.app m) (a ++ b)
  | .nil, m, a, b, h, h' => by simp only [GdL] at h; subst h; simpa [ShL.app] using h'
  | .cons s l, m, a, b, h, h' => by
    simp only [GdL] at h
    obtain ⟨v, r, rfl, h1, h2⟩ := h
    simp only [ShL.app, GdL]
    exact ⟨v, r ++ b, rfl, h1, GdL.app h2 h'⟩
theorem GdL.length {w : World} : ∀ {l : ShL} {a : List Value}, GdL w l a → a.length = l.len
  | .nil, a, h => by simp only [GdL] at h; subst h; rfl
  | .cons s l, a, h => by
    simp only [GdL] at h
    obtain ⟨v, r, rfl, h1, h2⟩ := h
    simp [ShL.len, GdL.length h2]
theorem ShL.app_len : ∀ l m : ShL, (l.app m).len = l.len + m.len
  | .nil, m => by simp [ShL.app, ShL.len]
  | .cons s l, m => by simp only [ShL.app, ShL.len, ShL.app_len l m]; omega

/-- The fields' shapes, one behind the other, where they lie so. -/
def fieldsSh (f : TypeId → Option ShL) (cells : TypeId → Nat) : List Field → Nat → Option ShL
  | [], _ => some .nil
  | x :: xs, at_ =>
    match f x.type, fieldsSh f cells xs (at_ + cells x.type) with
    | some a, some b => if x.offset = at_ ∧ a.len = cells x.type then some (a.app b) else none
    | _, _ => none
def shapeOf (P : Program) : Nat → TypeId → Option ShL
  | 0, _ => none
  | n + 1, t =>
    match P.underlying t with
    | some (.int k) => some (.cons (.int k) .nil)
    | some .bool => some (.cons .bool .nil)
    | some (.float .f64) => some (.cons .flo .nil)
    | some (.slice e) => (match shapeOf P n e with
      | some es => if es.len = P.cellsOf e then some (.cons (.slice es) .nil) else none
      | none => none)
    | some (.struct fs) => (match fieldsSh (shapeOf P n) P.cellsOf fs.toList 0 with
      | some l => if l.len = P.cellsOf t then some l else none
      | none => none)
    | _ => none

section
variable {H : Type} {enc : TypeId × Value → H} {P : Program} {w : World}
theorem fields_good {f : TypeId → Option ShL} {m : Nat} (ih : ∀ t sh cs x, f t = some sh → DataW.trod enc P w 0 (fun _ => true) true m t cs = some x → GdL w sh cs) :
    ∀ (xs : List Field) (at_ : Nat) (sh : ShL) (cs : List Value), fieldsSh f P.cellsOf xs at_ = some sh → cs.length = at_ + sh.len →
      (∀ x ∈ xs, ∃ y, DataW.trod enc P w 0 (fun _ => true) true m x.type ((cs.drop x.offset).take (P.cellsOf x.type)) = some y) → GdL w sh (cs.drop at_)
  | [], at_, sh, cs, h, hl, _ => by
    simp only [fieldsSh, Option.some.injEq] at h
    subst h
    simp only [GdL]
    apply List.eq_nil_of_length_eq_zero
    simp [hl, ShL.len]
  | x :: xs, at_, sh, cs, h, hl, hx => by
    simp only [fieldsSh] at h
    split at h <;> try (simp at h; done)
    rename_i a b ha hb
    split at h <;> try (simp at h; done)
    rename_i hc
    simp only [Option.some.injEq] at h
    subst h
    obtain ⟨y, hy⟩ := hx x (by simp)
    have h1 := ih _ _ _ _ ha hy
    rw [ShL.app_len] at hl
    have h2 := fields_good ih xs (at_ + P.cellsOf x.type) b cs hb (by omega) (fun z hz => hx z (by simp [hz]))
    have h3 := GdL.app h1 h2
    have he : (cs.drop x.offset).take (P.cellsOf x.type) ++ cs.drop (at_ + P.cellsOf x.type) = cs.drop at_ := by
      rw [hc.1, ← List.drop_drop, List.take_append_drop]
    rw [he] at h3
    exact h3
theorem trod_good : ∀ (n m : Nat) (t : TypeId) (sh : ShL) (cs : List Value) (x : DataW H × List MemPlace), shapeOf P n t = some sh → DataW.trod enc P w 0 (fun _ => true) true m t cs = some x → GdL w sh cs
  | 0, _, _, _, _, _, h, _ => by simp [shapeOf] at h
  | n + 1, 0, _, _, _, _, _, h => by simp [DataW.trod] at h
  | n + 1, m + 1, t, sh, cs, x, hs, h => by
    simp only [shapeOf] at hs
    split at hs <;> try (simp at hs; done)
    · rename_i k hu
      simp only [Option.some.injEq] at hs; subst hs
      unfold DataW.trod at h
      rw [hu] at h
      split at h <;> simp_all
      rename_i k' n' hk
      obtain ⟨⟨rfl, hwf⟩, _⟩ := h
      simp only [GdL, Gd, List.cons.injEq]
      simp only [Lit.wf, Bool.and_eq_true, decide_eq_true_eq] at hwf
      exact ⟨_, _, ⟨rfl, rfl⟩, ⟨_, rfl, hwf⟩, rfl⟩
    · rename_i hu
      simp only [Option.some.injEq] at hs; subst hs
      unfold DataW.trod at h
      rw [hu] at h
      split at h <;> simp_all
      simp [GdL, Gd]
    · rename_i hu
      simp only [Option.some.injEq] at hs; subst hs
      unfold DataW.trod at h
      rw [hu] at h
      split at h <;> simp_all
      rename_i hk'
      subst hk'
      obtain ⟨⟨_, hwf⟩, _⟩ := h
      simp only [Lit.wf, decide_eq_true_eq] at hwf
      simp only [GdL, Gd]
      exact ⟨_, _, rfl, ⟨_, rfl, hwf⟩, rfl⟩
    · rename_i e hu
      split at hs <;> try (simp at hs; done)
      rename_i es he
      split at hs <;> try (simp at hs; done)
      rename_i hlen
      simp only [Option.some.injEq] at hs; subst hs
      rcases DataW.trod_slice hu h with ⟨rfl, _⟩ | ⟨a, len, cap, elems, rest, m', hm', rfl, _, _, hlc, hcm, hel, hx, _, _⟩
      · simp only [GdL, Gd]
        exact ⟨_, _, rfl, ⟨SV.nil, [], rfl, Rd.nil _ _, by simp [maxLen], fun i hi => by simp at hi⟩, rfl⟩
      · have hi : ∀ i, i < len → ∃ cs', w.cells? 0 (a.add (i * es.len)) es.len = some cs' ∧ GdL w es cs' := by
          intro i hi
          have h1 := hx i hi
          rw [← hlen, List.getElem?_eq_getElem (by omega)] at h1
          obtain ⟨cs', h2, h3⟩ := Option.bind_eq_some_iff.1 h1
          exact ⟨cs', h2, trod_good n m' e es cs' _ he h3⟩
        have hcell : ∀ k, k < len * es.len → ∃ v, w.cell? (a.add k) = some v := by
          intro k hk
          have hpos : 0 < es.len := by
            rcases Nat.eq_zero_or_pos es.len with h0 | h0
            · rw [h0] at hk; simp at hk
            · exact h0
          have hdiv : k / es.len < len := Nat.div_lt_of_lt_mul (by rw [Nat.mul_comm]; exact hk)
          obtain ⟨cs', h2, h3⟩ := hi _ hdiv
          obtain ⟨_, h4, h5⟩ := World.cells?_some h2
          have h6 := h5 (k % es.len) (Nat.mod_lt _ hpos)
          rw [add_add, Nat.div_add_mod'] at h6
          rw [h6, List.getElem?_eq_getElem (by rw [h4]; exact Nat.mod_lt _ hpos)]
          exact ⟨_, rfl⟩
        simp only [GdL, Gd]
        refine ⟨_, _, rfl, ⟨⟨some a, len, cap⟩, (List.range (len * es.len)).map fun k => (w.cell? (a.add k)).getD undef, rfl, ⟨by simp, hlc, fun hn => by simp at hn, fun a' ha' i v hv => ?_⟩, hcm, fun i hi' => ?_⟩, rfl⟩
        · simp only [Option.some.injEq] at ha'
          subst ha'
          simp only [List.getElem?_map] at hv
          have hlt : i < len * es.len := by
            rcases Nat.lt_or_ge i (len * es.len) with h0 | h0
            · exact h0
            · rw [List.getElem?_eq_none (by simpa using h0)] at hv; simp at hv
          obtain ⟨v', hv'⟩ := hcell i hlt
          rw [List.getElem?_range hlt] at hv
          simp [hv'] at hv
          subst hv
          exact hv'
        · simp only [] at hi'
          obtain ⟨cs', h2, h3⟩ := hi i hi'
          obtain ⟨_, h4, h5⟩ := World.cells?_some h2
          have heq : ((((List.range (len * es.len)).map fun k => (w.cell? (a.add k)).getD undef).drop (i * es.len)).take es.len) = cs' := by
            apply List.ext_getElem?
            intro j
            rw [List.getElem?_take]
            split
            · rename_i hj
              rw [List.getElem?_drop, List.getElem?_map]
              have hlt : i * es.len + j < len * es.len := by
                have : (i + 1) * es.len ≤ len * es.len := Nat.mul_le_mul_right _ hi'
                rw [Nat.add_mul] at this; omega
              rw [List.getElem?_range hlt]
              have h6 := h5 j hj
              rw [add_add] at h6
              rw [Option.map_some, h6, List.getElem?_eq_getElem (by omega)]
              simp
            · rename_i hj
              rw [List.getElem?_eq_none (by omega)]
          rw [heq]
          exact h3
    · rename_i fs hu
      split at hs <;> try (simp at hs; done)
      rename_i l hl
      split at hs <;> try (simp at hs; done)
      rename_i hlen
      simp only [Option.some.injEq] at hs; subst hs
      obtain ⟨xs, m', hm', _, hcl, hxl, hx⟩ := DataW.trod_struct hu h
      obtain rfl : m = m' := by omega
      have := fields_good (enc := enc) (P := P) (w := w) (f := shapeOf P n) (m := m) (fun t sh cs x h1 h2 => trod_good n m t sh cs x h1 h2) fs.toList 0 l cs hl (by rw [hcl, hlen]; omega) (fun f hf => by
        obtain ⟨i, hi, hif⟩ := List.getElem_of_mem hf
        have hi' : i < fs.size := by simpa using hi
        have h1 := hx i f (by rw [Array.getElem?_eq_getElem hi']; simpa using hif)
        rw [List.getElem?_eq_getElem (by omega)] at h1
        exact ⟨_, h1⟩)
      simpa using this

def structB (P : Program) (t : TypeId) : Bool := match P.underlying t with
  | some (.struct _) => true
  | _ => false
theorem okWide_cells {n : Nat} {t : TypeId} {sh : ShL} {base : Nat} {v : Value} (hs : shapeOf P n t = some sh) (hb : structB P t = false) (h : Value.okWide P w .any base t v) : v.cells = #[v] := by
  cases n with
  | zero => simp [shapeOf] at hs
  | succ n =>
    simp only [shapeOf] at hs
    split at hs <;> try (simp at hs; done)
    · rename_i k hu
      obtain ⟨n, rfl⟩ := WideShapes.okWide_int hu h
      rfl
    · rename_i hu
      obtain ⟨n, rfl⟩ := WideShapes.okWide_bool hu h
      rfl
    · rename_i hu
      simp only [Value.okWide, hu, Cell.okWide] at h
      cases v <;> simp_all [Cell.ok] <;> rfl
    · rename_i hu
      obtain ⟨a, l, c, rfl⟩ := WideShapes.okWide_slice hu h
      rfl
    · rename_i fs hu
      simp [structB, hu] at hb
/-- The arguments' shapes; is it a struct. -/
def GdArgs (w : World) : List (Bool × ShL) → List Value → Prop
  | [], vs => vs = []
  | s :: l, vs => ∃ v r, vs = v :: r ∧ (s.1 = false → v.cells = #[v]) ∧ (s.1 = true → ∃ cs, v = .agg cs) ∧ GdL w s.2 v.cells.toList ∧ GdArgs w l r
theorem trodAll_good {n base : Nat} : ∀ {ts : List TypeId} {shs : List (Bool × ShL)} {vs : List Value} {ds : List (DataW H)} {ps : List MemPlace}, ts.map (fun t => (shapeOf P n t).map fun s => (structB P t, s)) = shs.map some →
    (∀ (j : Nat) t v, ts[j]? = some t → vs[j]? = some v → Value.okWide P w .any base t v) → DataW.TrodAll enc P w 0 (fun _ => true) true ts vs ds ps → GdArgs w shs vs
  | [], [], vs, ds, ps, _, _, h => by
    cases vs <;> cases ds <;> simp_all [DataW.TrodAll, GdArgs]
  | [], _ :: _, _, _, _, h, _, _ => by simp at h
  | _ :: _, [], _, _, _, h, _, _ => by simp at h
  | t :: ts, sh :: shs, vs, ds, ps, hs, hv, h => by
    simp only [List.map_cons, List.cons.injEq] at hs
    match vs, ds, h, hv with
    | v :: vs, d :: ds, h, hv =>
      obtain ⟨p, q, ⟨fuel, h1⟩, h2, _⟩ := h
      obtain ⟨s, hs1, rfl⟩ := Option.map_eq_some_iff.1 hs.1
      have hv0 := hv 0 t v rfl rfl
      refine ⟨v, vs, rfl, fun hb => okWide_cells hs1 hb hv0, fun hb => ?_, trod_good n fuel t s _ _ hs1 h1, trodAll_good hs.2 (fun j t v h3 h4 => hv (j + 1) t v h3 h4) h2⟩
      simp only [structB] at hb
      split at hb
      · rename_i fs hu
        obtain ⟨cs, h5, _⟩ := WideShapes.okWide_struct hu hv0
        exact ⟨cs, h5⟩
      · simp at hb
theorem trodAll_stays (hl : laidOutB P = true) {W W' : World} (hb : Below W.heap.size W W') : ∀ {ts : List TypeId} {vs : List Value} {ds : List (DataW H)} {ps : List MemPlace}, (ts.all fun t => P.readableRec t && decide (t < P.types.size)) = true →
    DataW.TrodAll enc P W 0 (fun _ => true) true ts vs ds ps → (∀ x ∈ ps, x.block < W.heap.size) → DataW.TrodAll enc P W' 0 (fun b => decide (b < W.heap.size)) true ts vs ds ps
  | [], vs, ds, ps, _, h, _ => by
    cases vs <;> cases ds <;> simp_all [DataW.TrodAll]
  | t :: ts, vs, ds, ps, hr, h, hlt => by
    match vs, ds, h with
    | v :: vs, d :: ds, h =>
      obtain ⟨p, q, h1, h2, rfl⟩ := h
      simp only [List.all_cons, Bool.and_eq_true, decide_eq_true_eq] at hr
      exact ⟨p, q, RowKit.Below.trod hl hr.1.1 hr.1.2 h1 hb (fun x hx => hlt x (by simp [hx])), trodAll_stays hl hb hr.2 h2 (fun x hx => hlt x (by simp [hx])), rfl⟩

/-- A LAW's ROW OUT OF ITS CONTRACT: it answers true and leaves what was there as it was. -/
theorem law_row {C : Checked} {os : Os} {f : FuncId} {fn : Func} {s : ChangeSpec} {fresh handsOn apart : Bool} {n : Nat} {shs : List (Bool × ShL)} {tb : TypeId}
    (own : ownKnob C.prog.godebug = none) (started : os.Started) (noInit : C.prog.inits.idxOf? f = none) (hfn : C.prog.funcs[f]? = some fn)
    (witness : ∃ (w : World) (tape : Tape) (i : Input), w.os = os ∧ (w.forCall tape i).Shaped C.prog ∧ i.vars = [] ∧ Input.okWide C.prog (w.forCall tape i) .any w.heap.size f i ∧
      s.pre6 enc C.prog fn [] apart (w.forCall tape i).memory i.args ∧ ({} : Assume).holds C.prog (lone (Frame.enter C.prog f i.args .normal) [] (w.forCall tape i)))
    (hl : laidOutB C.prog = true) (hr : (fn.params.toList.all fun t => C.prog.readableRec t && decide (t < C.prog.types.size)) = true)
    (hres : fn.resultTypes = #[tb]) (htb : C.prog.underlying tb = some .bool) (hvars : s.vars = [])
    (hspec : ∀ ds : List (DataW H), ds.length = fn.params.size → (s.fn H (ds ++ [])).results = [.lit (.bool true)] ∧ (s.fn H (ds ++ [])).args = ds ∧ (s.fn H (ds ++ [])).vars = [])
    (hsh : fn.params.toList.map (fun t => (shapeOf C.prog n t).map fun s => (structB C.prog t, s)) = shs.map some)
    (contract : ∀ (W : World) (args : List Value), GdArgs W shs args → Calls C.prog f args.toArray W fun e W' => e = .returned (.bool true) ∧ Below W.heap.size W W') :
    ReturnsInHanded {} C os f .any (s.pre6 enc C.prog fn [] apart) (s.post enc C.prog fn apart fresh handsOn false) := by
  refine returnsInHanded_of_change own started noInit hfn witness ?_
  intro W base args ds gs before hval hW hcnd _
  have hW' := hW
  obtain ⟨p, q, hA, hV, rfl, hfz, hnd⟩ := hW
  rw [hvars] at hV
  obtain ⟨rfl, rfl⟩ := ChangeShapes.trodVars_none hV
  have hlen : ds.length = fn.params.size := by
    have : ∀ {ts : List TypeId} {vs : List Value} {ds : List (DataW H)} {ps : List MemPlace}, DataW.TrodAll enc C.prog W 0 (fun _ => true) true ts vs ds ps → ds.length = ts.length := by
      intro ts
      induction ts with
      | nil => intro vs ds ps h; cases vs <;> cases ds <;> simp_all [DataW.TrodAll]
      | cons t ts ih =>
        intro vs ds ps h
        cases vs <;> cases ds <;> simp only [DataW.TrodAll] at h
        obtain ⟨p, q, _, h2, _⟩ := h
        simp [ih h2]
    simpa using this hA
  obtain ⟨e1, e2, e3⟩ := hspec ds hlen
  have hlt : ∀ x ∈ p, x.block < W.heap.size := fun x hx => hW'.lt x (by simp [hx])
  have hc := contract W args.toList (trodAll_good hsh (fun j t v h1 h2 => hval j t v (by simpa using h1) (by simpa using h2)) hA)
  simp only [Array.toArray_toList] at hc
  refine hc.mono fun e W' ⟨he, hb⟩ => ?_
  subst he
  refine ⟨_, rfl, ds, [], p ++ [], [], p, [], hW', ?_, ?_, ?_, hb.frame _, fun h => by cases h⟩
  · rw [hres, e1]
    exact ChangeShapes.trodAll_mk1 (RowKit.shut_bool htb true)
  · rw [e2]
    exact trodAll_stays hl hb hr hA hlt
  · rw [hvars, e3]
    rfl
end
end Go.Sp
