/-
  The operations' rules for the small logic, and the words of the printed formulas.
-/
import Derived.Test.YtflffabmfoldeaaSp
import Derived.WalkSpells
namespace Go.Sp
set_option linter.unusedVariables false
set_option linter.unusedSimpArgs false

/-- A slice's value. -/
structure SV where
  a : Option Addr
  len : Nat
  cap : Nat
@[reducible] def SV.v (s : SV) : Value := .slice s.a s.len s.cap
@[reducible] def SV.nil : SV := ⟨none, 0, 0⟩
def SV.sub (s : SV) (l h size : Nat) : SV := ⟨if s.cap = l then s.a else s.a.map (·.add (l * size)), h - l, s.cap - l⟩
@[reducible] def vI (k : IntKind) (n : Int) : Value := .int k n

def scalarB (P : Program) (t : TypeId) : Bool := match P.underlying t with
  | some (.struct _) | some (.array _ _) | none => false
  | _ => true
def aggB (P : Program) (t : TypeId) : Bool := match P.underlying t with
  | some (.struct _) | some (.array _ _) => true
  | _ => false
def sizeB (P : Program) (t n : Nat) : Bool := match P.info? t with
  | some i => Nat.beq i.size n
  | none => false
def fieldB (P : Program) (t i off : Nat) : Bool := match P.underlying t with
  | some (.struct fs) => (match fs[i]? with
    | some f => Nat.beq f.offset off && (match P.info? f.type with | some i => Nat.ble 1 i.size | none => false)
    | none => false)
  | _ => false
def partB (P : Program) (t i off n : Nat) (agg : Bool) : Bool := match P.underlying t with
  | some (.struct fs) => (match fs[i]? with
    | some f => Nat.beq f.offset off && sizeB P f.type n && (bif agg then aggB P f.type else scalarB P f.type)
    | none => false)
  | _ => false
def sliceB (P : Program) (t e n : Nat) : Bool := match P.underlying t with
  | some (.slice e') => Nat.beq e' e && sizeB P e n
  | _ => false
def arrB (P : Program) (t len e n : Nat) : Bool := match P.underlying t with
  | some (.array l e') => Nat.beq l len && Nat.beq e' e && sizeB P e n
  | _ => false
def intB (P : Program) (t : TypeId) (k : IntKind) : Bool := match P.underlying t with
  | some (.int k') => decide (k' = k)
  | _ => false
def floatB (P : Program) (t : TypeId) (k : FloatKind) : Bool := match P.underlying t with
  | some (.float k') => decide (k' = k)
  | _ => false
def ptrB (P : Program) (t : TypeId) : Bool := match P.underlying t with
  | some (.pointer _) => true
  | _ => false
def boolB (P : Program) (t : TypeId) : Bool := match P.underlying t with
  | some .bool => true
  | _ => false
def bodyB (P : Program) (f : FuncId) : Bool := match P.funcs[f]? with
  | some fn => fn.body.isSome && !(fn.name == "runtime.NumGoroutine")
  | none => false

theorem scalarB_run {P : Program} {t : TypeId} (h : scalarB P t = true) (w : World) : (isAgg t).run P w = .ok false w := by
  unfold scalarB at h
  split at h <;> try (simp at h; done)
  all_goals (
    cases hu : P.underlying t with
    | none => simp_all
    | some d => cases d <;> simp_all [isAgg, underlying])
theorem aggB_run {P : Program} {t : TypeId} (h : aggB P t = true) (w : World) : (isAgg t).run P w = .ok true w := by
  unfold aggB at h
  cases hu : P.underlying t with
  | none => simp_all
  | some d => cases d <;> simp_all [isAgg, underlying]
theorem sizeB_run {P : Program} {t n : Nat} (h : sizeB P t n = true) (w : World) : (sizeOf t).run P w = .ok n w := by
  unfold sizeB at h
  cases hu : P.info? t with
  | none => simp [hu] at h
  | some i =>
    simp only [hu] at h
    have := Nat.eq_of_beq_eq_true h
    subst this
    simp [sizeOf, typeInfo, hu]

namespace R
section
variable {P : Program} {ρ : Operand → Value} {d : Option Tmp} {ty : TypeId} {ps : String} {af : Array Edge} {g : Option (Nat × Bool)} {x y z : Operand} {v u : Value} {t t' : TypeId} {k : IntKind} {a b : Int}
theorem move (h : ρ x = v) (w : World) : (execOp ρ ⟨d, .move x, ty, ps, af, g⟩).run P w = .ok (.value v) w := by simp [execOp, h]
theorem assign (h : ρ x = v) (w : World) : (execOp ρ ⟨d, .assign x, ty, ps, af, g⟩).run P w = .ok (.value v) w := by simp [execOp, h]
theorem pickT (h : ρ x = .bool true) (hy : ρ y = v) (w : World) : (execOp ρ ⟨d, .pick x y z, ty, ps, af, g⟩).run P w = .ok (.value v) w := by simp [execOp, h, hy, asBool]
theorem pickF (h : ρ x = .bool false) (hz : ρ z = v) (w : World) : (execOp ρ ⟨d, .pick x y z, ty, ps, af, g⟩).run P w = .ok (.value v) w := by simp [execOp, h, hz, asBool]
theorem nilC {a : Addr} (h : ρ x = .pointer (some a)) (w : World) : (execOp ρ ⟨d, .nilCheck x, ty, ps, af, g⟩).run P w = .ok (.value (.pointer (some a))) w := by simp [execOp, h]
theorem eqGuard_int (op : BinOp) (t : TypeId) (x y : Operand) (a b : Int) (k k' : IntKind) (w : World) : (eqGuard op t x y (.int k a) (.int k' b)).run P w = .ok () w := by
  unfold eqGuard; split <;> simp
theorem bin_int {op : BinOp} (hx : ρ x = .int k a) (hy : ρ y = .int k b) (hr : ∀ w, (binOp op t (.int k a) (.int k b)).run P w = .ok v w) (w : World) :
    (execOp ρ ⟨d, .binOp op t x y t', ty, ps, af, g⟩).run P w = .ok (.value v) w := by
  simp [execOp, hx, hy, eqGuard_int, hr]
theorem add (hx : ρ x = .int k a) (hy : ρ y = .int k b) (w : World) : (execOp ρ ⟨d, .binOp .add t x y t', ty, ps, af, g⟩).run P w = .ok (.value (.int k (k.wrap (a + b)))) w :=
  bin_int hx hy (fun w => by simp [binOp, Op.intArith]) w
theorem sub (hx : ρ x = .int k a) (hy : ρ y = .int k b) (w : World) : (execOp ρ ⟨d, .binOp .sub t x y t', ty, ps, af, g⟩).run P w = .ok (.value (.int k (k.wrap (a - b)))) w :=
  bin_int hx hy (fun w => by simp [binOp, Op.intArith]) w
theorem mul (hx : ρ x = .int k a) (hy : ρ y = .int k b) (w : World) : (execOp ρ ⟨d, .binOp .mul t x y t', ty, ps, af, g⟩).run P w = .ok (.value (.int k (k.wrap (a * b)))) w :=
  bin_int hx hy (fun w => by simp [binOp, Op.intArith]) w
theorem quo (hx : ρ x = .int k a) (hy : ρ y = .int k b) (hb : b ≠ 0) (w : World) : (execOp ρ ⟨d, .binOp .quo t x y t', ty, ps, af, g⟩).run P w = .ok (.value (.int k (k.wrap (a.tdiv b)))) w :=
  bin_int hx hy (fun w => by simp [binOp, Op.intDiv, hb]) w
theorem rem (hx : ρ x = .int k a) (hy : ρ y = .int k b) (hb : b ≠ 0) (w : World) : (execOp ρ ⟨d, .binOp .rem t x y t', ty, ps, af, g⟩).run P w = .ok (.value (.int k (a.tmod b))) w :=
  bin_int hx hy (fun w => by simp [binOp, Op.intDiv, hb]) w
end
end R
def bAnd (k : IntKind) (a b : Int) : Int := k.wrap (BitVec.ofInt k.bits a &&& BitVec.ofInt k.bits b).toNat
def bOr (k : IntKind) (a b : Int) : Int := k.wrap (BitVec.ofInt k.bits a ||| BitVec.ofInt k.bits b).toNat
def bXor (k : IntKind) (a b : Int) : Int := k.wrap (BitVec.ofInt k.bits a ^^^ BitVec.ofInt k.bits b).toNat
def bAndNot (k : IntKind) (a b : Int) : Int := k.wrap (BitVec.ofInt k.bits a &&& ~~~ BitVec.ofInt k.bits b).toNat
def bShl (k : IntKind) (a n : Int) : Int := k.wrap (a * 2 ^ (min n.toNat k.bits))
def bShr (k : IntKind) (a n : Int) : Int := a.fdiv (2 ^ (min n.toNat k.bits))
def fBits : Option Nat → Nat → Nat
  | some r, _ => r
  | none, q => q
namespace R
section
variable {P : Program} {ρ : Operand → Value} {d : Option Tmp} {ty : TypeId} {ps : String} {af : Array Edge} {g : Option (Nat × Bool)} {x y z : Operand} {v u : Value} {t t' : TypeId} {k k' : IntKind} {a b : Int} {w0 : World}
theorem and (hx : ρ x = .int k a) (hy : ρ y = .int k b) (w : World) : (execOp ρ ⟨d, .binOp .and t x y t', ty, ps, af, g⟩).run P w = .ok (.value (.int k (bAnd k a b))) w :=
  bin_int hx hy (fun w => by simp [binOp, Op.intBits, bAnd]) w
theorem or (hx : ρ x = .int k a) (hy : ρ y = .int k b) (w : World) : (execOp ρ ⟨d, .binOp .or t x y t', ty, ps, af, g⟩).run P w = .ok (.value (.int k (bOr k a b))) w :=
  bin_int hx hy (fun w => by simp [binOp, Op.intBits, bOr]) w
theorem xor (hx : ρ x = .int k a) (hy : ρ y = .int k b) (w : World) : (execOp ρ ⟨d, .binOp .xor t x y t', ty, ps, af, g⟩).run P w = .ok (.value (.int k (bXor k a b))) w :=
  bin_int hx hy (fun w => by simp [binOp, Op.intBits, bXor]) w
theorem andNot (hx : ρ x = .int k a) (hy : ρ y = .int k b) (w : World) : (execOp ρ ⟨d, .binOp .andNot t x y t', ty, ps, af, g⟩).run P w = .ok (.value (.int k (bAndNot k a b))) w :=
  bin_int hx hy (fun w => by simp [binOp, Op.intBits, bAndNot]) w
theorem shl (hx : ρ x = .int k a) (hy : ρ y = .int k' b) (hb : 0 ≤ b) (w : World) : (execOp ρ ⟨d, .binOp .shl t x y t', ty, ps, af, g⟩).run P w = .ok (.value (.int k (bShl k a b))) w := by
  have : ¬ b < 0 := by omega
  simp [execOp, hx, hy, eqGuard_int, binOp, Op.shift, bShl, this]
theorem shr (hx : ρ x = .int k a) (hy : ρ y = .int k' b) (hb : 0 ≤ b) (w : World) : (execOp ρ ⟨d, .binOp .shr t x y t', ty, ps, af, g⟩).run P w = .ok (.value (.int k (bShr k a b))) w := by
  have : ¬ b < 0 := by omega
  simp [execOp, hx, hy, eqGuard_int, binOp, Op.shift, bShr, this]
theorem eql (hx : ρ x = .int k a) (hy : ρ y = .int k b) (w : World) : (execOp ρ ⟨d, .binOp .eql t x y t', ty, ps, af, g⟩).run P w = .ok (.value (.bool (a == b))) w :=
  bin_int hx hy (fun w => by simp [binOp, Op.intCmp]) w
theorem neq (hx : ρ x = .int k a) (hy : ρ y = .int k b) (w : World) : (execOp ρ ⟨d, .binOp .neq t x y t', ty, ps, af, g⟩).run P w = .ok (.value (.bool (a != b))) w :=
  bin_int hx hy (fun w => by simp [binOp, Op.intCmp]) w
theorem lss (hx : ρ x = .int k a) (hy : ρ y = .int k b) (w : World) : (execOp ρ ⟨d, .binOp .lss t x y t', ty, ps, af, g⟩).run P w = .ok (.value (.bool (decide (a < b)))) w :=
  bin_int hx hy (fun w => by simp [binOp, Op.intCmp]) w
theorem leq (hx : ρ x = .int k a) (hy : ρ y = .int k b) (w : World) : (execOp ρ ⟨d, .binOp .leq t x y t', ty, ps, af, g⟩).run P w = .ok (.value (.bool (decide (a ≤ b)))) w :=
  bin_int hx hy (fun w => by simp [binOp, Op.intCmp]) w
theorem gtr (hx : ρ x = .int k a) (hy : ρ y = .int k b) (w : World) : (execOp ρ ⟨d, .binOp .gtr t x y t', ty, ps, af, g⟩).run P w = .ok (.value (.bool (decide (b < a)))) w :=
  bin_int hx hy (fun w => by simp [binOp, Op.intCmp]) w
theorem geq (hx : ρ x = .int k a) (hy : ρ y = .int k b) (w : World) : (execOp ρ ⟨d, .binOp .geq t x y t', ty, ps, af, g⟩).run P w = .ok (.value (.bool (decide (b ≤ a)))) w :=
  bin_int hx hy (fun w => by simp [binOp, Op.intCmp]) w
/-! strings -/
variable {s s' : ByteArray}
theorem eqGuard_str (op : BinOp) (w : World) : (eqGuard op t x y (.string s) (.string s')).run P w = .ok () w := by
  unfold eqGuard; split <;> simp
theorem seql (hx : ρ x = .string s) (hy : ρ y = .string s') (w : World) : (execOp ρ ⟨d, .binOp .eql t x y t', ty, ps, af, g⟩).run P w = .ok (.value (.bool (s.toList == s'.toList))) w := by
  simp [execOp, hx, hy, eqGuard_str, binOp, Op.stringOp]
theorem sneq (hx : ρ x = .string s) (hy : ρ y = .string s') (w : World) : (execOp ρ ⟨d, .binOp .neq t x y t', ty, ps, af, g⟩).run P w = .ok (.value (.bool !(s.toList == s'.toList))) w := by
  simp [execOp, hx, hy, eqGuard_str, binOp, Op.stringOp]
theorem sadd (hx : ρ x = .string s) (hy : ρ y = .string s') (h : s.size + s'.size ≤ 9223372036854775807) (w : World) : (execOp ρ ⟨d, .binOp .add t x y t', ty, ps, af, g⟩).run P w = .ok (.value (.string (s ++ s'))) w := by
  have h1 : ¬ ((s.size + s'.size : Nat) : Int) > IntKind.i64.max := by
    have : IntKind.i64.max = 9223372036854775807 := rfl
    rw [this]; omega
  simp only [execOp, hx, hy, Sem.run_bind, Result.andThen_ok, eqGuard_str, binOp, Op.stringOp]
  rw [if_neg h1]; simp
/-! bools -/
theorem eqIn_bool {p q : Bool} (n : Nat) (h : P.underlying t = some .bool) (w : World) : (Op.equalIn (n + 1) t (.bool p) (.bool q)).run P w = .ok (p == q) w := by
  simp [Op.equalIn, underlying, h]
theorem eqIn_ptr {p : Option Addr} {e : TypeId} (n : Nat) (h : P.underlying t = some (.pointer e)) (w : World) : (Op.equalIn (n + 1) t (.pointer p) (.pointer none)).run P w = .ok p.isNone w := by
  cases p <;> simp [Op.equalIn, underlying, h]
theorem eqIn_sl {p : Option Addr} {e : TypeId} {l c : Nat} (n : Nat) (h : P.underlying t = some (.slice e)) (w : World) : (Op.equalIn (n + 1) t (.slice p l c) (.slice none 0 0)).run P w = .ok p.isNone w := by
  cases p <;> simp [Op.equalIn, underlying, h]
theorem equal_in {b : Bool} (h : ∀ n, (Op.equalIn (n + 1) t v u).run P w0 = .ok b w0) : (Op.equal t v u).run P w0 = .ok b w0 := h 9999
theorem bin_eql {b : Bool} (hx : ρ x = v) (hy : ρ y = u) (hg : ∀ w, (eqGuard .eql t x y v u).run P w = .ok () w) (hb : binOp .eql t v u = (do pure (.bool (← Op.equal t v u)))) (h : ∀ n w, (Op.equalIn (n + 1) t v u).run P w = .ok b w) (w : World) :
    (execOp ρ ⟨d, .binOp .eql t x y t', ty, ps, af, g⟩).run P w = .ok (.value (.bool b)) w := by
  have h1 : (Op.equal t v u).run P w = .ok b w := equal_in fun n => h n w
  simp only [execOp, hx, hy, hb, Sem.run_bind, hg, Result.andThen_ok, h1, Sem.run_pure]
theorem bin_neq {b : Bool} (hx : ρ x = v) (hy : ρ y = u) (hg : ∀ w, (eqGuard .neq t x y v u).run P w = .ok () w) (hb : binOp .neq t v u = (do pure (.bool (!(← Op.equal t v u))))) (h : ∀ n w, (Op.equalIn (n + 1) t v u).run P w = .ok b w) (w : World) :
    (execOp ρ ⟨d, .binOp .neq t x y t', ty, ps, af, g⟩).run P w = .ok (.value (.bool (!b))) w := by
  have h1 : (Op.equal t v u).run P w = .ok b w := equal_in fun n => h n w
  simp only [execOp, hx, hy, hb, Sem.run_bind, hg, Result.andThen_ok, h1, Sem.run_pure]
theorem beql {p q : Bool} (hB : boolB P t = true) (hx : ρ x = .bool p) (hy : ρ y = .bool q) (w : World) : (execOp ρ ⟨d, .binOp .eql t x y t', ty, ps, af, g⟩).run P w = .ok (.value (.bool (p == q))) w := by
  unfold boolB at hB; split at hB <;> try (simp at hB; done)
  rename_i h
  exact bin_eql hx hy (fun w => by simp [eqGuard]) rfl (fun n w => eqIn_bool n h w) w
theorem bneq {p q : Bool} (hB : boolB P t = true) (hx : ρ x = .bool p) (hy : ρ y = .bool q) (w : World) : (execOp ρ ⟨d, .binOp .neq t x y t', ty, ps, af, g⟩).run P w = .ok (.value (.bool (!(p == q)))) w := by
  unfold boolB at hB; split at hB <;> try (simp at hB; done)
  rename_i h
  exact bin_neq hx hy (fun w => by simp [eqGuard]) rfl (fun n w => eqIn_bool n h w) w
theorem not {p : Bool} (hx : ρ x = .bool p) (w : World) : (execOp ρ ⟨d, .unOp .not t x, ty, ps, af, g⟩).run P w = .ok (.value (.bool (!p))) w := by
  simp [execOp, hx, Op.unary]
theorem neg (hx : ρ x = .int k a) (w : World) : (execOp ρ ⟨d, .unOp .neg t x, ty, ps, af, g⟩).run P w = .ok (.value (.int k (k.wrap (0 - a)))) w := by
  simp [execOp, hx, Op.unary, Op.intArith]
theorem compl (hx : ρ x = .int k a) (w : World) : (execOp ρ ⟨d, .unOp .xor t x, ty, ps, af, g⟩).run P w = .ok (.value (.int k (bXor k (if k.signed then -1 else k.max) a))) w := by
  simp [execOp, hx, Op.unary, Op.intBits, bXor]
/-! pointers and slices against nil -/
theorem peqNil {p : Option Addr} (hB : ptrB P t = true) (hx : ρ x = .pointer p) (hy : ρ y = .pointer none) (w : World) : (execOp ρ ⟨d, .binOp .eql t x y t', ty, ps, af, g⟩).run P w = .ok (.value (.bool p.isNone)) w := by
  unfold ptrB at hB; split at hB <;> try (simp at hB; done)
  rename_i e h
  exact bin_eql hx hy (fun w => by simp [eqGuard]) rfl (fun n w => eqIn_ptr n h w) w
theorem pneNil {p : Option Addr} (hB : ptrB P t = true) (hx : ρ x = .pointer p) (hy : ρ y = .pointer none) (w : World) : (execOp ρ ⟨d, .binOp .neq t x y t', ty, ps, af, g⟩).run P w = .ok (.value (.bool (!p.isNone))) w := by
  unfold ptrB at hB; split at hB <;> try (simp at hB; done)
  rename_i e h
  exact bin_neq hx hy (fun w => by simp [eqGuard]) rfl (fun n w => eqIn_ptr n h w) w
theorem sleqNil {p : Option Addr} {n c e sz : Nat} (hB : sliceB P t e sz = true) (hx : ρ x = .slice p n c) (hy : ρ y = .slice none 0 0) (w : World) : (execOp ρ ⟨d, .binOp .eql t x y t', ty, ps, af, g⟩).run P w = .ok (.value (.bool p.isNone)) w := by
  unfold sliceB at hB; split at hB <;> try (simp at hB; done)
  rename_i e h
  exact bin_eql hx hy (fun w => by simp [eqGuard]) rfl (fun n w => eqIn_sl n h w) w
theorem slneNil {p : Option Addr} {n c e sz : Nat} (hB : sliceB P t e sz = true) (hx : ρ x = .slice p n c) (hy : ρ y = .slice none 0 0) (w : World) : (execOp ρ ⟨d, .binOp .neq t x y t', ty, ps, af, g⟩).run P w = .ok (.value (.bool (!p.isNone))) w := by
  unfold sliceB at hB; split at hB <;> try (simp at hB; done)
  rename_i e h
  exact bin_neq hx hy (fun w => by simp [eqGuard]) rfl (fun n w => eqIn_sl n h w) w
/-! conversions -/
theorem conv {k2 : IntKind} (hB : intB P t' k2 = true) (hs : intB P t k = true) (hx : ρ x = .int k a) (w : World) : (execOp ρ ⟨d, .convert t t' x, ty, ps, af, g⟩).run P w = .ok (.value (.int k2 (k2.wrap a))) w := by
  unfold intB at hB hs
  split at hB <;> try (simp at hB; done)
  rename_i h
  split at hs <;> try (simp at hs; done)
  rename_i h'
  simp only [decide_eq_true_eq] at hB hs
  subst hB hs
  simp [execOp, hx, convert, underlying, h, h', Conv.intToInt]
/-! addresses -/
theorem fld {i off : Nat} {a : Addr} (hB : fieldB P t i off = true) (hx : ρ x = .pointer (some a)) (w : World) : (execOp ρ ⟨d, .fieldAddr t x i, ty, ps, af, g⟩).run P w = .ok (.value (.pointer (some (a.add off)))) w := by
  unfold fieldB at hB; split at hB <;> try (simp at hB; done)
  rename_i fs h
  split at hB <;> try (simp at hB; done)
  rename_i f hf
  simp only [Bool.and_eq_true] at hB
  obtain ⟨h1, h2⟩ := hB
  split at h2 <;> try (simp at h2; done)
  rename_i inf hi
  have e1 := Nat.eq_of_beq_eq_true h1
  have e2 := Nat.le_of_ble_eq_true h2
  subst e1
  have e3 : ¬ inf.size = 0 := by omega
  simp [execOp, hx, Instr.fieldAt, underlying, h, hf, Instr.sureAddr, fieldPlace, sizeOf, typeInfo, hi, e3]
theorem fieldS {i off n : Nat} {cs : Array Value} {u : Value} (hB : partB P t i off n false = true) (hx : ρ x = .agg cs) (hu : cs[off]? = some u) (w : World) : (execOp ρ ⟨d, .field t x i, ty, ps, af, g⟩).run P w = .ok (.value u) w := by
  unfold partB at hB; split at hB <;> try (simp at hB; done)
  rename_i fs h
  split at hB <;> try (simp at hB; done)
  rename_i f hf
  simp only [Bool.and_eq_true, cond_false] at hB
  obtain ⟨⟨h1, h2⟩, h3⟩ := hB
  have e1 := Nat.eq_of_beq_eq_true h1
  subst e1
  simp [execOp, hx, Instr.field, underlying, h, hf, asAgg, part, scalarB_run h3, hu]
theorem fieldA {i off n : Nat} {cs : Array Value} {us : Array Value} (hB : partB P t i off n true = true) (hx : ρ x = .agg cs) (hu : cs.extract off (off + n) = us) (w : World) : (execOp ρ ⟨d, .field t x i, ty, ps, af, g⟩).run P w = .ok (.value (.agg us)) w := by
  unfold partB at hB; split at hB <;> try (simp at hB; done)
  rename_i fs h
  split at hB <;> try (simp at hB; done)
  rename_i f hf
  simp only [Bool.and_eq_true, cond_true] at hB
  obtain ⟨⟨h1, h2⟩, h3⟩ := hB
  have e1 := Nat.eq_of_beq_eq_true h1
  subst e1
  simp [execOp, hx, Instr.field, underlying, h, hf, asAgg, part, aggB_run h3, sizeB_run h2, hu]
theorem idx {e sz : Nat} {s : SV} {i : Int} {a : Addr} (hB : sliceB P t e sz = true) (hx : ρ x = s.v) (hy : ρ y = .int k i) (ha : s.a = some a) (h0 : 0 ≤ i) (h1 : i < s.len) (w : World) :
    (execOp ρ ⟨d, .indexAddr t x y, ty, ps, af, g⟩).run P w = .ok (.value (.pointer (some (a.add (i.toNat * sz))))) w := by
  unfold sliceB at hB; split at hB <;> try (simp at hB; done)
  rename_i e' h
  simp only [Bool.and_eq_true] at hB
  have e1 := Nat.eq_of_beq_eq_true hB.1
  subst e1
  simp [execOp, hx, hy, Instr.indexAt, asIntOf, underlying, h, ha, h0, h1, sizeB_run hB.2]
theorem idxArr {n e sz : Nat} {i : Int} {a : Addr} (hB : arrB P t n e sz = true) (hx : ρ x = .pointer (some a)) (hy : ρ y = .int k i) (h0 : 0 ≤ i) (h1 : i < n) (w : World) :
    (execOp ρ ⟨d, .indexAddr t x y, ty, ps, af, g⟩).run P w = .ok (.value (.pointer (some (a.add (i.toNat * sz))))) w := by
  unfold arrB at hB; split at hB <;> try (simp at hB; done)
  rename_i l e' h
  simp only [Bool.and_eq_true] at hB
  have e1 := Nat.eq_of_beq_eq_true hB.1.1
  have e2 := Nat.eq_of_beq_eq_true hB.1.2
  subst e1 e2
  simp [execOp, hx, hy, Instr.indexAt, Instr.sureAddr, asIntOf, underlying, h, h0, h1, sizeB_run hB.2]
theorem idxStr {i : Int} {c : UInt8} (hu : P.underlying t = some .string) (hx : ρ x = .string s) (hy : ρ y = .int k i) (h0 : 0 ≤ i) (h1 : s[i.toNat]? = some c) (w : World) :
    (execOp ρ ⟨d, .index t x y, ty, ps, af, g⟩).run P w = .ok (.value (.int .u8 c.toNat)) w := by
  simp [execOp, hx, hy, Instr.index, asIntOf, underlying, hu, h0, h1]
theorem ext {i : Nat} {vs : Array Value} (hx : ρ x = .tuple vs) (hu : vs[i]? = some u) (w : World) : (execOp ρ ⟨d, .extract x i, ty, ps, af, g⟩).run P w = .ok (.value u) w := by
  simp [execOp, hx, Instr.extract, hu]
/-! slices -/
theorem slc (l h : Option Operand) {e sz : Nat} {s : SV} {lo hi : Int} (hB : sliceB P t e sz = true) (hx : ρ x = s.v)
    (hl : match l with | some l => ρ l = .int .i64 lo | none => lo = 0) (hh : match h with | some h => ρ h = .int .i64 hi | none => hi = s.len)
    (h0 : 0 ≤ lo) (h1 : lo ≤ hi) (h2 : hi ≤ s.cap) (w : World) :
    (execOp ρ ⟨d, .slice t x l h none, ty, ps, af, g⟩).run P w = .ok (.value (s.sub lo.toNat hi.toNat sz).v) w := by
  unfold sliceB at hB; split at hB <;> try (simp at hB; done)
  rename_i e' hu
  simp only [Bool.and_eq_true] at hB
  have e1 := Nat.eq_of_beq_eq_true hB.1
  subst e1
  have hb : ∀ w, (Instr.sliceBounds true s.len s.cap (l.map ρ) (h.map ρ) none).run P w = .ok (lo.toNat, hi.toNat, s.cap) w := by
    intro w
    cases l <;> cases h <;> simp only [] at hl hh <;> simp only [Instr.sliceBounds, Option.map_some, Option.map_none, hl, hh] <;> (try subst hl) <;> (try subst hh) <;>
      simp [Instr.sliceBound, asIntOf, h0, h1, h2, Int.le_trans h0 h1]
    · intro hc; omega
  simp [execOp, hx, Instr.sliceAt, Instr.slice, underlying, hu, hb, sizeB_run hB.2, SV.sub]
theorem len {t1 : TypeId} {n : Nat} {p : Option Addr} {c e sz : Nat} (hB : sliceB P t1 e sz = true) (hx : ρ x = .slice p n c) (w : World) :
    (execOp ρ ⟨d, .call ⟨.builtin .len, #[x], #[t1]⟩, ty, ps, af, g⟩).run P w = .ok (.value (.int .i64 n)) w := by
  unfold sliceB at hB; split at hB <;> try (simp at hB; done)
  rename_i e' hu
  simp [execOp, resolve, invoke, builtin, hx, Builtin.len_, underlying, hu, goInt]
theorem cap {t1 : TypeId} {n : Nat} {p : Option Addr} {c e sz : Nat} (hB : sliceB P t1 e sz = true) (hx : ρ x = .slice p n c) (w : World) :
    (execOp ρ ⟨d, .call ⟨.builtin .cap, #[x], #[t1]⟩, ty, ps, af, g⟩).run P w = .ok (.value (.int .i64 c)) w := by
  unfold sliceB at hB; split at hB <;> try (simp at hB; done)
  rename_i e' hu
  simp [execOp, resolve, invoke, builtin, hx, Builtin.cap_, underlying, hu, goInt]
theorem lenStr {t1 : TypeId} (hu : P.underlying t1 = some .string) (hx : ρ x = .string s) (w : World) :
    (execOp ρ ⟨d, .call ⟨.builtin .len, #[x], #[t1]⟩, ty, ps, af, g⟩).run P w = .ok (.value (.int .i64 s.size)) w := by
  simp [execOp, resolve, invoke, builtin, hx, Builtin.len_, underlying, hu, goInt]
end
end R
end Go.Sp
