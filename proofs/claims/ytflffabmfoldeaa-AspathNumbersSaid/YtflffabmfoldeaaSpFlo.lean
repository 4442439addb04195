/-
  Rules for floats: comparisons, sums, products, quotients, conversions.
-/
import Derived.Test.YtflffabmfoldeaaSpMem
import Derived.Laws.FloatArith
import Derived.Laws.Externs
import Derived.KernelRfl
namespace Go.Sp
set_option linter.unusedVariables false
set_option linter.unusedSimpArgs false
def fEql (a b : Nat) : Bool := Ieee.double.order a b == some .eq
def fNeq (a b : Nat) : Bool := Ieee.double.order a b != some .eq
def fLss (a b : Nat) : Bool := Ieee.double.order a b == some .lt
def fGtr (a b : Nat) : Bool := Ieee.double.order a b == some .gt
def fLeq (a b : Nat) : Bool := Ieee.double.order a b == some .lt || Ieee.double.order a b == some .eq
def fGeq (a b : Nat) : Bool := Ieee.double.order a b == some .gt || Ieee.double.order a b == some .eq
def fOfInt (n : Int) : Nat := FloatKind.nearest .f64 n
def fNeg (b : Nat) : Nat := b ^^^ 9223372036854775808
namespace M
/-- A sum, difference, product or quotient that is a number. -/
def fl (op : BinOp) (a b : Nat) (K : Nat → Prop) : Prop := ∃ r, floatBits op .f64 a b = some r ∧ K r
/-- A float cut to a whole number that its kind has. -/
def f2i (b : Nat) (k : IntKind) (K : Int → Prop) : Prop := ∃ n, floatToIntVal .f64 b k = some n ∧ K n
end M
namespace R
section
variable {P : Program} {ρ : Operand → Value} {d : Option Tmp} {ty : TypeId} {ps : String} {af : Array Edge} {g : Option (Nat × Bool)} {x y z : Operand} {v u : Value} {t t' : TypeId} {k k' : IntKind} {a b r : Nat}
theorem eqGuard_flo (op : BinOp) (w : World) : (eqGuard op t x y (.float .f64 a) (.float .f64 b)).run P w = .ok () w := by
  unfold eqGuard; split <;> simp
theorem bin_flo {op : BinOp} (hx : ρ x = .float .f64 a) (hy : ρ y = .float .f64 b) (hr : ∀ w, (binOp op t (.float .f64 a) (.float .f64 b)).run P w = .ok v w) (w : World) :
    (execOp ρ ⟨d, .binOp op t x y t', ty, ps, af, g⟩).run P w = .ok (.value v) w := by
  simp [execOp, hx, hy, eqGuard_flo, hr]
theorem feql (hx : ρ x = .float .f64 a) (hy : ρ y = .float .f64 b) (w : World) : (execOp ρ ⟨d, .binOp .eql t x y t', ty, ps, af, g⟩).run P w = .ok (.value (.bool (fEql a b))) w :=
  bin_flo hx hy (fun w => by rw [binOp_float_cmp_eql]; rfl) w
theorem fneq (hx : ρ x = .float .f64 a) (hy : ρ y = .float .f64 b) (w : World) : (execOp ρ ⟨d, .binOp .neq t x y t', ty, ps, af, g⟩).run P w = .ok (.value (.bool (fNeq a b))) w :=
  bin_flo hx hy (fun w => by rw [binOp_float_cmp_neq]; rfl) w
theorem flss (hx : ρ x = .float .f64 a) (hy : ρ y = .float .f64 b) (w : World) : (execOp ρ ⟨d, .binOp .lss t x y t', ty, ps, af, g⟩).run P w = .ok (.value (.bool (fLss a b))) w :=
  bin_flo hx hy (fun w => by rw [binOp_float_cmp_lss]; rfl) w
theorem fleq (hx : ρ x = .float .f64 a) (hy : ρ y = .float .f64 b) (w : World) : (execOp ρ ⟨d, .binOp .leq t x y t', ty, ps, af, g⟩).run P w = .ok (.value (.bool (fLeq a b))) w :=
  bin_flo hx hy (fun w => by rw [binOp_float_cmp_leq]; rfl) w
theorem fgtr (hx : ρ x = .float .f64 a) (hy : ρ y = .float .f64 b) (w : World) : (execOp ρ ⟨d, .binOp .gtr t x y t', ty, ps, af, g⟩).run P w = .ok (.value (.bool (fGtr a b))) w :=
  bin_flo hx hy (fun w => by rw [binOp_float_cmp_gtr]; rfl) w
theorem fgeq (hx : ρ x = .float .f64 a) (hy : ρ y = .float .f64 b) (w : World) : (execOp ρ ⟨d, .binOp .geq t x y t', ty, ps, af, g⟩).run P w = .ok (.value (.bool (fGeq a b))) w :=
  bin_flo hx hy (fun w => by rw [binOp_float_cmp_geq]; rfl) w
theorem farith {op : BinOp} (h : floatBits op .f64 a b = some r) (hx : ρ x = .float .f64 a) (hy : ρ y = .float .f64 b) (w : World) : (execOp ρ ⟨d, .binOp op t x y t', ty, ps, af, g⟩).run P w = .ok (.value (.float .f64 r)) w :=
  bin_flo hx hy (fun w => run_float_arith w op t .f64 a b r h) w
theorem fneg (hx : ρ x = .float .f64 a) (w : World) : (execOp ρ ⟨d, .unOp .neg t x, ty, ps, af, g⟩).run P w = .ok (.value (.float .f64 (fNeg a))) w := by
  simp [execOp, hx, Op.unary, Op.negFloat, fNeg, FloatKind.format, Ieee.double]
theorem i2f {n : Int} (hB : floatB P t' .f64 = true) (hs : intB P t k = true) (hx : ρ x = .int k n) (w : World) : (execOp ρ ⟨d, .convert t t' x, ty, ps, af, g⟩).run P w = .ok (.value (.float .f64 (fOfInt n))) w := by
  unfold floatB at hB
  unfold intB at hs
  split at hB <;> try (simp at hB; done)
  rename_i h
  split at hs <;> try (simp at hs; done)
  rename_i q h'
  simp only [decide_eq_true_eq] at hB hs
  subst hB hs
  have := run_convert_int_float (P := P) w t t' q .f64 n (by rw [h']; rfl) h
  simp only [execOp, hx, Sem.run_bind, this, Result.andThen_ok, Sem.run_pure, fOfInt, floatOfInt]
theorem f2i {n : Int} (hB : intB P t' k = true) (hs : floatB P t .f64 = true) (h : floatToIntVal .f64 a k = some n) (hx : ρ x = .float .f64 a) (w : World) : (execOp ρ ⟨d, .convert t t' x, ty, ps, af, g⟩).run P w = .ok (.value (.int k n)) w := by
  unfold floatB at hs
  unfold intB at hB
  split at hB <;> try (simp at hB; done)
  rename_i h1
  split at hs <;> try (simp at hs; done)
  rename_i h2
  simp only [decide_eq_true_eq] at hB hs
  subst hB hs
  have := run_convert_float_int (P := P) w t t' .f64 _ a n (by rw [h2]; rfl) h1 h
  simp [execOp, hx, this]
theorem f2f (hB : floatB P t' .f64 = true) (hs : floatB P t .f64 = true) (hx : ρ x = .float .f64 a) (w : World) : (execOp ρ ⟨d, .convert t t' x, ty, ps, af, g⟩).run P w = .ok (.value (.float .f64 a)) w := by
  unfold floatB at hs hB
  split at hB <;> try (simp at hB; done)
  rename_i h1
  split at hs <;> try (simp at hs; done)
  rename_i h2
  simp only [decide_eq_true_eq] at hB hs
  subst hB hs
  have := run_convert_float_float (P := P) w t t' .f64 .f64 a a (by rw [h2]; rfl) h1 (by simp [floatToFloatBits])
  simp [execOp, hx, this]
theorem complS {n : Int} (hx : ρ x = .int k n) (hk : k.signed = true := by rfl) (w : World) : (execOp ρ ⟨d, .unOp .xor t x, ty, ps, af, g⟩).run P w = .ok (.value (.int k (bXor k (-1) n))) w := by
  have := compl (P := P) (d := d) (ty := ty) (ps := ps) (af := af) (g := g) (t := t) hx w
  rwa [hk] at this
theorem complU {n : Int} (hx : ρ x = .int k n) (hk : k.signed = false := by rfl) (w : World) : (execOp ρ ⟨d, .unOp .xor t x, ty, ps, af, g⟩).run P w = .ok (.value (.int k (bXor k k.max n))) w := by
  have := compl (P := P) (d := d) (ty := ty) (ps := ps) (af := af) (g := g) (t := t) hx w
  rw [hk] at this
  exact this
theorem callx {f : FuncId} {xs : Array Operand} {args : List Value} {ts : Array TypeId} (h : ∀ w, (callFunc f args.toArray).run P w = .ok (.value v) w) (hx : xs.toList.map ρ = args) (hf : ρ x = .func (.func f) #[] #[]) (w : World) :
    (execOp ρ ⟨d, .call ⟨.value x, xs, ts⟩, ty, ps, af, g⟩).run P w = .ok (.value v) w := by
  have hx' : xs.map ρ = args.toArray := by rw [← hx, ← Array.toList_map, Array.toArray_toList]
  simp [execOp, resolve, hf, hx', Deferred.ofValue, invoke, h]
end
end R
end Go.Sp
