/-
  Sums and products of floats that may be no number.
-/
import Derived.Test.YtkbfpjkikjmmeaaSpFlo
namespace Go.Sp
set_option linter.unusedVariables false
set_option linter.unusedSimpArgs false
/-- The bits of what is no number. -/
def nanOf (t : Nat) : Nat := (t % 2) * 9223372036854775808 + 9218868437227405312 + 1 + (t / 2) % 4503599627370495
namespace M
def fw (op : BinOp) (a b : Nat) (w : World) (K : Nat → World → Prop) : Prop :=
  (∀ r, floatBits op .f64 a b = some r → K r w) ∧ (floatBits op .f64 a b = none → ∀ t, K (nanOf t) w.drew)
theorem fw_use {P : Program} {op : BinOp} {a b : Nat} {w : World} {K : Nat → World → Prop} (t : TypeId) (ho : op = .add ∨ op = .sub ∨ op = .mul ∨ op = .quo) (h : fw op a b w K) :
    ∃ r w', (binOp op t (.float .f64 a) (.float .f64 b)).run P w = .ok (.float .f64 r) w' ∧ K r w' := by
  cases hf : floatBits op .f64 a b with
  | some r => exact ⟨r, w, run_float_arith w op t .f64 a b r hf, h.1 r hf⟩
  | none =>
    refine ⟨_, _, ?_, h.2 hf ((w.tape w.drawn (.nanBits .f64 a b)))⟩
    unfold floatBits at hf
    rcases ho with rfl | rfl | rfl | rfl <;> simp only at hf <;> (simp only [binOp, Op.floatArith, hf, choose, pure_bind]; rfl)
end M
namespace R
section
variable {P : Program} {ρ : Operand → Value} {d : Option Tmp} {ty : TypeId} {ps : String} {af : Array Edge} {g : Option (Nat × Bool)} {x y z : Operand} {v u : Value} {t t' : TypeId} {k k' : IntKind} {a b r : Nat} {w w' : World}
theorem farithW {op : BinOp} (h : (binOp op t (.float .f64 a) (.float .f64 b)).run P w = .ok (.float .f64 r) w') (hx : ρ x = .float .f64 a) (hy : ρ y = .float .f64 b) : (execOp ρ ⟨d, .binOp op t x y t', ty, ps, af, g⟩).run P w = .ok (.value (.float .f64 r)) w' := by
  simp [execOp, hx, hy, eqGuard_flo, h]
end
end R
end Go.Sp
