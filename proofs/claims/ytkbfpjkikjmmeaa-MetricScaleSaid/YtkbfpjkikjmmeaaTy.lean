/-
  The closed facts on types and functions that the printed proofs use, and what comes back from each function.
-/
import Derived.Test.YtkbfpjkikjmmeaaProg
import Derived.Test.YtkbfpjkikjmmeaaSpMem
import Derived.Test.YtkbfpjkikjmmeaaSpFlo
import Derived.Test.YtkbfpjkikjmmeaaSpFn
import Derived.Test.YtkbfpjkikjmmeaaSpNan
import Derived.KernelRfl
namespace Go.Proofs.Ytkbfpjkikjmmeaa
set_option linter.unusedVariables false
set_option linter.unusedSimpArgs false
open Go.Sp
theorem bd10 : bodyB Try.prog 10 = true := by kernel_rfl
theorem bd11 : bodyB Try.prog 11 = true := by kernel_rfl
theorem bd12 : bodyB Try.prog 12 = true := by kernel_rfl
theorem bd13 : bodyB Try.prog 13 = true := by kernel_rfl
theorem bd14 : bodyB Try.prog 14 = true := by kernel_rfl
theorem bd15 : bodyB Try.prog 15 = true := by kernel_rfl
theorem bd16 : bodyB Try.prog 16 = true := by kernel_rfl
theorem bd17 : bodyB Try.prog 17 = true := by kernel_rfl
theorem bd18 : bodyB Try.prog 18 = true := by kernel_rfl
theorem bd20 : bodyB Try.prog 20 = true := by kernel_rfl
theorem bd21 : bodyB Try.prog 21 = true := by kernel_rfl
theorem bd22 : bodyB Try.prog 22 = true := by kernel_rfl
theorem bd23 : bodyB Try.prog 23 = true := by kernel_rfl
theorem bd24 : bodyB Try.prog 24 = true := by kernel_rfl
theorem bd25 : bodyB Try.prog 25 = true := by kernel_rfl
theorem bd26 : bodyB Try.prog 26 = true := by kernel_rfl
theorem bd27 : bodyB Try.prog 27 = true := by kernel_rfl
theorem bd28 : bodyB Try.prog 28 = true := by kernel_rfl
theorem bd29 : bodyB Try.prog 29 = true := by kernel_rfl
theorem bd31 : bodyB Try.prog 31 = true := by kernel_rfl
theorem bd32 : bodyB Try.prog 32 = true := by kernel_rfl
theorem bd33 : bodyB Try.prog 33 = true := by kernel_rfl
theorem bd34 : bodyB Try.prog 34 = true := by kernel_rfl
theorem bd35 : bodyB Try.prog 35 = true := by kernel_rfl
theorem bd36 : bodyB Try.prog 36 = true := by kernel_rfl
theorem bd37 : bodyB Try.prog 37 = true := by kernel_rfl
theorem bd38 : bodyB Try.prog 38 = true := by kernel_rfl
theorem bd39 : bodyB Try.prog 39 = true := by kernel_rfl
theorem bd40 : bodyB Try.prog 40 = true := by kernel_rfl
theorem bd41 : bodyB Try.prog 41 = true := by kernel_rfl
theorem bd42 : bodyB Try.prog 42 = true := by kernel_rfl
theorem bo4 : boolB Try.prog 4 = true := by kernel_rfl
theorem bs22_1 (x0 : Nat) (w : World) : (Instr.buildSlice 22 1 #[(0, (Value.float .f64 x0))]).run Try.prog w = .ok (.slice (some ⟨w.heap.size, 0, none⟩) 1 1) (w.alloc (.cells #[(Value.float .f64 x0)] 26)) := by simp [go_sem]
theorem bs22_15 (x0 : Nat) (x1 : Nat) (x2 : Nat) (x3 : Nat) (x4 : Nat) (x5 : Nat) (x6 : Nat) (x7 : Nat) (x8 : Nat) (x9 : Nat) (x10 : Nat) (x11 : Nat) (x12 : Nat) (x13 : Nat) (x14 : Nat) (w : World) : (Instr.buildSlice 22 15 #[(0, (Value.float .f64 x0)), (1, (Value.float .f64 x1)), (2, (Value.float .f64 x2)), (3, (Value.float .f64 x3)), (4, (Value.float .f64 x4)), (5, (Value.float .f64 x5)), (6, (Value.float .f64 x6)), (7, (Value.float .f64 x7)), (8, (Value.float .f64 x8)), (9, (Value.float .f64 x9)), (10, (Value.float .f64 x10)), (11, (Value.float .f64 x11)), (12, (Value.float .f64 x12)), (13, (Value.float .f64 x13)), (14, (Value.float .f64 x14))]).run Try.prog w = .ok (.slice (some ⟨w.heap.size, 0, none⟩) 15 15) (w.alloc (.cells #[(Value.float .f64 x0), (Value.float .f64 x1), (Value.float .f64 x2), (Value.float .f64 x3), (Value.float .f64 x4), (Value.float .f64 x5), (Value.float .f64 x6), (Value.float .f64 x7), (Value.float .f64 x8), (Value.float .f64 x9), (Value.float .f64 x10), (Value.float .f64 x11), (Value.float .f64 x12), (Value.float .f64 x13), (Value.float .f64 x14)] 26)) := by simp [go_sem]
theorem bs22_2 (x0 : Nat) (x1 : Nat) (w : World) : (Instr.buildSlice 22 2 #[(0, (Value.float .f64 x0)), (1, (Value.float .f64 x1))]).run Try.prog w = .ok (.slice (some ⟨w.heap.size, 0, none⟩) 2 2) (w.alloc (.cells #[(Value.float .f64 x0), (Value.float .f64 x1)] 26)) := by simp [go_sem]
theorem bs22_3 (x0 : Nat) (x1 : Nat) (x2 : Nat) (w : World) : (Instr.buildSlice 22 3 #[(0, (Value.float .f64 x0)), (1, (Value.float .f64 x1)), (2, (Value.float .f64 x2))]).run Try.prog w = .ok (.slice (some ⟨w.heap.size, 0, none⟩) 3 3) (w.alloc (.cells #[(Value.float .f64 x0), (Value.float .f64 x1), (Value.float .f64 x2)] 26)) := by simp [go_sem]
theorem bs22_4 (x0 : Nat) (x1 : Nat) (x2 : Nat) (x3 : Nat) (w : World) : (Instr.buildSlice 22 4 #[(0, (Value.float .f64 x0)), (1, (Value.float .f64 x1)), (2, (Value.float .f64 x2)), (3, (Value.float .f64 x3))]).run Try.prog w = .ok (.slice (some ⟨w.heap.size, 0, none⟩) 4 4) (w.alloc (.cells #[(Value.float .f64 x0), (Value.float .f64 x1), (Value.float .f64 x2), (Value.float .f64 x3)] 26)) := by simp [go_sem]
theorem bs24_3 (x0 : Int) (x1 : Int) (x2 : Int) (w : World) : (Instr.buildSlice 24 3 #[(0, (Value.int .i64 x0)), (1, (Value.int .i64 x1)), (2, (Value.int .i64 x2))]).run Try.prog w = .ok (.slice (some ⟨w.heap.size, 0, none⟩) 3 3) (w.alloc (.cells #[(Value.int .i64 x0), (Value.int .i64 x1), (Value.int .i64 x2)] 3)) := by simp [go_sem]
theorem fo26 : floatB Try.prog 26 .f64 = true := by kernel_rfl
theorem in2 : intB Try.prog 2 .i64 = true := by kernel_rfl
theorem in3 : intB Try.prog 3 .i64 = true := by kernel_rfl
theorem in34 : intB Try.prog 34 .u16 = true := by kernel_rfl
theorem in37 : intB Try.prog 37 .u64 = true := by kernel_rfl
theorem mix : Try.prog.follows .mixedOrders = true := by kernel_rfl
theorem sc26 : scalarB Try.prog 26 = true := by kernel_rfl
theorem sc3 : scalarB Try.prog 3 = true := by kernel_rfl
theorem sc34 : scalarB Try.prog 34 = true := by kernel_rfl
theorem sc4 : scalarB Try.prog 4 = true := by kernel_rfl
theorem sl22 : sliceB Try.prog 22 26 1 = true := by kernel_rfl
theorem sl24 : sliceB Try.prog 24 3 1 = true := by kernel_rfl
theorem sl32 : sliceB Try.prog 32 34 1 = true := by kernel_rfl
theorem sl51 : sliceB Try.prog 51 4 1 = true := by kernel_rfl
theorem sz26 : sizeB Try.prog 26 1 = true := by kernel_rfl
theorem sz3 : sizeB Try.prog 3 1 = true := by kernel_rfl
theorem sz4 : sizeB Try.prog 4 1 = true := by kernel_rfl
theorem xt19 (n : Int) (w : World) : (callFunc 19 #[(.int .u64 n)]).run Try.prog w = .ok (.value (.float .f64 n.toNat)) w := by
  rw [run_callFunc_extern Try.func19 (by kernel_rfl) (by kernel_rfl) (by kernel_rfl) (show Extern.find _ = some Extern.MathFloatBits.float64frombits by kernel_rfl)]; rfl
theorem xt30 (n : Nat) (w : World) : (callFunc 30 #[(.float .f64 n)]).run Try.prog w = .ok (.value (.int .u64 (n : Int))) w := by
  rw [run_callFunc_extern Try.func30 (by kernel_rfl) (by kernel_rfl) (by kernel_rfl) (show Extern.find _ = some Extern.MathFloatBits.float64bits by kernel_rfl)]; rfl
/-- What comes back from signpost.signpostlaw2.MetricShares. -/
def R3 (K : Bool → World → Prop) : Ending → World → Prop := fun e w => ∃ (x0 : Bool), e = .returned (Value.bool x0) ∧ K x0 w
/-- What comes back from signpost.signpostlaw2.MetricScale. -/
def R4 (K : Bool → World → Prop) : Ending → World → Prop := fun e w => ∃ (x0 : Bool), e = .returned (Value.bool x0) ∧ K x0 w
/-- What comes back from signpost.signpostlaw2.MetricPath. -/
def R5 (K : Bool → World → Prop) : Ending → World → Prop := fun e w => ∃ (x0 : Bool), e = .returned (Value.bool x0) ∧ K x0 w
/-- What comes back from signpost.signpostlaw2.MetricTells. -/
def R6 (K : Bool → World → Prop) : Ending → World → Prop := fun e w => ∃ (x0 : Bool), e = .returned (Value.bool x0) ∧ K x0 w
/-- What comes back from signpost.signpostlaw2.MetricBits. -/
def R7 (K : Bool → World → Prop) : Ending → World → Prop := fun e w => ∃ (x0 : Bool), e = .returned (Value.bool x0) ∧ K x0 w
/-- What comes back from signpost.signpostlaw2.MetricRules. -/
def R8 (K : Bool → World → Prop) : Ending → World → Prop := fun e w => ∃ (x0 : Bool), e = .returned (Value.bool x0) ∧ K x0 w
/-- What comes back from signpost.signpostlaw2.MetricNumbers. -/
def R9 (K : Bool → World → Prop) : Ending → World → Prop := fun e w => ∃ (x0 : Bool), e = .returned (Value.bool x0) ∧ K x0 w
/-- What comes back from signpost.signpostbook.Within. -/
def R10 (K : Int → World → Prop) : Ending → World → Prop := fun e w => ∃ (x0 : Int), e = .returned (Value.int .i64 x0) ∧ K x0 w
/-- What comes back from signpost.metric.Shares. -/
def R11 (K : SV → World → Prop) : Ending → World → Prop := fun e w => ∃ (x0 : SV), e = .returned (SV.v x0) ∧ K x0 w
/-- What comes back from signpost.signpostlaw2.known. -/
def R12 (K : Bool → World → Prop) : Ending → World → Prop := fun e w => ∃ (x0 : Bool), e = .returned (Value.bool x0) ∧ K x0 w
/-- What comes back from math.IsInf. -/
def R13 (K : Bool → World → Prop) : Ending → World → Prop := fun e w => ∃ (x0 : Bool), e = .returned (Value.bool x0) ∧ K x0 w
/-- What comes back from signpost.signpostbook.Same[int]. -/
def R14 (K : Bool → World → Prop) : Ending → World → Prop := fun e w => ∃ (x0 : Bool), e = .returned (Value.bool x0) ∧ K x0 w
/-- What comes back from signpost.metric.Add. -/
def R15 (K : Nat → World → Prop) : Ending → World → Prop := fun e w => ∃ (x0 : Nat), e = .returned (Value.float .f64 x0) ∧ K x0 w
/-- What comes back from math.NaN. -/
def R16 (K : Nat → World → Prop) : Ending → World → Prop := fun e w => ∃ (x0 : Nat), e = .returned (Value.float .f64 x0) ∧ K x0 w
/-- What comes back from signpost.metric.Of. -/
def R17 (K : Nat → Bool → World → Prop) : Ending → World → Prop := fun e w => ∃ (x0 : Nat) (x1 : Bool), e = .returned (Value.tuple #[(Value.float .f64 x0), (Value.bool x1)]) ∧ K x0 x1 w
/-- What comes back from signpost.signpostref2.Of. -/
def R18 (K : Nat → Bool → World → Prop) : Ending → World → Prop := fun e w => ∃ (x0 : Nat) (x1 : Bool), e = .returned (Value.tuple #[(Value.float .f64 x0), (Value.bool x1)]) ∧ K x0 x1 w
/-- What comes back from signpost.signpostlaw2.same. -/
def R20 (K : Bool → World → Prop) : Ending → World → Prop := fun e w => ∃ (x0 : Bool), e = .returned (Value.bool x0) ∧ K x0 w
/-- What comes back from signpost.signpostlaw2.bits. -/
def R21 (K : Bool → World → Prop) : Ending → World → Prop := fun e w => ∃ (x0 : Bool), e = .returned (Value.bool x0) ∧ K x0 w
/-- What comes back from signpost.signpostref2.Shares. -/
def R22 (K : SV → World → Prop) : Ending → World → Prop := fun e w => ∃ (x0 : SV), e = .returned (SV.v x0) ∧ K x0 w
/-- What comes back from signpost.metric.Less. -/
def R23 (K : Bool → World → Prop) : Ending → World → Prop := fun e w => ∃ (x0 : Bool), e = .returned (Value.bool x0) ∧ K x0 w
/-- What comes back from signpost.metric.Bits. -/
def R24 (K : Int → World → Prop) : Ending → World → Prop := fun e w => ∃ (x0 : Int), e = .returned (Value.int .u64 x0) ∧ K x0 w
/-- What comes back from signpost.metric.Same. -/
def R25 (K : Bool → World → Prop) : Ending → World → Prop := fun e w => ∃ (x0 : Bool), e = .returned (Value.bool x0) ∧ K x0 w
/-- What comes back from signpost.metric.Right. -/
def R26 (K : Bool → World → Prop) : Ending → World → Prop := fun e w => ∃ (x0 : Bool), e = .returned (Value.bool x0) ∧ K x0 w
/-- What comes back from math.Signbit. -/
def R27 (K : Bool → World → Prop) : Ending → World → Prop := fun e w => ∃ (x0 : Bool), e = .returned (Value.bool x0) ∧ K x0 w
/-- What comes back from signpost.metric.Clean. -/
def R28 (K : Nat → World → Prop) : Ending → World → Prop := fun e w => ∃ (x0 : Nat), e = .returned (Value.float .f64 x0) ∧ K x0 w
/-- What comes back from signpost.signpostlaw2.ends. -/
def R29 (K : SV → World → Prop) : Ending → World → Prop := fun e w => ∃ (x0 : SV), e = .returned (SV.v x0) ∧ K x0 w
/-- What comes back from signpost.metric.counts. -/
def R31 (K : SV → World → Prop) : Ending → World → Prop := fun e w => ∃ (x0 : SV), e = .returned (SV.v x0) ∧ K x0 w
/-- What comes back from signpost.metric.sum. -/
def R32 (K : Nat → World → Prop) : Ending → World → Prop := fun e w => ∃ (x0 : Nat), e = .returned (Value.float .f64 x0) ∧ K x0 w
/-- What comes back from math.Inf. -/
def R33 (K : Nat → World → Prop) : Ending → World → Prop := fun e w => ∃ (x0 : Nat), e = .returned (Value.float .f64 x0) ∧ K x0 w
/-- What comes back from math.Abs. -/
def R34 (K : Nat → World → Prop) : Ending → World → Prop := fun e w => ∃ (x0 : Nat), e = .returned (Value.float .f64 x0) ∧ K x0 w
/-- What comes back from signpost.signpostref2.Right. -/
def R35 (K : Bool → World → Prop) : Ending → World → Prop := fun e w => ∃ (x0 : Bool), e = .returned (Value.bool x0) ∧ K x0 w
/-- What comes back from signpost.signpostref2.Bits. -/
def R36 (K : Int → World → Prop) : Ending → World → Prop := fun e w => ∃ (x0 : Int), e = .returned (Value.int .u64 x0) ∧ K x0 w
/-- What comes back from signpost.signpostref2.Clean. -/
def R37 (K : Nat → World → Prop) : Ending → World → Prop := fun e w => ∃ (x0 : Nat), e = .returned (Value.float .f64 x0) ∧ K x0 w
/-- What comes back from signpost.signpostref2.Add. -/
def R38 (K : Nat → World → Prop) : Ending → World → Prop := fun e w => ∃ (x0 : Nat), e = .returned (Value.float .f64 x0) ∧ K x0 w
/-- What comes back from signpost.signpostref2.Less. -/
def R39 (K : Bool → World → Prop) : Ending → World → Prop := fun e w => ∃ (x0 : Bool), e = .returned (Value.bool x0) ∧ K x0 w
/-- What comes back from signpost.signpostref2.Same. -/
def R40 (K : Bool → World → Prop) : Ending → World → Prop := fun e w => ∃ (x0 : Bool), e = .returned (Value.bool x0) ∧ K x0 w
/-- What comes back from signpost.signpostref2.total. -/
def R41 (K : Nat → World → Prop) : Ending → World → Prop := fun e w => ∃ (x0 : Nat), e = .returned (Value.float .f64 x0) ∧ K x0 w
/-- What comes back from math.Copysign. -/
def R42 (K : Nat → World → Prop) : Ending → World → Prop := fun e w => ∃ (x0 : Nat), e = .returned (Value.float .f64 x0) ∧ K x0 w
end Go.Proofs.Ytkbfpjkikjmmeaa
