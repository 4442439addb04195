/-
  The closed facts on types and functions that the printed proofs use, and what comes back from each function.
-/
import Derived.Test.YtobnlhfkggeahaaProg
import Derived.Test.YtobnlhfkggeahaaSpMem
import Derived.KernelRfl
namespace Go.Proofs.Ytobnlhfkggeahaa
set_option linter.unusedVariables false
set_option linter.unusedSimpArgs false
open Go.Sp
def str0 : ByteArray := { data := #[1, 2, 0, 0, 0, 1] }
theorem ag31 : aggB Try.prog 31 = true := by kernel_rfl
theorem bd10 : bodyB Try.prog 10 = true := by kernel_rfl
theorem bd11 : bodyB Try.prog 11 = true := by kernel_rfl
theorem bd12 : bodyB Try.prog 12 = true := by kernel_rfl
theorem bd13 : bodyB Try.prog 13 = true := by kernel_rfl
theorem bd14 : bodyB Try.prog 14 = true := by kernel_rfl
theorem bd15 : bodyB Try.prog 15 = true := by kernel_rfl
theorem bd16 : bodyB Try.prog 16 = true := by kernel_rfl
theorem bd17 : bodyB Try.prog 17 = true := by kernel_rfl
theorem bd18 : bodyB Try.prog 18 = true := by kernel_rfl
theorem bd19 : bodyB Try.prog 19 = true := by kernel_rfl
theorem bd20 : bodyB Try.prog 20 = true := by kernel_rfl
theorem bd21 : bodyB Try.prog 21 = true := by kernel_rfl
theorem bd22 : bodyB Try.prog 22 = true := by kernel_rfl
theorem bd23 : bodyB Try.prog 23 = true := by kernel_rfl
theorem bd24 : bodyB Try.prog 24 = true := by kernel_rfl
theorem bd25 : bodyB Try.prog 25 = true := by kernel_rfl
theorem bd26 : bodyB Try.prog 26 = true := by kernel_rfl
theorem bd27 : bodyB Try.prog 27 = true := by kernel_rfl
theorem bd28 : bodyB Try.prog 28 = true := by kernel_rfl
theorem bd29 : bodyB Try.prog 29 = true := by kernel_rfl
theorem bd30 : bodyB Try.prog 30 = true := by kernel_rfl
theorem bd31 : bodyB Try.prog 31 = true := by kernel_rfl
theorem bd32 : bodyB Try.prog 32 = true := by kernel_rfl
theorem bd33 : bodyB Try.prog 33 = true := by kernel_rfl
theorem bd34 : bodyB Try.prog 34 = true := by kernel_rfl
theorem bd35 : bodyB Try.prog 35 = true := by kernel_rfl
theorem bd36 : bodyB Try.prog 36 = true := by kernel_rfl
theorem bd7 : bodyB Try.prog 7 = true := by kernel_rfl
theorem bd8 : bodyB Try.prog 8 = true := by kernel_rfl
theorem bd9 : bodyB Try.prog 9 = true := by kernel_rfl
theorem bo4 : boolB Try.prog 4 = true := by kernel_rfl
theorem bs22_6 (x0 : Int) (x1 : Int) (x2 : Int) (x3 : Int) (x4 : Int) (x5 : Int) (w : World) : (Instr.buildSlice 22 6 #[(0, (Value.int .i64 x0)), (1, (Value.int .i64 x1)), (2, (Value.int .i64 x2)), (3, (Value.int .i64 x3)), (4, (Value.int .i64 x4)), (5, (Value.int .i64 x5))]).run Try.prog w = .ok (.slice (some ⟨w.heap.size, 0, none⟩) 6 6) (w.alloc (.cells #[(Value.int .i64 x0), (Value.int .i64 x1), (Value.int .i64 x2), (Value.int .i64 x3), (Value.int .i64 x4), (Value.int .i64 x5)] 3)) := by simp [go_sem]
theorem bs23_0  (w : World) : (Instr.buildSlice 23 0 #[]).run Try.prog w = .ok (.slice (some ⟨w.heap.size, 0, none⟩) 0 0) (w.alloc (.cells #[] 5)) := by simp [go_sem]
theorem bs23_1 (x0 : Int) (w : World) : (Instr.buildSlice 23 1 #[(0, (Value.int .u8 x0))]).run Try.prog w = .ok (.slice (some ⟨w.heap.size, 0, none⟩) 1 1) (w.alloc (.cells #[(Value.int .u8 x0)] 5)) := by simp [go_sem]
theorem bs23_2 (x0 : Int) (x1 : Int) (w : World) : (Instr.buildSlice 23 2 #[(0, (Value.int .u8 x0)), (1, (Value.int .u8 x1))]).run Try.prog w = .ok (.slice (some ⟨w.heap.size, 0, none⟩) 2 2) (w.alloc (.cells #[(Value.int .u8 x0), (Value.int .u8 x1)] 5)) := by simp [go_sem]
theorem bs23_4 (x0 : Int) (x1 : Int) (x2 : Int) (x3 : Int) (w : World) : (Instr.buildSlice 23 4 #[(0, (Value.int .u8 x0)), (1, (Value.int .u8 x1)), (2, (Value.int .u8 x2)), (3, (Value.int .u8 x3))]).run Try.prog w = .ok (.slice (some ⟨w.heap.size, 0, none⟩) 4 4) (w.alloc (.cells #[(Value.int .u8 x0), (Value.int .u8 x1), (Value.int .u8 x2), (Value.int .u8 x3)] 5)) := by simp [go_sem]
theorem bs23_6 (x0 : Int) (x1 : Int) (x2 : Int) (x3 : Int) (x4 : Int) (x5 : Int) (w : World) : (Instr.buildSlice 23 6 #[(0, (Value.int .u8 x0)), (1, (Value.int .u8 x1)), (2, (Value.int .u8 x2)), (3, (Value.int .u8 x3)), (4, (Value.int .u8 x4)), (5, (Value.int .u8 x5))]).run Try.prog w = .ok (.slice (some ⟨w.heap.size, 0, none⟩) 6 6) (w.alloc (.cells #[(Value.int .u8 x0), (Value.int .u8 x1), (Value.int .u8 x2), (Value.int .u8 x3), (Value.int .u8 x4), (Value.int .u8 x5)] 5)) := by simp [go_sem]
theorem bu28_0 (x0 : SV) (w : World) : (Instr.build 28 #[(0, (SV.v x0))]).run Try.prog w = .ok (.agg #[(SV.v x0), (Value.int .i64 (0 : Int)), (Value.bool false)]) w := by simp [go_sem]
theorem bu31_0 (x0 : Int) (w : World) : (Instr.build 31 #[(0, (Value.int .i64 x0))]).run Try.prog w = .ok (.agg #[(Value.int .i64 x0), (Value.int .i64 (0 : Int)), (SV.v SV.nil)]) w := by simp [go_sem]
theorem bu31_0_1 (x0 : Int) (x1 : Int) (w : World) : (Instr.build 31 #[(0, (Value.int .i64 x0)), (1, (Value.int .i64 x1))]).run Try.prog w = .ok (.agg #[(Value.int .i64 x0), (Value.int .i64 x1), (SV.v SV.nil)]) w := by simp [go_sem]
theorem bu51_0 (x0 : SV) (w : World) : (Instr.build 51 #[(0, (SV.v x0))]).run Try.prog w = .ok (.agg #[(SV.v x0), (Value.bool false)]) w := by simp [go_sem]
theorem bu55_  (w : World) : (Instr.build 55 #[]).run Try.prog w = .ok (.agg #[(SV.v SV.nil)]) w := by simp [go_sem]
theorem fa28_0 : fieldB Try.prog 28 0 0 = true := by kernel_rfl
theorem fa28_1 : fieldB Try.prog 28 1 1 = true := by kernel_rfl
theorem fa28_2 : fieldB Try.prog 28 2 2 = true := by kernel_rfl
theorem fa31_0 : fieldB Try.prog 31 0 0 = true := by kernel_rfl
theorem fa31_1 : fieldB Try.prog 31 1 1 = true := by kernel_rfl
theorem fa31_2 : fieldB Try.prog 31 2 2 = true := by kernel_rfl
theorem fa51_0 : fieldB Try.prog 51 0 0 = true := by kernel_rfl
theorem fa51_1 : fieldB Try.prog 51 1 1 = true := by kernel_rfl
theorem fa55_0 : fieldB Try.prog 55 0 0 = true := by kernel_rfl
theorem in3 : intB Try.prog 3 .i64 = true := by kernel_rfl
theorem in37 : intB Try.prog 37 .u32 = true := by kernel_rfl
theorem in5 : intB Try.prog 5 .u8 = true := by kernel_rfl
theorem in52 : intB Try.prog 52 .u64 = true := by kernel_rfl
theorem mix : Try.prog.follows .mixedOrders = true := by kernel_rfl
theorem pt24 : ptrB Try.prog 24 = true := by kernel_rfl
theorem pt40 : ptrB Try.prog 40 = true := by kernel_rfl
theorem sc23 : scalarB Try.prog 23 = true := by kernel_rfl
theorem sc3 : scalarB Try.prog 3 = true := by kernel_rfl
theorem sc4 : scalarB Try.prog 4 = true := by kernel_rfl
theorem sc5 : scalarB Try.prog 5 = true := by kernel_rfl
theorem sl22 : sliceB Try.prog 22 3 1 = true := by kernel_rfl
theorem sl23 : sliceB Try.prog 23 5 1 = true := by kernel_rfl
theorem sl33 : sliceB Try.prog 33 31 3 = true := by kernel_rfl
theorem sz23 : sizeB Try.prog 23 1 = true := by kernel_rfl
theorem sz3 : sizeB Try.prog 3 1 = true := by kernel_rfl
theorem sz31 : sizeB Try.prog 31 3 = true := by kernel_rfl
theorem sz4 : sizeB Try.prog 4 1 = true := by kernel_rfl
/-- What comes back from signpost.signpostlaw4.WireNumbers. -/
def R3 (K : Bool → World → Prop) : Ending → World → Prop := fun e w => ∃ (x0 : Bool), e = .returned (Value.bool x0) ∧ K x0 w
/-- What comes back from signpost.signpostlaw4.WireLacks. -/
def R4 (K : Bool → World → Prop) : Ending → World → Prop := fun e w => ∃ (x0 : Bool), e = .returned (Value.bool x0) ∧ K x0 w
/-- What comes back from signpost.signpostlaw4.WireTells. -/
def R5 (K : Bool → World → Prop) : Ending → World → Prop := fun e w => ∃ (x0 : Bool), e = .returned (Value.bool x0) ∧ K x0 w
/-- What comes back from signpost.signpostlaw4.WireBack. -/
def R6 (K : Bool → World → Prop) : Ending → World → Prop := fun e w => ∃ (x0 : Bool), e = .returned (Value.bool x0) ∧ K x0 w
/-- What comes back from signpost.wire.NewReader. -/
def R7 (K : Option Addr → World → Prop) : Ending → World → Prop := fun e w => ∃ (x0 : Option Addr), e = .returned (Value.pointer x0) ∧ K x0 w
/-- What comes back from signpost.signpostlaw4.get. -/
def R8 (K : Bool → World → Prop) : Ending → World → Prop := fun e w => ∃ (x0 : Bool), e = .returned (Value.bool x0) ∧ K x0 w
/-- What comes back from signpost.signpostlaw4.known. -/
def R9 (K : Bool → World → Prop) : Ending → World → Prop := fun e w => ∃ (x0 : Bool), e = .returned (Value.bool x0) ∧ K x0 w
/-- What comes back from signpost.signpostkeep.Cut. -/
def R10 (K : SV → World → Prop) : Ending → World → Prop := fun e w => ∃ (x0 : SV), e = .returned (SV.v x0) ∧ K x0 w
/-- What comes back from (*signpost.wire.Reader).Left. -/
def R11 (K : Int → World → Prop) : Ending → World → Prop := fun e w => ∃ (x0 : Int), e = .returned (Value.int .i64 x0) ∧ K x0 w
/-- What comes back from (*signpost.wire.Reader).Fine. -/
def R12 (K : Bool → World → Prop) : Ending → World → Prop := fun e w => ∃ (x0 : Bool), e = .returned (Value.bool x0) ∧ K x0 w
/-- What comes back from (*signpost.wire.Reader).Raw. -/
def R13 (K : SV → World → Prop) : Ending → World → Prop := fun e w => ∃ (x0 : SV), e = .returned (SV.v x0) ∧ K x0 w
/-- What comes back from (*signpost.wire.Reader).U8. -/
def R14 (K : Int → World → Prop) : Ending → World → Prop := fun e w => ∃ (x0 : Int), e = .returned (Value.int .i64 x0) ∧ K x0 w
/-- What comes back from (*signpost.wire.Reader).U16. -/
def R15 (K : Int → World → Prop) : Ending → World → Prop := fun e w => ∃ (x0 : Int), e = .returned (Value.int .i64 x0) ∧ K x0 w
/-- What comes back from (*signpost.wire.Reader).U32. -/
def R16 (K : Int → World → Prop) : Ending → World → Prop := fun e w => ∃ (x0 : Int), e = .returned (Value.int .u32 x0) ∧ K x0 w
/-- What comes back from signpost.wire.NewWriter. -/
def R17 (K : Option Addr → World → Prop) : Ending → World → Prop := fun e w => ∃ (x0 : Option Addr), e = .returned (Value.pointer x0) ∧ K x0 w
/-- What comes back from signpost.signpostlaw4.put. -/
def R18 (K : SV → World → Prop) : Ending → World → Prop := fun e w => ∃ (x0 : SV), e = .returned (SV.v x0) ∧ K x0 w
/-- What comes back from (*signpost.wire.Writer).Len. -/
def R19 (K : Int → World → Prop) : Ending → World → Prop := fun e w => ∃ (x0 : Int), e = .returned (Value.int .i64 x0) ∧ K x0 w
/-- What comes back from (*signpost.wire.Writer).Done. -/
def R20 (K : SV → World → Prop) : Ending → World → Prop := fun e w => ∃ (x0 : SV), e = .returned (SV.v x0) ∧ K x0 w
/-- What comes back from (*signpost.wire.Writer).U8. -/
def R21 (K : World → Prop) : Ending → World → Prop := fun e w => e = .returned (Value.tuple #[]) ∧ K w
/-- What comes back from (*signpost.wire.Writer).U16. -/
def R22 (K : World → Prop) : Ending → World → Prop := fun e w => e = .returned (Value.tuple #[]) ∧ K w
/-- What comes back from (*signpost.wire.Writer).U32. -/
def R23 (K : World → Prop) : Ending → World → Prop := fun e w => e = .returned (Value.tuple #[]) ∧ K w
/-- What comes back from (*signpost.wire.Writer).Raw. -/
def R24 (K : World → Prop) : Ending → World → Prop := fun e w => e = .returned (Value.tuple #[]) ∧ K w
/-- What comes back from slices.Clone[[]byte,byte]. -/
def R25 (K : SV → World → Prop) : Ending → World → Prop := fun e w => ∃ (x0 : SV), e = .returned (SV.v x0) ∧ K x0 w
/-- What comes back from (*signpost.signpostref4.Reader).U8. -/
def R26 (K : Int → World → Prop) : Ending → World → Prop := fun e w => ∃ (x0 : Int), e = .returned (Value.int .i64 x0) ∧ K x0 w
/-- What comes back from (*signpost.signpostref4.Reader).U16. -/
def R27 (K : Int → World → Prop) : Ending → World → Prop := fun e w => ∃ (x0 : Int), e = .returned (Value.int .i64 x0) ∧ K x0 w
/-- What comes back from (*signpost.signpostref4.Reader).U32. -/
def R28 (K : Int → World → Prop) : Ending → World → Prop := fun e w => ∃ (x0 : Int), e = .returned (Value.int .u32 x0) ∧ K x0 w
/-- What comes back from (*signpost.signpostref4.Reader).Raw. -/
def R29 (K : SV → World → Prop) : Ending → World → Prop := fun e w => ∃ (x0 : SV), e = .returned (SV.v x0) ∧ K x0 w
/-- What comes back from (*signpost.signpostref4.Reader).Left. -/
def R30 (K : Int → World → Prop) : Ending → World → Prop := fun e w => ∃ (x0 : Int), e = .returned (Value.int .i64 x0) ∧ K x0 w
/-- What comes back from (*signpost.wire.Reader).get. -/
def R31 (K : Int → World → Prop) : Ending → World → Prop := fun e w => ∃ (x0 : Int), e = .returned (Value.int .u64 x0) ∧ K x0 w
/-- What comes back from signpost.signpostref4.U8. -/
def R32 (K : SV → World → Prop) : Ending → World → Prop := fun e w => ∃ (x0 : SV), e = .returned (SV.v x0) ∧ K x0 w
/-- What comes back from signpost.signpostref4.U16. -/
def R33 (K : SV → World → Prop) : Ending → World → Prop := fun e w => ∃ (x0 : SV), e = .returned (SV.v x0) ∧ K x0 w
/-- What comes back from signpost.signpostref4.U32. -/
def R34 (K : SV → World → Prop) : Ending → World → Prop := fun e w => ∃ (x0 : SV), e = .returned (SV.v x0) ∧ K x0 w
/-- What comes back from (*signpost.wire.Writer).put. -/
def R35 (K : World → Prop) : Ending → World → Prop := fun e w => e = .returned (Value.tuple #[]) ∧ K w
/-- What comes back from (*signpost.signpostref4.Reader).number. -/
def R36 (K : Int → World → Prop) : Ending → World → Prop := fun e w => ∃ (x0 : Int), e = .returned (Value.int .u32 x0) ∧ K x0 w
end Go.Proofs.Ytobnlhfkggeahaa
