/-
  The closed facts on types and functions that the printed proofs use, and what comes back from each function.
-/
import Derived.Test.YtflffabmfoldeaaProg
import Derived.Test.YtflffabmfoldeaaSpMem
import Derived.Test.YtflffabmfoldeaaSpFlo
import Derived.Test.YtflffabmfoldeaaSpFn
import Derived.Test.YtflffabmfoldeaaSpPool0
import Derived.KernelRfl
namespace Go.Proofs.Ytflffabmfoldeaa
set_option linter.unusedVariables false
set_option linter.unusedSimpArgs false
open Go.Sp
theorem ag27 : aggB Try.prog 27 = true := by kernel_rfl
theorem bd10 : bodyB Try.prog 10 = true := by kernel_rfl
theorem bd11 : bodyB Try.prog 11 = true := by kernel_rfl
theorem bd12 : bodyB Try.prog 12 = true := by kernel_rfl
theorem bd13 : bodyB Try.prog 13 = true := by kernel_rfl
theorem bd14 : bodyB Try.prog 14 = true := by kernel_rfl
theorem bd15 : bodyB Try.prog 15 = true := by kernel_rfl
theorem bd16 : bodyB Try.prog 16 = true := by kernel_rfl
theorem bd17 : bodyB Try.prog 17 = true := by kernel_rfl
theorem bd18 : bodyB Try.prog 18 = true := by kernel_rfl
theorem bd19 : bodyB Try.prog 19 = true := by kernel_rfl
theorem bd20 : bodyB Try.prog 20 = true := by kernel_rfl
theorem bd21 : bodyB Try.prog 21 = true := by kernel_rfl
theorem bd22 : bodyB Try.prog 22 = true := by kernel_rfl
theorem bd23 : bodyB Try.prog 23 = true := by kernel_rfl
theorem bd24 : bodyB Try.prog 24 = true := by kernel_rfl
theorem bd25 : bodyB Try.prog 25 = true := by kernel_rfl
theorem bd26 : bodyB Try.prog 26 = true := by kernel_rfl
theorem bd27 : bodyB Try.prog 27 = true := by kernel_rfl
theorem bd28 : bodyB Try.prog 28 = true := by kernel_rfl
theorem bd29 : bodyB Try.prog 29 = true := by kernel_rfl
theorem bd30 : bodyB Try.prog 30 = true := by kernel_rfl
theorem bd31 : bodyB Try.prog 31 = true := by kernel_rfl
theorem bd32 : bodyB Try.prog 32 = true := by kernel_rfl
theorem bd33 : bodyB Try.prog 33 = true := by kernel_rfl
theorem bd34 : bodyB Try.prog 34 = true := by kernel_rfl
theorem bd35 : bodyB Try.prog 35 = true := by kernel_rfl
theorem bd36 : bodyB Try.prog 36 = true := by kernel_rfl
theorem bd37 : bodyB Try.prog 37 = true := by kernel_rfl
theorem bd38 : bodyB Try.prog 38 = true := by kernel_rfl
theorem bd39 : bodyB Try.prog 39 = true := by kernel_rfl
theorem bd40 : bodyB Try.prog 40 = true := by kernel_rfl
theorem bd41 : bodyB Try.prog 41 = true := by kernel_rfl
theorem bd42 : bodyB Try.prog 42 = true := by kernel_rfl
theorem bd43 : bodyB Try.prog 43 = true := by kernel_rfl
theorem bd44 : bodyB Try.prog 44 = true := by kernel_rfl
theorem bd45 : bodyB Try.prog 45 = true := by kernel_rfl
theorem bd46 : bodyB Try.prog 46 = true := by kernel_rfl
theorem bd47 : bodyB Try.prog 47 = true := by kernel_rfl
theorem bd48 : bodyB Try.prog 48 = true := by kernel_rfl
theorem bd49 : bodyB Try.prog 49 = true := by kernel_rfl
theorem bd51 : bodyB Try.prog 51 = true := by kernel_rfl
theorem bd53 : bodyB Try.prog 53 = true := by kernel_rfl
theorem bd54 : bodyB Try.prog 54 = true := by kernel_rfl
theorem bd56 : bodyB Try.prog 56 = true := by kernel_rfl
theorem bd57 : bodyB Try.prog 57 = true := by kernel_rfl
theorem bd58 : bodyB Try.prog 58 = true := by kernel_rfl
theorem bd59 : bodyB Try.prog 59 = true := by kernel_rfl
theorem bd60 : bodyB Try.prog 60 = true := by kernel_rfl
theorem bd61 : bodyB Try.prog 61 = true := by kernel_rfl
theorem bd62 : bodyB Try.prog 62 = true := by kernel_rfl
theorem bd63 : bodyB Try.prog 63 = true := by kernel_rfl
theorem bd64 : bodyB Try.prog 64 = true := by kernel_rfl
theorem bd65 : bodyB Try.prog 65 = true := by kernel_rfl
theorem bd66 : bodyB Try.prog 66 = true := by kernel_rfl
theorem bd67 : bodyB Try.prog 67 = true := by kernel_rfl
theorem bd68 : bodyB Try.prog 68 = true := by kernel_rfl
theorem bd69 : bodyB Try.prog 69 = true := by kernel_rfl
theorem bd70 : bodyB Try.prog 70 = true := by kernel_rfl
theorem bd71 : bodyB Try.prog 71 = true := by kernel_rfl
theorem bd72 : bodyB Try.prog 72 = true := by kernel_rfl
theorem bd73 : bodyB Try.prog 73 = true := by kernel_rfl
theorem bd74 : bodyB Try.prog 74 = true := by kernel_rfl
theorem bd75 : bodyB Try.prog 75 = true := by kernel_rfl
theorem bd76 : bodyB Try.prog 76 = true := by kernel_rfl
theorem bd9 : bodyB Try.prog 9 = true := by kernel_rfl
theorem bo4 : boolB Try.prog 4 = true := by kernel_rfl
theorem bs22_3 (x0 : Int) (x1 : Int) (x2 : Int) (w : World) : (Instr.buildSlice 22 3 #[(0, (Value.int .i64 x0)), (1, (Value.int .i64 x1)), (2, (Value.int .i64 x2))]).run Try.prog w = .ok (.slice (some ⟨w.heap.size, 0, none⟩) 3 3) (w.alloc (.cells #[(Value.int .i64 x0), (Value.int .i64 x1), (Value.int .i64 x2)] 3)) := by simp [go_sem]
theorem bs22_6 (x0 : Int) (x1 : Int) (x2 : Int) (x3 : Int) (x4 : Int) (x5 : Int) (w : World) : (Instr.buildSlice 22 6 #[(0, (Value.int .i64 x0)), (1, (Value.int .i64 x1)), (2, (Value.int .i64 x2)), (3, (Value.int .i64 x3)), (4, (Value.int .i64 x4)), (5, (Value.int .i64 x5))]).run Try.prog w = .ok (.slice (some ⟨w.heap.size, 0, none⟩) 6 6) (w.alloc (.cells #[(Value.int .i64 x0), (Value.int .i64 x1), (Value.int .i64 x2), (Value.int .i64 x3), (Value.int .i64 x4), (Value.int .i64 x5)] 3)) := by simp [go_sem]
theorem bs24_0  (w : World) : (Instr.buildSlice 24 0 #[]).run Try.prog w = .ok (.slice (some ⟨w.heap.size, 0, none⟩) 0 0) (w.alloc (.cells #[] 27)) := by simp [go_sem]
theorem bs24_1 (x0 : Int) (x1 : SV) (w : World) : (Instr.buildSlice 24 1 #[(0, (Value.agg #[(Value.int .i64 x0), (SV.v x1)]))]).run Try.prog w = .ok (.slice (some ⟨w.heap.size, 0, none⟩) 1 1) (w.alloc (.cells #[(Value.int .i64 x0), (SV.v x1)] 27)) := by simp [go_sem]
theorem bs24_2 (x0 : Int) (x1 : SV) (x2 : Int) (x3 : SV) (w : World) : (Instr.buildSlice 24 2 #[(0, (Value.agg #[(Value.int .i64 x0), (SV.v x1)])), (1, (Value.agg #[(Value.int .i64 x2), (SV.v x3)]))]).run Try.prog w = .ok (.slice (some ⟨w.heap.size, 0, none⟩) 2 2) (w.alloc (.cells #[(Value.int .i64 x0), (SV.v x1), (Value.int .i64 x2), (SV.v x3)] 27)) := by simp [go_sem]
theorem bs25_0  (w : World) : (Instr.buildSlice 25 0 #[]).run Try.prog w = .ok (.slice (some ⟨w.heap.size, 0, none⟩) 0 0) (w.alloc (.cells #[] 23)) := by simp [go_sem]
theorem bs25_1 (x0 : Int) (w : World) : (Instr.buildSlice 25 1 #[(0, (Value.int .u32 x0))]).run Try.prog w = .ok (.slice (some ⟨w.heap.size, 0, none⟩) 1 1) (w.alloc (.cells #[(Value.int .u32 x0)] 23)) := by simp [go_sem]
theorem bs25_2 (x0 : Int) (x1 : Int) (w : World) : (Instr.buildSlice 25 2 #[(0, (Value.int .u32 x0)), (1, (Value.int .u32 x1))]).run Try.prog w = .ok (.slice (some ⟨w.heap.size, 0, none⟩) 2 2) (w.alloc (.cells #[(Value.int .u32 x0), (Value.int .u32 x1)] 23)) := by simp [go_sem]
theorem bs40_0  (w : World) : (Instr.buildSlice 40 0 #[]).run Try.prog w = .ok (.slice (some ⟨w.heap.size, 0, none⟩) 0 0) (w.alloc (.cells #[] 5)) := by simp [go_sem]
theorem bs40_1 (x0 : Int) (w : World) : (Instr.buildSlice 40 1 #[(0, (Value.int .u8 x0))]).run Try.prog w = .ok (.slice (some ⟨w.heap.size, 0, none⟩) 1 1) (w.alloc (.cells #[(Value.int .u8 x0)] 5)) := by simp [go_sem]
theorem bs40_2 (x0 : Int) (x1 : Int) (w : World) : (Instr.buildSlice 40 2 #[(0, (Value.int .u8 x0)), (1, (Value.int .u8 x1))]).run Try.prog w = .ok (.slice (some ⟨w.heap.size, 0, none⟩) 2 2) (w.alloc (.cells #[(Value.int .u8 x0), (Value.int .u8 x1)] 5)) := by simp [go_sem]
theorem bs40_4 (x0 : Int) (x1 : Int) (x2 : Int) (x3 : Int) (w : World) : (Instr.buildSlice 40 4 #[(0, (Value.int .u8 x0)), (1, (Value.int .u8 x1)), (2, (Value.int .u8 x2)), (3, (Value.int .u8 x3))]).run Try.prog w = .ok (.slice (some ⟨w.heap.size, 0, none⟩) 4 4) (w.alloc (.cells #[(Value.int .u8 x0), (Value.int .u8 x1), (Value.int .u8 x2), (Value.int .u8 x3)] 5)) := by simp [go_sem]
theorem bs49_14 (x0 : SV) (x1 : SV) (x2 : SV) (x3 : SV) (x4 : SV) (x5 : SV) (x6 : SV) (x7 : SV) (x8 : SV) (x9 : SV) (x10 : SV) (x11 : SV) (x12 : SV) (x13 : SV) (w : World) : (Instr.buildSlice 49 14 #[(0, (SV.v x0)), (1, (SV.v x1)), (2, (SV.v x2)), (3, (SV.v x3)), (4, (SV.v x4)), (5, (SV.v x5)), (6, (SV.v x6)), (7, (SV.v x7)), (8, (SV.v x8)), (9, (SV.v x9)), (10, (SV.v x10)), (11, (SV.v x11)), (12, (SV.v x12)), (13, (SV.v x13))]).run Try.prog w = .ok (.slice (some ⟨w.heap.size, 0, none⟩) 14 14) (w.alloc (.cells #[(SV.v x0), (SV.v x1), (SV.v x2), (SV.v x3), (SV.v x4), (SV.v x5), (SV.v x6), (SV.v x7), (SV.v x8), (SV.v x9), (SV.v x10), (SV.v x11), (SV.v x12), (SV.v x13)] 24)) := by simp [go_sem]
theorem bu27_  (w : World) : (Instr.build 27 #[]).run Try.prog w = .ok (.agg #[(Value.int .i64 (0 : Int)), (SV.v SV.nil)]) w := by simp [go_sem]
theorem bu27_0 (x0 : Int) (w : World) : (Instr.build 27 #[(0, (Value.int .i64 x0))]).run Try.prog w = .ok (.agg #[(Value.int .i64 x0), (SV.v SV.nil)]) w := by simp [go_sem]
theorem bu27_0_1 (x0 : Int) (x1 : SV) (w : World) : (Instr.build 27 #[(0, (Value.int .i64 x0)), (1, (SV.v x1))]).run Try.prog w = .ok (.agg #[(Value.int .i64 x0), (SV.v x1)]) w := by simp [go_sem]
theorem bu74_  (w : World) : (Instr.build 74 #[]).run Try.prog w = .ok (.agg #[(SV.v SV.nil)]) w := by simp [go_sem]
theorem bu79_0 (x0 : SV) (w : World) : (Instr.build 79 #[(0, (SV.v x0))]).run Try.prog w = .ok (.agg #[(SV.v x0), (Value.bool false)]) w := by simp [go_sem]
theorem bu85_0 (x0 : SV) (w : World) : (Instr.build 85 #[(0, (SV.v x0))]).run Try.prog w = .ok (.agg #[(SV.v x0), (Value.int .i64 (0 : Int)), (Value.bool false)]) w := by simp [go_sem]
theorem fa27_0 : fieldB Try.prog 27 0 0 = true := by kernel_rfl
theorem fa27_1 : fieldB Try.prog 27 1 1 = true := by kernel_rfl
theorem fa74_0 : fieldB Try.prog 74 0 0 = true := by kernel_rfl
theorem fa79_0 : fieldB Try.prog 79 0 0 = true := by kernel_rfl
theorem fa79_1 : fieldB Try.prog 79 1 1 = true := by kernel_rfl
theorem fa85_0 : fieldB Try.prog 85 0 0 = true := by kernel_rfl
theorem fa85_1 : fieldB Try.prog 85 1 1 = true := by kernel_rfl
theorem fa85_2 : fieldB Try.prog 85 2 2 = true := by kernel_rfl
theorem in23 : intB Try.prog 23 .u32 = true := by kernel_rfl
theorem in3 : intB Try.prog 3 .i64 = true := by kernel_rfl
theorem in5 : intB Try.prog 5 .u8 = true := by kernel_rfl
theorem in76 : intB Try.prog 76 .u64 = true := by kernel_rfl
theorem mix : Try.prog.follows .mixedOrders = true := by kernel_rfl
theorem sc23 : scalarB Try.prog 23 = true := by kernel_rfl
theorem sc24 : scalarB Try.prog 24 = true := by kernel_rfl
theorem sc25 : scalarB Try.prog 25 = true := by kernel_rfl
theorem sc3 : scalarB Try.prog 3 = true := by kernel_rfl
theorem sc4 : scalarB Try.prog 4 = true := by kernel_rfl
theorem sc40 : scalarB Try.prog 40 = true := by kernel_rfl
theorem sc5 : scalarB Try.prog 5 = true := by kernel_rfl
theorem sl22 : sliceB Try.prog 22 3 1 = true := by kernel_rfl
theorem sl24 : sliceB Try.prog 24 27 2 = true := by kernel_rfl
theorem sl25 : sliceB Try.prog 25 23 1 = true := by kernel_rfl
theorem sl40 : sliceB Try.prog 40 5 1 = true := by kernel_rfl
theorem sl49 : sliceB Try.prog 49 24 1 = true := by kernel_rfl
theorem sz23 : sizeB Try.prog 23 1 = true := by kernel_rfl
theorem sz25 : sizeB Try.prog 25 1 = true := by kernel_rfl
theorem sz27 : sizeB Try.prog 27 2 = true := by kernel_rfl
theorem sz3 : sizeB Try.prog 3 1 = true := by kernel_rfl
theorem sz4 : sizeB Try.prog 4 1 = true := by kernel_rfl
theorem sz40 : sizeB Try.prog 40 1 = true := by kernel_rfl
theorem sz5 : sizeB Try.prog 5 1 = true := by kernel_rfl
theorem ze27 : (Try.prog.info? 27).map (·.zero) = some (some (Value.agg #[(Value.int .i64 (0 : Int)), (SV.v SV.nil)])) := by kernel_rfl
/-- What comes back from signpost.signpostlaw6.AspathSets. -/
def R3 (K : Bool → World → Prop) : Ending → World → Prop := fun e w => ∃ (x0 : Bool), e = .returned (Value.bool x0) ∧ K x0 w
/-- What comes back from signpost.signpostlaw6.AspathRules. -/
def R4 (K : Bool → World → Prop) : Ending → World → Prop := fun e w => ∃ (x0 : Bool), e = .returned (Value.bool x0) ∧ K x0 w
/-- What comes back from signpost.signpostlaw6.AspathJoins. -/
def R5 (K : Bool → World → Prop) : Ending → World → Prop := fun e w => ∃ (x0 : Bool), e = .returned (Value.bool x0) ∧ K x0 w
/-- What comes back from signpost.signpostlaw6.AspathBack. -/
def R6 (K : Bool → World → Prop) : Ending → World → Prop := fun e w => ∃ (x0 : Bool), e = .returned (Value.bool x0) ∧ K x0 w
/-- What comes back from signpost.signpostlaw6.AspathNumbers. -/
def R7 (K : Bool → World → Prop) : Ending → World → Prop := fun e w => ∃ (x0 : Bool), e = .returned (Value.bool x0) ∧ K x0 w
/-- What comes back from signpost.signpostlaw6.AspathTells. -/
def R8 (K : Bool → World → Prop) : Ending → World → Prop := fun e w => ∃ (x0 : Bool), e = .returned (Value.bool x0) ∧ K x0 w
/-- What comes back from signpost.signpostbook.Within. -/
def R9 (K : Int → World → Prop) : Ending → World → Prop := fun e w => ∃ (x0 : Int), e = .returned (Value.int .i64 x0) ∧ K x0 w
/-- What comes back from signpost.aspath.First. -/
def R10 (K : Int → Bool → World → Prop) : Ending → World → Prop := fun e w => ∃ (x0 : Int) (x1 : Bool), e = .returned (Value.tuple #[(Value.int .u32 x0), (Value.bool x1)]) ∧ K x0 x1 w
/-- What comes back from signpost.aspath.Prepend. -/
def R11 (K : SV → World → Prop) : Ending → World → Prop := fun e w => ∃ (x0 : SV), e = .returned (SV.v x0) ∧ K x0 w
/-- What comes back from signpost.aspath.Right. -/
def R12 (K : Bool → World → Prop) : Ending → World → Prop := fun e w => ∃ (x0 : Bool), e = .returned (Value.bool x0) ∧ K x0 w
/-- What comes back from signpost.aspath.Count. -/
def R13 (K : Int → World → Prop) : Ending → World → Prop := fun e w => ∃ (x0 : Int), e = .returned (Value.int .i64 x0) ∧ K x0 w
/-- What comes back from signpost.signpostlaw6.known. -/
def R14 (K : Bool → World → Prop) : Ending → World → Prop := fun e w => ∃ (x0 : Bool), e = .returned (Value.bool x0) ∧ K x0 w
/-- What comes back from signpost.signpostlaw6.right. -/
def R15 (K : SV → World → Prop) : Ending → World → Prop := fun e w => ∃ (x0 : SV), e = .returned (SV.v x0) ∧ K x0 w
/-- What comes back from signpost.aspath.Has. -/
def R16 (K : Bool → World → Prop) : Ending → World → Prop := fun e w => ∃ (x0 : Bool), e = .returned (Value.bool x0) ∧ K x0 w
/-- What comes back from signpost.aspath.Less. -/
def R17 (K : Bool → World → Prop) : Ending → World → Prop := fun e w => ∃ (x0 : Bool), e = .returned (Value.bool x0) ∧ K x0 w
/-- What comes back from signpost.aspath.Same. -/
def R18 (K : Bool → World → Prop) : Ending → World → Prop := fun e w => ∃ (x0 : Bool), e = .returned (Value.bool x0) ∧ K x0 w
/-- What comes back from signpost.aspath.Encode. -/
def R19 (K : SV → Int → World → Prop) : Ending → World → Prop := fun e w => ∃ (x0 : SV) (x1 : Int), e = .returned (Value.tuple #[(SV.v x0), (Value.int .i64 x1)]) ∧ K x0 x1 w
/-- What comes back from signpost.aspath.Decode. -/
def R20 (K : SV → Bool → World → Prop) : Ending → World → Prop := fun e w => ∃ (x0 : SV) (x1 : Bool), e = .returned (Value.tuple #[(SV.v x0), (Value.bool x1)]) ∧ K x0 x1 w
/-- What comes back from signpost.signpostlaw6.segs. -/
def R21 (K : Bool → World → Prop) : Ending → World → Prop := fun e w => ∃ (x0 : Bool), e = .returned (Value.bool x0) ∧ K x0 w
/-- What comes back from signpost.signpostkeep.Cut. -/
def R22 (K : SV → World → Prop) : Ending → World → Prop := fun e w => ∃ (x0 : SV), e = .returned (SV.v x0) ∧ K x0 w
/-- What comes back from signpost.signpostlaw6.same. -/
def R23 (K : Bool → World → Prop) : Ending → World → Prop := fun e w => ∃ (x0 : Bool), e = .returned (Value.bool x0) ∧ K x0 w
/-- What comes back from signpost.signpostref6.Encode. -/
def R24 (K : SV → World → Prop) : Ending → World → Prop := fun e w => ∃ (x0 : SV), e = .returned (SV.v x0) ∧ K x0 w
/-- What comes back from signpost.signpostlaw6.read. -/
def R25 (K : Bool → World → Prop) : Ending → World → Prop := fun e w => ∃ (x0 : Bool), e = .returned (Value.bool x0) ∧ K x0 w
/-- What comes back from signpost.signpostlaw6.short. -/
def R26 (K : SV → World → Prop) : Ending → World → Prop := fun e w => ∃ (x0 : SV), e = .returned (SV.v x0) ∧ K x0 w
/-- What comes back from signpost.aspath.Copy. -/
def R27 (K : SV → World → Prop) : Ending → World → Prop := fun e w => ∃ (x0 : SV), e = .returned (SV.v x0) ∧ K x0 w
/-- What comes back from slices.Insert[[]uint32,uint32]. -/
def R28 (K : SV → World → Prop) : Ending → World → Prop := fun e w => ∃ (x0 : SV), e = .returned (SV.v x0) ∧ K x0 w
/-- What comes back from slices.Insert[[]signpost.api.Seg,signpost.api.Seg]. -/
def R29 (K : SV → World → Prop) : Ending → World → Prop := fun e w => ∃ (x0 : SV), e = .returned (SV.v x0) ∧ K x0 w
/-- What comes back from signpost.aspath.right. -/
def R30 (K : Bool → World → Prop) : Ending → World → Prop := fun e w => ∃ (x0 : Bool), e = .returned (Value.bool x0) ∧ K x0 w
/-- What comes back from signpost.aspath.Cmp. -/
def R31 (K : Int → World → Prop) : Ending → World → Prop := fun e w => ∃ (x0 : Int), e = .returned (Value.int .i64 x0) ∧ K x0 w
/-- What comes back from signpost.wire.NewWriter. -/
def R32 (K : Option Addr → World → Prop) : Ending → World → Prop := fun e w => ∃ (x0 : Option Addr), e = .returned (Value.pointer x0) ∧ K x0 w
/-- What comes back from (*signpost.wire.Writer).U8. -/
def R33 (K : World → Prop) : Ending → World → Prop := fun e w => e = .returned (Value.tuple #[]) ∧ K w
/-- What comes back from (*signpost.wire.Writer).U32. -/
def R34 (K : World → Prop) : Ending → World → Prop := fun e w => e = .returned (Value.tuple #[]) ∧ K w
/-- What comes back from (*signpost.wire.Writer).Done. -/
def R35 (K : SV → World → Prop) : Ending → World → Prop := fun e w => ∃ (x0 : SV), e = .returned (SV.v x0) ∧ K x0 w
/-- What comes back from signpost.wire.NewReader. -/
def R36 (K : Option Addr → World → Prop) : Ending → World → Prop := fun e w => ∃ (x0 : Option Addr), e = .returned (Value.pointer x0) ∧ K x0 w
/-- What comes back from (*signpost.wire.Reader).Left. -/
def R37 (K : Int → World → Prop) : Ending → World → Prop := fun e w => ∃ (x0 : Int), e = .returned (Value.int .i64 x0) ∧ K x0 w
/-- What comes back from (*signpost.wire.Reader).U8. -/
def R38 (K : Int → World → Prop) : Ending → World → Prop := fun e w => ∃ (x0 : Int), e = .returned (Value.int .i64 x0) ∧ K x0 w
/-- What comes back from (*signpost.wire.Reader).U32. -/
def R39 (K : Int → World → Prop) : Ending → World → Prop := fun e w => ∃ (x0 : Int), e = .returned (Value.int .u32 x0) ∧ K x0 w
/-- What comes back from (*signpost.wire.Reader).Fine. -/
def R40 (K : Bool → World → Prop) : Ending → World → Prop := fun e w => ∃ (x0 : Bool), e = .returned (Value.bool x0) ∧ K x0 w
/-- What comes back from signpost.signpostref6.Order. -/
def R41 (K : Int → World → Prop) : Ending → World → Prop := fun e w => ∃ (x0 : Int), e = .returned (Value.int .i64 x0) ∧ K x0 w
/-- What comes back from signpost.signpostref6.First. -/
def R42 (K : Int → Bool → World → Prop) : Ending → World → Prop := fun e w => ∃ (x0 : Int) (x1 : Bool), e = .returned (Value.tuple #[(Value.int .u32 x0), (Value.bool x1)]) ∧ K x0 x1 w
/-- What comes back from signpost.signpostref6.Right. -/
def R43 (K : Bool → World → Prop) : Ending → World → Prop := fun e w => ∃ (x0 : Bool), e = .returned (Value.bool x0) ∧ K x0 w
/-- What comes back from signpost.signpostref6.Count. -/
def R44 (K : Int → World → Prop) : Ending → World → Prop := fun e w => ∃ (x0 : Int), e = .returned (Value.int .i64 x0) ∧ K x0 w
/-- What comes back from signpost.signpostref6.Has. -/
def R45 (K : Bool → World → Prop) : Ending → World → Prop := fun e w => ∃ (x0 : Bool), e = .returned (Value.bool x0) ∧ K x0 w
/-- What comes back from signpost.signpostref6.Prepend. -/
def R46 (K : SV → World → Prop) : Ending → World → Prop := fun e w => ∃ (x0 : SV), e = .returned (SV.v x0) ∧ K x0 w
/-- What comes back from signpost.signpostref4.U32. -/
def R47 (K : SV → World → Prop) : Ending → World → Prop := fun e w => ∃ (x0 : SV), e = .returned (SV.v x0) ∧ K x0 w
/-- What comes back from signpost.signpostref6.Decode. -/
def R48 (K : SV → Bool → World → Prop) : Ending → World → Prop := fun e w => ∃ (x0 : SV) (x1 : Bool), e = .returned (Value.tuple #[(SV.v x0), (Value.bool x1)]) ∧ K x0 x1 w
/-- What comes back from slices.Clone[[]uint32,uint32]. -/
def R49 (K : SV → World → Prop) : Ending → World → Prop := fun e w => ∃ (x0 : SV), e = .returned (SV.v x0) ∧ K x0 w
/-- What comes back from slices.rotateRight[uint32]. -/
def R51 (K : World → Prop) : Ending → World → Prop := fun e w => e = .returned (Value.tuple #[]) ∧ K w
/-- What comes back from slices.rotateRight[signpost.api.Seg]. -/
def R53 (K : World → Prop) : Ending → World → Prop := fun e w => e = .returned (Value.tuple #[]) ∧ K w
/-- What comes back from slices.CompareFunc[[]signpost.api.Seg,[]signpost.api.Seg,signpost.api.Seg,signpost.api.Seg]. -/
def R54 (K : Int → World → Prop) : Ending → World → Prop := fun e w => ∃ (x0 : Int), e = .returned (Value.int .i64 x0) ∧ K x0 w
/-- What comes back from signpost.aspath.compare. -/
def R55 (K : Int → World → Prop) : Ending → World → Prop := fun e w => ∃ (x0 : Int), e = .returned (Value.int .i64 x0) ∧ K x0 w
/-- What comes back from (*signpost.wire.Writer).put. -/
def R56 (K : World → Prop) : Ending → World → Prop := fun e w => e = .returned (Value.tuple #[]) ∧ K w
/-- What comes back from slices.Clone[[]byte,byte]. -/
def R57 (K : SV → World → Prop) : Ending → World → Prop := fun e w => ∃ (x0 : SV), e = .returned (SV.v x0) ∧ K x0 w
/-- What comes back from (*signpost.wire.Reader).get. -/
def R58 (K : Int → World → Prop) : Ending → World → Prop := fun e w => ∃ (x0 : Int), e = .returned (Value.int .u64 x0) ∧ K x0 w
/-- What comes back from signpost.signpostref6.side. -/
def R59 (K : Int → World → Prop) : Ending → World → Prop := fun e w => ∃ (x0 : Int), e = .returned (Value.int .i64 x0) ∧ K x0 w
/-- What comes back from signpost.signpostref6.Copy. -/
def R60 (K : SV → World → Prop) : Ending → World → Prop := fun e w => ∃ (x0 : SV), e = .returned (SV.v x0) ∧ K x0 w
/-- What comes back from (*signpost.signpostref4.Reader).Left. -/
def R61 (K : Int → World → Prop) : Ending → World → Prop := fun e w => ∃ (x0 : Int), e = .returned (Value.int .i64 x0) ∧ K x0 w
/-- What comes back from (*signpost.signpostref4.Reader).U8. -/
def R62 (K : Int → World → Prop) : Ending → World → Prop := fun e w => ∃ (x0 : Int), e = .returned (Value.int .i64 x0) ∧ K x0 w
/-- What comes back from (*signpost.signpostref4.Reader).U32. -/
def R63 (K : Int → World → Prop) : Ending → World → Prop := fun e w => ∃ (x0 : Int), e = .returned (Value.int .u32 x0) ∧ K x0 w
/-- What comes back from slices.rotateLeft[uint32]. -/
def R64 (K : World → Prop) : Ending → World → Prop := fun e w => e = .returned (Value.tuple #[]) ∧ K w
/-- What comes back from slices.rotateLeft[signpost.api.Seg]. -/
def R65 (K : World → Prop) : Ending → World → Prop := fun e w => e = .returned (Value.tuple #[]) ∧ K w
/-- What comes back from cmp.Or[int]. -/
def R66 (K : Int → World → Prop) : Ending → World → Prop := fun e w => ∃ (x0 : Int), e = .returned (Value.int .i64 x0) ∧ K x0 w
/-- What comes back from cmp.Compare[int]. -/
def R67 (K : Int → World → Prop) : Ending → World → Prop := fun e w => ∃ (x0 : Int), e = .returned (Value.int .i64 x0) ∧ K x0 w
/-- What comes back from slices.Compare[[]uint32,uint32]. -/
def R68 (K : Int → World → Prop) : Ending → World → Prop := fun e w => ∃ (x0 : Int), e = .returned (Value.int .i64 x0) ∧ K x0 w
/-- What comes back from (*signpost.wire.Reader).Raw. -/
def R69 (K : SV → World → Prop) : Ending → World → Prop := fun e w => ∃ (x0 : SV), e = .returned (SV.v x0) ∧ K x0 w
/-- What comes back from (*signpost.signpostref4.Reader).number. -/
def R70 (K : Int → World → Prop) : Ending → World → Prop := fun e w => ∃ (x0 : Int), e = .returned (Value.int .u32 x0) ∧ K x0 w
/-- What comes back from slices.Reverse[[]uint32,uint32]. -/
def R71 (K : World → Prop) : Ending → World → Prop := fun e w => e = .returned (Value.tuple #[]) ∧ K w
/-- What comes back from slices.Reverse[[]signpost.api.Seg,signpost.api.Seg]. -/
def R72 (K : World → Prop) : Ending → World → Prop := fun e w => e = .returned (Value.tuple #[]) ∧ K w
/-- What comes back from cmp.isNaN[int]. -/
def R73 (K : Bool → World → Prop) : Ending → World → Prop := fun e w => ∃ (x0 : Bool), e = .returned (Value.bool x0) ∧ K x0 w
/-- What comes back from cmp.Compare[uint32]. -/
def R74 (K : Int → World → Prop) : Ending → World → Prop := fun e w => ∃ (x0 : Int), e = .returned (Value.int .i64 x0) ∧ K x0 w
/-- What comes back from (*signpost.signpostref4.Reader).Raw. -/
def R75 (K : SV → World → Prop) : Ending → World → Prop := fun e w => ∃ (x0 : SV), e = .returned (SV.v x0) ∧ K x0 w
/-- What comes back from cmp.isNaN[uint32]. -/
def R76 (K : Bool → World → Prop) : Ending → World → Prop := fun e w => ∃ (x0 : Bool), e = .returned (Value.bool x0) ∧ K x0 w
/-- What comes back from a function that is a value. -/
def RV3 (K : Int → World → Prop) : Ending → World → Prop := fun e w => ∃ (x0 : Int), e = .returned (Value.int .i64 x0) ∧ K x0 w
end Go.Proofs.Ytflffabmfoldeaa
