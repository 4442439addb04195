/-
  The closed facts on types and functions that the printed proofs use, and what comes back from each function.
-/
import Derived.Test.YtfcgkkgdnagmcaaProg
import Derived.Test.YtfcgkkgdnagmcaaSpMem
import Derived.KernelRfl
namespace Go.Proofs.Ytfcgkkgdnagmcaa
set_option linter.unusedVariables false
set_option linter.unusedSimpArgs false
open Go.Sp
def str0 : ByteArray := { data := #[8, 10, 0] }
theorem ag24 : aggB Try.prog 24 = true := by kernel_rfl
theorem bd10 : bodyB Try.prog 10 = true := by kernel_rfl
theorem bd11 : bodyB Try.prog 11 = true := by kernel_rfl
theorem bd12 : bodyB Try.prog 12 = true := by kernel_rfl
theorem bd13 : bodyB Try.prog 13 = true := by kernel_rfl
theorem bd14 : bodyB Try.prog 14 = true := by kernel_rfl
theorem bd15 : bodyB Try.prog 15 = true := by kernel_rfl
theorem bd16 : bodyB Try.prog 16 = true := by kernel_rfl
theorem bd17 : bodyB Try.prog 17 = true := by kernel_rfl
theorem bd18 : bodyB Try.prog 18 = true := by kernel_rfl
theorem bd19 : bodyB Try.prog 19 = true := by kernel_rfl
theorem bd20 : bodyB Try.prog 20 = true := by kernel_rfl
theorem bd21 : bodyB Try.prog 21 = true := by kernel_rfl
theorem bd22 : bodyB Try.prog 22 = true := by kernel_rfl
theorem bd23 : bodyB Try.prog 23 = true := by kernel_rfl
theorem bd24 : bodyB Try.prog 24 = true := by kernel_rfl
theorem bd25 : bodyB Try.prog 25 = true := by kernel_rfl
theorem bd26 : bodyB Try.prog 26 = true := by kernel_rfl
theorem bd27 : bodyB Try.prog 27 = true := by kernel_rfl
theorem bd28 : bodyB Try.prog 28 = true := by kernel_rfl
theorem bd29 : bodyB Try.prog 29 = true := by kernel_rfl
theorem bd30 : bodyB Try.prog 30 = true := by kernel_rfl
theorem bd31 : bodyB Try.prog 31 = true := by kernel_rfl
theorem bd32 : bodyB Try.prog 32 = true := by kernel_rfl
theorem bd33 : bodyB Try.prog 33 = true := by kernel_rfl
theorem bd34 : bodyB Try.prog 34 = true := by kernel_rfl
theorem bd35 : bodyB Try.prog 35 = true := by kernel_rfl
theorem bd36 : bodyB Try.prog 36 = true := by kernel_rfl
theorem bd37 : bodyB Try.prog 37 = true := by kernel_rfl
theorem bd38 : bodyB Try.prog 38 = true := by kernel_rfl
theorem bd39 : bodyB Try.prog 39 = true := by kernel_rfl
theorem bd40 : bodyB Try.prog 40 = true := by kernel_rfl
theorem bd41 : bodyB Try.prog 41 = true := by kernel_rfl
theorem bd42 : bodyB Try.prog 42 = true := by kernel_rfl
theorem bd43 : bodyB Try.prog 43 = true := by kernel_rfl
theorem bd44 : bodyB Try.prog 44 = true := by kernel_rfl
theorem bd7 : bodyB Try.prog 7 = true := by kernel_rfl
theorem bd8 : bodyB Try.prog 8 = true := by kernel_rfl
theorem bd9 : bodyB Try.prog 9 = true := by kernel_rfl
theorem bo4 : boolB Try.prog 4 = true := by kernel_rfl
theorem bs27_1 (x0 : Int) (x1 : Int) (w : World) : (Instr.buildSlice 27 1 #[(0, (Value.agg #[(Value.int .u32 x0), (Value.int .i64 x1)]))]).run Try.prog w = .ok (.slice (some ⟨w.heap.size, 0, none⟩) 1 1) (w.alloc (.cells #[(Value.int .u32 x0), (Value.int .i64 x1)] 24)) := by simp [go_sem]
theorem bs27_2 (x0 : Int) (x1 : Int) (x2 : Int) (x3 : Int) (w : World) : (Instr.buildSlice 27 2 #[(0, (Value.agg #[(Value.int .u32 x0), (Value.int .i64 x1)])), (1, (Value.agg #[(Value.int .u32 x2), (Value.int .i64 x3)]))]).run Try.prog w = .ok (.slice (some ⟨w.heap.size, 0, none⟩) 2 2) (w.alloc (.cells #[(Value.int .u32 x0), (Value.int .i64 x1), (Value.int .u32 x2), (Value.int .i64 x3)] 24)) := by simp [go_sem]
theorem bs28_0  (w : World) : (Instr.buildSlice 28 0 #[]).run Try.prog w = .ok (.slice (some ⟨w.heap.size, 0, none⟩) 0 0) (w.alloc (.cells #[] 5)) := by simp [go_sem]
theorem bs28_1 (x0 : Int) (w : World) : (Instr.buildSlice 28 1 #[(0, (Value.int .u8 x0))]).run Try.prog w = .ok (.slice (some ⟨w.heap.size, 0, none⟩) 1 1) (w.alloc (.cells #[(Value.int .u8 x0)] 5)) := by simp [go_sem]
theorem bs28_2 (x0 : Int) (x1 : Int) (w : World) : (Instr.buildSlice 28 2 #[(0, (Value.int .u8 x0)), (1, (Value.int .u8 x1))]).run Try.prog w = .ok (.slice (some ⟨w.heap.size, 0, none⟩) 2 2) (w.alloc (.cells #[(Value.int .u8 x0), (Value.int .u8 x1)] 5)) := by simp [go_sem]
theorem bs28_4 (x0 : Int) (x1 : Int) (x2 : Int) (x3 : Int) (w : World) : (Instr.buildSlice 28 4 #[(0, (Value.int .u8 x0)), (1, (Value.int .u8 x1)), (2, (Value.int .u8 x2)), (3, (Value.int .u8 x3))]).run Try.prog w = .ok (.slice (some ⟨w.heap.size, 0, none⟩) 4 4) (w.alloc (.cells #[(Value.int .u8 x0), (Value.int .u8 x1), (Value.int .u8 x2), (Value.int .u8 x3)] 5)) := by simp [go_sem]
theorem bs28_6 (x0 : Int) (x1 : Int) (x2 : Int) (x3 : Int) (x4 : Int) (x5 : Int) (w : World) : (Instr.buildSlice 28 6 #[(0, (Value.int .u8 x0)), (1, (Value.int .u8 x1)), (2, (Value.int .u8 x2)), (3, (Value.int .u8 x3)), (4, (Value.int .u8 x4)), (5, (Value.int .u8 x5))]).run Try.prog w = .ok (.slice (some ⟨w.heap.size, 0, none⟩) 6 6) (w.alloc (.cells #[(Value.int .u8 x0), (Value.int .u8 x1), (Value.int .u8 x2), (Value.int .u8 x3), (Value.int .u8 x4), (Value.int .u8 x5)] 5)) := by simp [go_sem]
theorem bu24_  (w : World) : (Instr.build 24 #[]).run Try.prog w = .ok (.agg #[(Value.int .u32 (0 : Int)), (Value.int .i64 (0 : Int))]) w := by simp [go_sem]
theorem bu24_0_1 (x0 : Int) (x1 : Int) (w : World) : (Instr.build 24 #[(0, (Value.int .u32 x0)), (1, (Value.int .i64 x1))]).run Try.prog w = .ok (.agg #[(Value.int .u32 x0), (Value.int .i64 x1)]) w := by simp [go_sem]
theorem bu63_0 (x0 : SV) (w : World) : (Instr.build 63 #[(0, (SV.v x0))]).run Try.prog w = .ok (.agg #[(SV.v x0), (Value.int .i64 (0 : Int)), (Value.bool false)]) w := by simp [go_sem]
theorem bu66_  (w : World) : (Instr.build 66 #[]).run Try.prog w = .ok (.agg #[(SV.v SV.nil)]) w := by simp [go_sem]
theorem bu71_0 (x0 : SV) (w : World) : (Instr.build 71 #[(0, (SV.v x0))]).run Try.prog w = .ok (.agg #[(SV.v x0), (Value.bool false)]) w := by simp [go_sem]
theorem fa24_0 : fieldB Try.prog 24 0 0 = true := by kernel_rfl
theorem fa24_1 : fieldB Try.prog 24 1 1 = true := by kernel_rfl
theorem fa63_0 : fieldB Try.prog 63 0 0 = true := by kernel_rfl
theorem fa63_1 : fieldB Try.prog 63 1 1 = true := by kernel_rfl
theorem fa63_2 : fieldB Try.prog 63 2 2 = true := by kernel_rfl
theorem fa66_0 : fieldB Try.prog 66 0 0 = true := by kernel_rfl
theorem fa71_0 : fieldB Try.prog 71 0 0 = true := by kernel_rfl
theorem fa71_1 : fieldB Try.prog 71 1 1 = true := by kernel_rfl
theorem in22 : intB Try.prog 22 .u32 = true := by kernel_rfl
theorem in3 : intB Try.prog 3 .i64 = true := by kernel_rfl
theorem in48 : intB Try.prog 48 .u64 = true := by kernel_rfl
theorem in5 : intB Try.prog 5 .u8 = true := by kernel_rfl
theorem in68 : intB Try.prog 68 .u64 = true := by kernel_rfl
theorem mix : Try.prog.follows .mixedOrders = true := by kernel_rfl
theorem ps24_0 : partB Try.prog 24 0 0 1 false = true := by kernel_rfl
theorem sc22 : scalarB Try.prog 22 = true := by kernel_rfl
theorem sc28 : scalarB Try.prog 28 = true := by kernel_rfl
theorem sc3 : scalarB Try.prog 3 = true := by kernel_rfl
theorem sc4 : scalarB Try.prog 4 = true := by kernel_rfl
theorem sc5 : scalarB Try.prog 5 = true := by kernel_rfl
theorem sf24 : (Try.prog.fieldsOf 24).toList = [{ name := "Addr", type := 22, offset := 0, embedded := false, tag := "", pkgPath := "", byteOffset := 0 }, { name := "Len", type := 3, offset := 1, embedded := false, tag := "", pkgPath := "", byteOffset := 8 }] := by kernel_rfl
theorem sg24 : Try.prog.eqGuardType Try.prog.depth 24 = false := by kernel_rfl
theorem si24 : Try.prog.stoodInHeld 24 = false := by kernel_rfl
theorem sl27 : sliceB Try.prog 27 24 2 = true := by kernel_rfl
theorem sl28 : sliceB Try.prog 28 5 1 = true := by kernel_rfl
theorem sl31 : sliceB Try.prog 31 22 1 = true := by kernel_rfl
theorem sl32 : sliceB Try.prog 32 3 1 = true := by kernel_rfl
theorem su24 : Try.prog.underlying 24 = some (.struct (Try.prog.fieldsOf 24)) := by kernel_rfl
theorem sz24 : sizeB Try.prog 24 2 = true := by kernel_rfl
theorem sz28 : sizeB Try.prog 28 1 = true := by kernel_rfl
theorem sz3 : sizeB Try.prog 3 1 = true := by kernel_rfl
theorem sz4 : sizeB Try.prog 4 1 = true := by kernel_rfl
theorem sz5 : sizeB Try.prog 5 1 = true := by kernel_rfl
theorem un22 : Try.prog.underlying 22 = some (.int .u32) := by kernel_rfl
theorem un3 : Try.prog.underlying 3 = some (.int .i64) := by kernel_rfl
theorem ze24 : (Try.prog.info? 24).map (·.zero) = some (some (Value.agg #[(Value.int .u32 (0 : Int)), (Value.int .i64 (0 : Int))])) := by kernel_rfl
theorem eq24 (x0 y0 : Int) (x1 y1 : Int) (w : World) : (Op.equalIn 10000 24 (.agg #[(Value.int .u32 x0), (Value.int .i64 x1)]) (.agg #[(Value.int .u32 y0), (Value.int .i64 y1)])).run Try.prog w = .ok ((x0 == y0) && (x1 == y1)) w := by
  rw [run_equalIn_agg w 9999 24 _ _ su24 si24]
  simp only [sf24]
  have e0 := run_equalIn_int w 9998 22 .u32 .u32 x0 y0 un22
  have e1 := run_equalIn_int w 9998 3 .i64 .i64 x1 y1 un3
  simp only [Nat.reduceAdd] at e0 e1
  simp [Op.eqFields, part, scalarB_run sc22, scalarB_run sc3, e0, e1]
  by_cases h0 : x0 = y0 <;> by_cases h1 : x1 = y1 <;> simp [h0, h1]
/-- What comes back from signpost.signpostlaw8.NlriNumbers. -/
def R3 (K : Bool → World → Prop) : Ending → World → Prop := fun e w => ∃ (x0 : Bool), e = .returned (Value.bool x0) ∧ K x0 w
/-- What comes back from signpost.signpostlaw8.NlriTells. -/
def R4 (K : Bool → World → Prop) : Ending → World → Prop := fun e w => ∃ (x0 : Bool), e = .returned (Value.bool x0) ∧ K x0 w
/-- What comes back from signpost.signpostlaw8.NlriBack. -/
def R5 (K : Bool → World → Prop) : Ending → World → Prop := fun e w => ∃ (x0 : Bool), e = .returned (Value.bool x0) ∧ K x0 w
/-- What comes back from signpost.signpostlaw8.NlriBits. -/
def R6 (K : Bool → World → Prop) : Ending → World → Prop := fun e w => ∃ (x0 : Bool), e = .returned (Value.bool x0) ∧ K x0 w
/-- What comes back from signpost.signpostref1.Of. -/
def R7 (K : Int → Int → World → Prop) : Ending → World → Prop := fun e w => ∃ (x0 : Int) (x1 : Int), e = .returned (Value.agg #[(Value.int .u32 x0), (Value.int .i64 x1)]) ∧ K x0 x1 w
/-- What comes back from signpost.signpostlaw8.same. -/
def R8 (K : Bool → World → Prop) : Ending → World → Prop := fun e w => ∃ (x0 : Bool), e = .returned (Value.bool x0) ∧ K x0 w
/-- What comes back from signpost.signpostlaw8.read. -/
def R9 (K : Bool → World → Prop) : Ending → World → Prop := fun e w => ∃ (x0 : Bool), e = .returned (Value.bool x0) ∧ K x0 w
/-- What comes back from signpost.signpostlaw8.known. -/
def R10 (K : Bool → World → Prop) : Ending → World → Prop := fun e w => ∃ (x0 : Bool), e = .returned (Value.bool x0) ∧ K x0 w
/-- What comes back from signpost.signpostlaw8.prefixes. -/
def R11 (K : SV → World → Prop) : Ending → World → Prop := fun e w => ∃ (x0 : SV), e = .returned (SV.v x0) ∧ K x0 w
/-- What comes back from signpost.signpostlaw8.tame. -/
def R12 (K : SV → World → Prop) : Ending → World → Prop := fun e w => ∃ (x0 : SV), e = .returned (SV.v x0) ∧ K x0 w
/-- What comes back from signpost.signpostref8.Encode. -/
def R13 (K : SV → Bool → World → Prop) : Ending → World → Prop := fun e w => ∃ (x0 : SV) (x1 : Bool), e = .returned (Value.tuple #[(SV.v x0), (Value.bool x1)]) ∧ K x0 x1 w
/-- What comes back from signpost.signpostkeep.Cut. -/
def R14 (K : SV → World → Prop) : Ending → World → Prop := fun e w => ∃ (x0 : SV), e = .returned (SV.v x0) ∧ K x0 w
/-- What comes back from signpost.signpostbook.Within. -/
def R15 (K : Int → World → Prop) : Ending → World → Prop := fun e w => ∃ (x0 : Int), e = .returned (Value.int .i64 x0) ∧ K x0 w
/-- What comes back from signpost.nlri.Encode. -/
def R16 (K : SV → Int → World → Prop) : Ending → World → Prop := fun e w => ∃ (x0 : SV) (x1 : Int), e = .returned (Value.tuple #[(SV.v x0), (Value.int .i64 x1)]) ∧ K x0 x1 w
/-- What comes back from signpost.nlri.Decode. -/
def R17 (K : SV → Bool → World → Prop) : Ending → World → Prop := fun e w => ∃ (x0 : SV) (x1 : Bool), e = .returned (Value.tuple #[(SV.v x0), (Value.bool x1)]) ∧ K x0 x1 w
/-- What comes back from signpost.nlri.Size. -/
def R18 (K : Int → World → Prop) : Ending → World → Prop := fun e w => ∃ (x0 : Int), e = .returned (Value.int .i64 x0) ∧ K x0 w
/-- What comes back from signpost.signpostbook.Same[signpost.api.Prefix]. -/
def R19 (K : Bool → World → Prop) : Ending → World → Prop := fun e w => ∃ (x0 : Bool), e = .returned (Value.bool x0) ∧ K x0 w
/-- What comes back from signpost.signpostkeep.Any. -/
def R20 (K : Int → Int → World → Prop) : Ending → World → Prop := fun e w => ∃ (x0 : Int) (x1 : Int), e = .returned (Value.agg #[(Value.int .u32 x0), (Value.int .i64 x1)]) ∧ K x0 x1 w
/-- What comes back from signpost.signpostref1.Mask. -/
def R21 (K : Int → World → Prop) : Ending → World → Prop := fun e w => ∃ (x0 : Int), e = .returned (Value.int .u32 x0) ∧ K x0 w
/-- What comes back from signpost.signpostref8.Size. -/
def R22 (K : Int → World → Prop) : Ending → World → Prop := fun e w => ∃ (x0 : Int), e = .returned (Value.int .i64 x0) ∧ K x0 w
/-- What comes back from signpost.signpostref8.Decode. -/
def R23 (K : SV → Bool → World → Prop) : Ending → World → Prop := fun e w => ∃ (x0 : SV) (x1 : Bool), e = .returned (Value.tuple #[(SV.v x0), (Value.bool x1)]) ∧ K x0 x1 w
/-- What comes back from signpost.signpostref1.Right. -/
def R24 (K : Bool → World → Prop) : Ending → World → Prop := fun e w => ∃ (x0 : Bool), e = .returned (Value.bool x0) ∧ K x0 w
/-- What comes back from signpost.signpostref4.U32. -/
def R25 (K : SV → World → Prop) : Ending → World → Prop := fun e w => ∃ (x0 : SV), e = .returned (SV.v x0) ∧ K x0 w
/-- What comes back from signpost.wire.NewWriter. -/
def R26 (K : Option Addr → World → Prop) : Ending → World → Prop := fun e w => ∃ (x0 : Option Addr), e = .returned (Value.pointer x0) ∧ K x0 w
/-- What comes back from signpost.addr.Right. -/
def R27 (K : Bool → World → Prop) : Ending → World → Prop := fun e w => ∃ (x0 : Bool), e = .returned (Value.bool x0) ∧ K x0 w
/-- What comes back from (*signpost.wire.Writer).U8. -/
def R28 (K : World → Prop) : Ending → World → Prop := fun e w => e = .returned (Value.tuple #[]) ∧ K w
/-- What comes back from (*signpost.wire.Writer).Done. -/
def R29 (K : SV → World → Prop) : Ending → World → Prop := fun e w => ∃ (x0 : SV), e = .returned (SV.v x0) ∧ K x0 w
/-- What comes back from signpost.wire.NewReader. -/
def R30 (K : Option Addr → World → Prop) : Ending → World → Prop := fun e w => ∃ (x0 : Option Addr), e = .returned (Value.pointer x0) ∧ K x0 w
/-- What comes back from (*signpost.wire.Reader).Left. -/
def R31 (K : Int → World → Prop) : Ending → World → Prop := fun e w => ∃ (x0 : Int), e = .returned (Value.int .i64 x0) ∧ K x0 w
/-- What comes back from (*signpost.wire.Reader).U8. -/
def R32 (K : Int → World → Prop) : Ending → World → Prop := fun e w => ∃ (x0 : Int), e = .returned (Value.int .i64 x0) ∧ K x0 w
/-- What comes back from (*signpost.wire.Reader).Raw. -/
def R33 (K : SV → World → Prop) : Ending → World → Prop := fun e w => ∃ (x0 : SV), e = .returned (SV.v x0) ∧ K x0 w
/-- What comes back from signpost.addr.Of. -/
def R34 (K : Int → Int → World → Prop) : Ending → World → Prop := fun e w => ∃ (x0 : Int) (x1 : Int), e = .returned (Value.agg #[(Value.int .u32 x0), (Value.int .i64 x1)]) ∧ K x0 x1 w
/-- What comes back from (*signpost.wire.Reader).Fine. -/
def R35 (K : Bool → World → Prop) : Ending → World → Prop := fun e w => ∃ (x0 : Bool), e = .returned (Value.bool x0) ∧ K x0 w
/-- What comes back from (*signpost.signpostref4.Reader).Left. -/
def R36 (K : Int → World → Prop) : Ending → World → Prop := fun e w => ∃ (x0 : Int), e = .returned (Value.int .i64 x0) ∧ K x0 w
/-- What comes back from (*signpost.signpostref4.Reader).U8. -/
def R37 (K : Int → World → Prop) : Ending → World → Prop := fun e w => ∃ (x0 : Int), e = .returned (Value.int .i64 x0) ∧ K x0 w
/-- What comes back from (*signpost.signpostref4.Reader).Raw. -/
def R38 (K : SV → World → Prop) : Ending → World → Prop := fun e w => ∃ (x0 : SV), e = .returned (SV.v x0) ∧ K x0 w
/-- What comes back from (*signpost.signpostref4.Reader).U32. -/
def R39 (K : Int → World → Prop) : Ending → World → Prop := fun e w => ∃ (x0 : Int), e = .returned (Value.int .u32 x0) ∧ K x0 w
/-- What comes back from signpost.addr.Mask. -/
def R40 (K : Int → World → Prop) : Ending → World → Prop := fun e w => ∃ (x0 : Int), e = .returned (Value.int .u32 x0) ∧ K x0 w
/-- What comes back from (*signpost.wire.Writer).put. -/
def R41 (K : World → Prop) : Ending → World → Prop := fun e w => e = .returned (Value.tuple #[]) ∧ K w
/-- What comes back from slices.Clone[[]byte,byte]. -/
def R42 (K : SV → World → Prop) : Ending → World → Prop := fun e w => ∃ (x0 : SV), e = .returned (SV.v x0) ∧ K x0 w
/-- What comes back from (*signpost.wire.Reader).get. -/
def R43 (K : Int → World → Prop) : Ending → World → Prop := fun e w => ∃ (x0 : Int), e = .returned (Value.int .u64 x0) ∧ K x0 w
/-- What comes back from (*signpost.signpostref4.Reader).number. -/
def R44 (K : Int → World → Prop) : Ending → World → Prop := fun e w => ∃ (x0 : Int), e = .returned (Value.int .u32 x0) ∧ K x0 w
end Go.Proofs.Ytfcgkkgdnagmcaa
