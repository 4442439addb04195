/-
  The closed facts on types and functions that the printed proofs use, and what comes back from each function.
-/
import Derived.Test.YtdlefnpnnpohmaaProg
import Derived.Test.YtdlefnpnnpohmaaSpMem
import Derived.KernelRfl
namespace Go.Proofs.Ytdlefnpnnpohmaa
set_option linter.unusedVariables false
set_option linter.unusedSimpArgs false
open Go.Sp
def str0 : ByteArray := { data := #[1, 255] }
def str1 : ByteArray := { data := #[4, 253, 233, 0, 90, 10, 0, 0, 1, 0] }
theorem ag26 : aggB Try.prog 26 = true := by kernel_rfl
theorem ag29 : aggB Try.prog 29 = true := by kernel_rfl
theorem ag35 : aggB Try.prog 35 = true := by kernel_rfl
theorem bd10 : bodyB Try.prog 10 = true := by kernel_rfl
theorem bd11 : bodyB Try.prog 11 = true := by kernel_rfl
theorem bd12 : bodyB Try.prog 12 = true := by kernel_rfl
theorem bd13 : bodyB Try.prog 13 = true := by kernel_rfl
theorem bd14 : bodyB Try.prog 14 = true := by kernel_rfl
theorem bd15 : bodyB Try.prog 15 = true := by kernel_rfl
theorem bd16 : bodyB Try.prog 16 = true := by kernel_rfl
theorem bd17 : bodyB Try.prog 17 = true := by kernel_rfl
theorem bd18 : bodyB Try.prog 18 = true := by kernel_rfl
theorem bd19 : bodyB Try.prog 19 = true := by kernel_rfl
theorem bd20 : bodyB Try.prog 20 = true := by kernel_rfl
theorem bd21 : bodyB Try.prog 21 = true := by kernel_rfl
theorem bd22 : bodyB Try.prog 22 = true := by kernel_rfl
theorem bd23 : bodyB Try.prog 23 = true := by kernel_rfl
theorem bd24 : bodyB Try.prog 24 = true := by kernel_rfl
theorem bd25 : bodyB Try.prog 25 = true := by kernel_rfl
theorem bd26 : bodyB Try.prog 26 = true := by kernel_rfl
theorem bd27 : bodyB Try.prog 27 = true := by kernel_rfl
theorem bd28 : bodyB Try.prog 28 = true := by kernel_rfl
theorem bd29 : bodyB Try.prog 29 = true := by kernel_rfl
theorem bd30 : bodyB Try.prog 30 = true := by kernel_rfl
theorem bd31 : bodyB Try.prog 31 = true := by kernel_rfl
theorem bd32 : bodyB Try.prog 32 = true := by kernel_rfl
theorem bd33 : bodyB Try.prog 33 = true := by kernel_rfl
theorem bd34 : bodyB Try.prog 34 = true := by kernel_rfl
theorem bd35 : bodyB Try.prog 35 = true := by kernel_rfl
theorem bd36 : bodyB Try.prog 36 = true := by kernel_rfl
theorem bd37 : bodyB Try.prog 37 = true := by kernel_rfl
theorem bd38 : bodyB Try.prog 38 = true := by kernel_rfl
theorem bd39 : bodyB Try.prog 39 = true := by kernel_rfl
theorem bd40 : bodyB Try.prog 40 = true := by kernel_rfl
theorem bd41 : bodyB Try.prog 41 = true := by kernel_rfl
theorem bd42 : bodyB Try.prog 42 = true := by kernel_rfl
theorem bd43 : bodyB Try.prog 43 = true := by kernel_rfl
theorem bd44 : bodyB Try.prog 44 = true := by kernel_rfl
theorem bd45 : bodyB Try.prog 45 = true := by kernel_rfl
theorem bd8 : bodyB Try.prog 8 = true := by kernel_rfl
theorem bd9 : bodyB Try.prog 9 = true := by kernel_rfl
theorem bo4 : boolB Try.prog 4 = true := by kernel_rfl
theorem bs23_0  (w : World) : (Instr.buildSlice 23 0 #[]).run Try.prog w = .ok (.slice (some ⟨w.heap.size, 0, none⟩) 0 0) (w.alloc (.cells #[] 5)) := by simp [go_sem]
theorem bs23_1 (x0 : Int) (w : World) : (Instr.buildSlice 23 1 #[(0, (Value.int .u8 x0))]).run Try.prog w = .ok (.slice (some ⟨w.heap.size, 0, none⟩) 1 1) (w.alloc (.cells #[(Value.int .u8 x0)] 5)) := by simp [go_sem]
theorem bs23_10 (x0 : Int) (x1 : Int) (x2 : Int) (x3 : Int) (x4 : Int) (x5 : Int) (x6 : Int) (x7 : Int) (x8 : Int) (x9 : Int) (w : World) : (Instr.buildSlice 23 10 #[(0, (Value.int .u8 x0)), (1, (Value.int .u8 x1)), (2, (Value.int .u8 x2)), (3, (Value.int .u8 x3)), (4, (Value.int .u8 x4)), (5, (Value.int .u8 x5)), (6, (Value.int .u8 x6)), (7, (Value.int .u8 x7)), (8, (Value.int .u8 x8)), (9, (Value.int .u8 x9))]).run Try.prog w = .ok (.slice (some ⟨w.heap.size, 0, none⟩) 10 10) (w.alloc (.cells #[(Value.int .u8 x0), (Value.int .u8 x1), (Value.int .u8 x2), (Value.int .u8 x3), (Value.int .u8 x4), (Value.int .u8 x5), (Value.int .u8 x6), (Value.int .u8 x7), (Value.int .u8 x8), (Value.int .u8 x9)] 5)) := by simp [go_sem]
theorem bs23_2 (x0 : Int) (x1 : Int) (w : World) : (Instr.buildSlice 23 2 #[(0, (Value.int .u8 x0)), (1, (Value.int .u8 x1))]).run Try.prog w = .ok (.slice (some ⟨w.heap.size, 0, none⟩) 2 2) (w.alloc (.cells #[(Value.int .u8 x0), (Value.int .u8 x1)] 5)) := by simp [go_sem]
theorem bs23_3 (x0 : Int) (x1 : Int) (x2 : Int) (w : World) : (Instr.buildSlice 23 3 #[(0, (Value.int .u8 x0)), (1, (Value.int .u8 x1)), (2, (Value.int .u8 x2))]).run Try.prog w = .ok (.slice (some ⟨w.heap.size, 0, none⟩) 3 3) (w.alloc (.cells #[(Value.int .u8 x0), (Value.int .u8 x1), (Value.int .u8 x2)] 5)) := by simp [go_sem]
theorem bs23_4 (x0 : Int) (x1 : Int) (x2 : Int) (x3 : Int) (w : World) : (Instr.buildSlice 23 4 #[(0, (Value.int .u8 x0)), (1, (Value.int .u8 x1)), (2, (Value.int .u8 x2)), (3, (Value.int .u8 x3))]).run Try.prog w = .ok (.slice (some ⟨w.heap.size, 0, none⟩) 4 4) (w.alloc (.cells #[(Value.int .u8 x0), (Value.int .u8 x1), (Value.int .u8 x2), (Value.int .u8 x3)] 5)) := by simp [go_sem]
theorem bs23_7 (x0 : Int) (x1 : Int) (x2 : Int) (x3 : Int) (x4 : Int) (x5 : Int) (x6 : Int) (w : World) : (Instr.buildSlice 23 7 #[(0, (Value.int .u8 x0)), (1, (Value.int .u8 x1)), (2, (Value.int .u8 x2)), (3, (Value.int .u8 x3)), (4, (Value.int .u8 x4)), (5, (Value.int .u8 x5)), (6, (Value.int .u8 x6))]).run Try.prog w = .ok (.slice (some ⟨w.heap.size, 0, none⟩) 7 7) (w.alloc (.cells #[(Value.int .u8 x0), (Value.int .u8 x1), (Value.int .u8 x2), (Value.int .u8 x3), (Value.int .u8 x4), (Value.int .u8 x5), (Value.int .u8 x6)] 5)) := by simp [go_sem]
theorem bs38_7 (x0 : Int) (x1 : Int) (x2 : SV) (x3 : Int) (x4 : Int) (x5 : SV) (x6 : Int) (x7 : Int) (x8 : SV) (x9 : Int) (x10 : Int) (x11 : SV) (x12 : Int) (x13 : Int) (x14 : SV) (x15 : Int) (x16 : Int) (x17 : SV) (x18 : Int) (x19 : Int) (x20 : SV) (w : World) : (Instr.buildSlice 38 7 #[(0, (Value.agg #[(Value.int .i64 x0), (Value.int .i64 x1), (SV.v x2)])), (1, (Value.agg #[(Value.int .i64 x3), (Value.int .i64 x4), (SV.v x5)])), (2, (Value.agg #[(Value.int .i64 x6), (Value.int .i64 x7), (SV.v x8)])), (3, (Value.agg #[(Value.int .i64 x9), (Value.int .i64 x10), (SV.v x11)])), (4, (Value.agg #[(Value.int .i64 x12), (Value.int .i64 x13), (SV.v x14)])), (5, (Value.agg #[(Value.int .i64 x15), (Value.int .i64 x16), (SV.v x17)])), (6, (Value.agg #[(Value.int .i64 x18), (Value.int .i64 x19), (SV.v x20)]))]).run Try.prog w = .ok (.slice (some ⟨w.heap.size, 0, none⟩) 7 7) (w.alloc (.cells #[(Value.int .i64 x0), (Value.int .i64 x1), (SV.v x2), (Value.int .i64 x3), (Value.int .i64 x4), (SV.v x5), (Value.int .i64 x6), (Value.int .i64 x7), (SV.v x8), (Value.int .i64 x9), (Value.int .i64 x10), (SV.v x11), (Value.int .i64 x12), (Value.int .i64 x13), (SV.v x14), (Value.int .i64 x15), (Value.int .i64 x16), (SV.v x17), (Value.int .i64 x18), (Value.int .i64 x19), (SV.v x20)] 35)) := by simp [go_sem]
theorem bs45_8 (x0 : Int) (x1 : Int) (x2 : Int) (x3 : Int) (x4 : Int) (x5 : Int) (x6 : Int) (x7 : Int) (w : World) : (Instr.buildSlice 45 8 #[(0, (Value.int .i64 x0)), (1, (Value.int .i64 x1)), (2, (Value.int .i64 x2)), (3, (Value.int .i64 x3)), (4, (Value.int .i64 x4)), (5, (Value.int .i64 x5)), (6, (Value.int .i64 x6)), (7, (Value.int .i64 x7))]).run Try.prog w = .ok (.slice (some ⟨w.heap.size, 0, none⟩) 8 8) (w.alloc (.cells #[(Value.int .i64 x0), (Value.int .i64 x1), (Value.int .i64 x2), (Value.int .i64 x3), (Value.int .i64 x4), (Value.int .i64 x5), (Value.int .i64 x6), (Value.int .i64 x7)] 3)) := by simp [go_sem]
theorem bs78_2 (x0 : SV) (x1 : SV) (w : World) : (Instr.buildSlice 78 2 #[(0, (SV.v x0)), (1, (SV.v x1))]).run Try.prog w = .ok (.slice (some ⟨w.heap.size, 0, none⟩) 2 2) (w.alloc (.cells #[(SV.v x0), (SV.v x1)] 23)) := by simp [go_sem]
theorem bu26_  (w : World) : (Instr.build 26 #[]).run Try.prog w = .ok (.agg #[(Value.int .i64 (0 : Int)), (Value.int .i64 (0 : Int)), (Value.int .u32 (0 : Int))]) w := by simp [go_sem]
theorem bu26_0_1_2 (x0 : Int) (x1 : Int) (x2 : Int) (w : World) : (Instr.build 26 #[(0, (Value.int .i64 x0)), (1, (Value.int .i64 x1)), (2, (Value.int .u32 x2))]).run Try.prog w = .ok (.agg #[(Value.int .i64 x0), (Value.int .i64 x1), (Value.int .u32 x2)]) w := by simp [go_sem]
theorem bu29_  (w : World) : (Instr.build 29 #[]).run Try.prog w = .ok (.agg #[(Value.int .i64 (0 : Int)), (Value.int .i64 (0 : Int)), (Value.int .u32 (0 : Int))]) w := by simp [go_sem]
theorem bu29_0_1_2 (x0 : Int) (x1 : Int) (x2 : Int) (w : World) : (Instr.build 29 #[(0, (Value.int .i64 x0)), (1, (Value.int .i64 x1)), (2, (Value.int .u32 x2))]).run Try.prog w = .ok (.agg #[(Value.int .i64 x0), (Value.int .i64 x1), (Value.int .u32 x2)]) w := by simp [go_sem]
theorem bu35_  (w : World) : (Instr.build 35 #[]).run Try.prog w = .ok (.agg #[(Value.int .i64 (0 : Int)), (Value.int .i64 (0 : Int)), (SV.v SV.nil)]) w := by simp [go_sem]
theorem bu35_0 (x0 : Int) (w : World) : (Instr.build 35 #[(0, (Value.int .i64 x0))]).run Try.prog w = .ok (.agg #[(Value.int .i64 x0), (Value.int .i64 (0 : Int)), (SV.v SV.nil)]) w := by simp [go_sem]
theorem bu35_0_1 (x0 : Int) (x1 : Int) (w : World) : (Instr.build 35 #[(0, (Value.int .i64 x0)), (1, (Value.int .i64 x1))]).run Try.prog w = .ok (.agg #[(Value.int .i64 x0), (Value.int .i64 x1), (SV.v SV.nil)]) w := by simp [go_sem]
theorem bu35_0_1_2 (x0 : Int) (x1 : Int) (x2 : SV) (w : World) : (Instr.build 35 #[(0, (Value.int .i64 x0)), (1, (Value.int .i64 x1)), (2, (SV.v x2))]).run Try.prog w = .ok (.agg #[(Value.int .i64 x0), (Value.int .i64 x1), (SV.v x2)]) w := by simp [go_sem]
theorem bu70_0 (x0 : SV) (w : World) : (Instr.build 70 #[(0, (SV.v x0))]).run Try.prog w = .ok (.agg #[(SV.v x0), (Value.int .i64 (0 : Int)), (Value.bool false)]) w := by simp [go_sem]
theorem bu72_0 (x0 : SV) (w : World) : (Instr.build 72 #[(0, (SV.v x0))]).run Try.prog w = .ok (.agg #[(SV.v x0), (Value.bool false)]) w := by simp [go_sem]
theorem bu76_  (w : World) : (Instr.build 76 #[]).run Try.prog w = .ok (.agg #[(SV.v SV.nil)]) w := by simp [go_sem]
theorem fa26_0 : fieldB Try.prog 26 0 0 = true := by kernel_rfl
theorem fa26_1 : fieldB Try.prog 26 1 1 = true := by kernel_rfl
theorem fa26_2 : fieldB Try.prog 26 2 2 = true := by kernel_rfl
theorem fa29_0 : fieldB Try.prog 29 0 0 = true := by kernel_rfl
theorem fa29_1 : fieldB Try.prog 29 1 1 = true := by kernel_rfl
theorem fa29_2 : fieldB Try.prog 29 2 2 = true := by kernel_rfl
theorem fa35_0 : fieldB Try.prog 35 0 0 = true := by kernel_rfl
theorem fa35_1 : fieldB Try.prog 35 1 1 = true := by kernel_rfl
theorem fa35_2 : fieldB Try.prog 35 2 2 = true := by kernel_rfl
theorem fa70_0 : fieldB Try.prog 70 0 0 = true := by kernel_rfl
theorem fa70_1 : fieldB Try.prog 70 1 1 = true := by kernel_rfl
theorem fa70_2 : fieldB Try.prog 70 2 2 = true := by kernel_rfl
theorem fa72_0 : fieldB Try.prog 72 0 0 = true := by kernel_rfl
theorem fa72_1 : fieldB Try.prog 72 1 1 = true := by kernel_rfl
theorem fa76_0 : fieldB Try.prog 76 0 0 = true := by kernel_rfl
theorem in22 : intB Try.prog 22 .u32 = true := by kernel_rfl
theorem in3 : intB Try.prog 3 .i64 = true := by kernel_rfl
theorem in5 : intB Try.prog 5 .u8 = true := by kernel_rfl
theorem in73 : intB Try.prog 73 .u64 = true := by kernel_rfl
theorem mix : Try.prog.follows .mixedOrders = true := by kernel_rfl
theorem sc22 : scalarB Try.prog 22 = true := by kernel_rfl
theorem sc23 : scalarB Try.prog 23 = true := by kernel_rfl
theorem sc3 : scalarB Try.prog 3 = true := by kernel_rfl
theorem sc4 : scalarB Try.prog 4 = true := by kernel_rfl
theorem sc5 : scalarB Try.prog 5 = true := by kernel_rfl
theorem sf29 : (Try.prog.fieldsOf 29).toList = [{ name := "AS", type := 3, offset := 0, embedded := false, tag := "", pkgPath := "", byteOffset := 0 }, { name := "Hold", type := 3, offset := 1, embedded := false, tag := "", pkgPath := "", byteOffset := 8 }, { name := "ID", type := 22, offset := 2, embedded := false, tag := "", pkgPath := "", byteOffset := 16 }] := by kernel_rfl
theorem sg29 : Try.prog.eqGuardType Try.prog.depth 29 = false := by kernel_rfl
theorem si29 : Try.prog.stoodInHeld 29 = false := by kernel_rfl
theorem sl23 : sliceB Try.prog 23 5 1 = true := by kernel_rfl
theorem sl38 : sliceB Try.prog 38 35 3 = true := by kernel_rfl
theorem sl45 : sliceB Try.prog 45 3 1 = true := by kernel_rfl
theorem sl78 : sliceB Try.prog 78 23 1 = true := by kernel_rfl
theorem su29 : Try.prog.underlying 29 = some (.struct (Try.prog.fieldsOf 29)) := by kernel_rfl
theorem sz23 : sizeB Try.prog 23 1 = true := by kernel_rfl
theorem sz26 : sizeB Try.prog 26 3 = true := by kernel_rfl
theorem sz29 : sizeB Try.prog 29 3 = true := by kernel_rfl
theorem sz3 : sizeB Try.prog 3 1 = true := by kernel_rfl
theorem sz35 : sizeB Try.prog 35 3 = true := by kernel_rfl
theorem sz4 : sizeB Try.prog 4 1 = true := by kernel_rfl
theorem sz5 : sizeB Try.prog 5 1 = true := by kernel_rfl
theorem un22 : Try.prog.underlying 22 = some (.int .u32) := by kernel_rfl
theorem un3 : Try.prog.underlying 3 = some (.int .i64) := by kernel_rfl
theorem ze26 : (Try.prog.info? 26).map (·.zero) = some (some (Value.agg #[(Value.int .i64 (0 : Int)), (Value.int .i64 (0 : Int)), (Value.int .u32 (0 : Int))])) := by kernel_rfl
theorem ze29 : (Try.prog.info? 29).map (·.zero) = some (some (Value.agg #[(Value.int .i64 (0 : Int)), (Value.int .i64 (0 : Int)), (Value.int .u32 (0 : Int))])) := by kernel_rfl
theorem ze35 : (Try.prog.info? 35).map (·.zero) = some (some (Value.agg #[(Value.int .i64 (0 : Int)), (Value.int .i64 (0 : Int)), (SV.v SV.nil)])) := by kernel_rfl
theorem eq29 (x0 y0 : Int) (x1 y1 : Int) (x2 y2 : Int) (w : World) : (Op.equalIn 10000 29 (.agg #[(Value.int .i64 x0), (Value.int .i64 x1), (Value.int .u32 x2)]) (.agg #[(Value.int .i64 y0), (Value.int .i64 y1), (Value.int .u32 y2)])).run Try.prog w = .ok ((x0 == y0) && ((x1 == y1) && (x2 == y2))) w := by
  rw [run_equalIn_agg w 9999 29 _ _ su29 si29]
  simp only [sf29]
  have e0 := run_equalIn_int w 9998 3 .i64 .i64 x0 y0 un3
  have e1 := run_equalIn_int w 9998 3 .i64 .i64 x1 y1 un3
  have e2 := run_equalIn_int w 9998 22 .u32 .u32 x2 y2 un22
  simp only [Nat.reduceAdd] at e0 e1 e2
  simp [Op.eqFields, part, scalarB_run sc3, scalarB_run sc22, e0, e1, e2]
  by_cases h0 : x0 = y0 <;> by_cases h1 : x1 = y1 <;> by_cases h2 : x2 = y2 <;> simp [h0, h1, h2]
/-- What comes back from signpost.signpostlaw10.OpenTells. -/
def R3 (K : Bool → World → Prop) : Ending → World → Prop := fun e w => ∃ (x0 : Bool), e = .returned (Value.bool x0) ∧ K x0 w
/-- What comes back from signpost.signpostlaw10.OpenFirst. -/
def R4 (K : Bool → World → Prop) : Ending → World → Prop := fun e w => ∃ (x0 : Bool), e = .returned (Value.bool x0) ∧ K x0 w
/-- What comes back from signpost.signpostlaw10.OpenSizes. -/
def R5 (K : Bool → World → Prop) : Ending → World → Prop := fun e w => ∃ (x0 : Bool), e = .returned (Value.bool x0) ∧ K x0 w
/-- What comes back from signpost.signpostlaw10.OpenNumbers. -/
def R6 (K : Bool → World → Prop) : Ending → World → Prop := fun e w => ∃ (x0 : Bool), e = .returned (Value.bool x0) ∧ K x0 w
/-- What comes back from signpost.signpostlaw10.OpenBack. -/
def R7 (K : Bool → World → Prop) : Ending → World → Prop := fun e w => ∃ (x0 : Bool), e = .returned (Value.bool x0) ∧ K x0 w
/-- What comes back from signpost.signpostbook.Within. -/
def R8 (K : Int → World → Prop) : Ending → World → Prop := fun e w => ∃ (x0 : Int), e = .returned (Value.int .i64 x0) ∧ K x0 w
/-- What comes back from signpost.signpostref10.Encode. -/
def R9 (K : SV → World → Prop) : Ending → World → Prop := fun e w => ∃ (x0 : SV), e = .returned (SV.v x0) ∧ K x0 w
/-- What comes back from signpost.signpostlaw10.same. -/
def R10 (K : Bool → World → Prop) : Ending → World → Prop := fun e w => ∃ (x0 : Bool), e = .returned (Value.bool x0) ∧ K x0 w
/-- What comes back from signpost.signpostlaw10.read. -/
def R11 (K : Bool → World → Prop) : Ending → World → Prop := fun e w => ∃ (x0 : Bool), e = .returned (Value.bool x0) ∧ K x0 w
/-- What comes back from signpost.signpostkeep.Cut. -/
def R12 (K : SV → World → Prop) : Ending → World → Prop := fun e w => ∃ (x0 : SV), e = .returned (SV.v x0) ∧ K x0 w
/-- What comes back from signpost.signpostlaw10.known. -/
def R13 (K : Bool → World → Prop) : Ending → World → Prop := fun e w => ∃ (x0 : Bool), e = .returned (Value.bool x0) ∧ K x0 w
/-- What comes back from signpost.open.Decode. -/
def R14 (K : Int → Int → Int → Int → Int → SV → World → Prop) : Ending → World → Prop := fun e w => ∃ (x0 : Int) (x1 : Int) (x2 : Int) (x3 : Int) (x4 : Int) (x5 : SV), e = .returned (Value.tuple #[(Value.agg #[(Value.int .i64 x0), (Value.int .i64 x1), (Value.int .u32 x2)]), (Value.agg #[(Value.int .i64 x3), (Value.int .i64 x4), (SV.v x5)])]) ∧ K x0 x1 x2 x3 x4 x5 w
/-- What comes back from signpost.signpostkeep.Note. -/
def R15 (K : Bool → World → Prop) : Ending → World → Prop := fun e w => ∃ (x0 : Bool), e = .returned (Value.bool x0) ∧ K x0 w
/-- What comes back from signpost.open.Encode. -/
def R16 (K : SV → Int → World → Prop) : Ending → World → Prop := fun e w => ∃ (x0 : SV) (x1 : Int), e = .returned (Value.tuple #[(SV.v x0), (Value.int .i64 x1)]) ∧ K x0 x1 w
/-- What comes back from signpost.open.DecodeNote. -/
def R17 (K : Int → Int → SV → Bool → World → Prop) : Ending → World → Prop := fun e w => ∃ (x0 : Int) (x1 : Int) (x2 : SV) (x3 : Bool), e = .returned (Value.tuple #[(Value.agg #[(Value.int .i64 x0), (Value.int .i64 x1), (SV.v x2)]), (Value.bool x3)]) ∧ K x0 x1 x2 x3 w
/-- What comes back from signpost.open.EncodeNote. -/
def R18 (K : SV → World → Prop) : Ending → World → Prop := fun e w => ∃ (x0 : SV), e = .returned (SV.v x0) ∧ K x0 w
/-- What comes back from signpost.signpostref4.U16. -/
def R19 (K : SV → World → Prop) : Ending → World → Prop := fun e w => ∃ (x0 : SV), e = .returned (SV.v x0) ∧ K x0 w
/-- What comes back from signpost.signpostref4.U32. -/
def R20 (K : SV → World → Prop) : Ending → World → Prop := fun e w => ∃ (x0 : SV), e = .returned (SV.v x0) ∧ K x0 w
/-- What comes back from signpost.signpostref10.Right. -/
def R21 (K : Bool → World → Prop) : Ending → World → Prop := fun e w => ∃ (x0 : Bool), e = .returned (Value.bool x0) ∧ K x0 w
/-- What comes back from signpost.signpostref10.Decode. -/
def R22 (K : Int → Int → Int → Int → Int → SV → World → Prop) : Ending → World → Prop := fun e w => ∃ (x0 : Int) (x1 : Int) (x2 : Int) (x3 : Int) (x4 : Int) (x5 : SV), e = .returned (Value.tuple #[(Value.agg #[(Value.int .i64 x0), (Value.int .i64 x1), (Value.int .u32 x2)]), (Value.agg #[(Value.int .i64 x3), (Value.int .i64 x4), (SV.v x5)])]) ∧ K x0 x1 x2 x3 x4 x5 w
/-- What comes back from signpost.wire.NewReader. -/
def R23 (K : Option Addr → World → Prop) : Ending → World → Prop := fun e w => ∃ (x0 : Option Addr), e = .returned (Value.pointer x0) ∧ K x0 w
/-- What comes back from (*signpost.wire.Reader).U8. -/
def R24 (K : Int → World → Prop) : Ending → World → Prop := fun e w => ∃ (x0 : Int), e = .returned (Value.int .i64 x0) ∧ K x0 w
/-- What comes back from (*signpost.wire.Reader).U16. -/
def R25 (K : Int → World → Prop) : Ending → World → Prop := fun e w => ∃ (x0 : Int), e = .returned (Value.int .i64 x0) ∧ K x0 w
/-- What comes back from (*signpost.wire.Reader).U32. -/
def R26 (K : Int → World → Prop) : Ending → World → Prop := fun e w => ∃ (x0 : Int), e = .returned (Value.int .u32 x0) ∧ K x0 w
/-- What comes back from signpost.open.note. -/
def R27 (K : Int → Int → SV → World → Prop) : Ending → World → Prop := fun e w => ∃ (x0 : Int) (x1 : Int) (x2 : SV), e = .returned (Value.agg #[(Value.int .i64 x0), (Value.int .i64 x1), (SV.v x2)]) ∧ K x0 x1 x2 w
/-- What comes back from (*signpost.wire.Reader).Left. -/
def R28 (K : Int → World → Prop) : Ending → World → Prop := fun e w => ∃ (x0 : Int), e = .returned (Value.int .i64 x0) ∧ K x0 w
/-- What comes back from signpost.wire.NewWriter. -/
def R29 (K : Option Addr → World → Prop) : Ending → World → Prop := fun e w => ∃ (x0 : Option Addr), e = .returned (Value.pointer x0) ∧ K x0 w
/-- What comes back from (*signpost.wire.Writer).U8. -/
def R30 (K : World → Prop) : Ending → World → Prop := fun e w => e = .returned (Value.tuple #[]) ∧ K w
/-- What comes back from (*signpost.wire.Writer).U16. -/
def R31 (K : World → Prop) : Ending → World → Prop := fun e w => e = .returned (Value.tuple #[]) ∧ K w
/-- What comes back from (*signpost.wire.Writer).U32. -/
def R32 (K : World → Prop) : Ending → World → Prop := fun e w => e = .returned (Value.tuple #[]) ∧ K w
/-- What comes back from (*signpost.wire.Writer).Done. -/
def R33 (K : SV → World → Prop) : Ending → World → Prop := fun e w => ∃ (x0 : SV), e = .returned (SV.v x0) ∧ K x0 w
/-- What comes back from slices.Clone[[]byte,byte]. -/
def R34 (K : SV → World → Prop) : Ending → World → Prop := fun e w => ∃ (x0 : SV), e = .returned (SV.v x0) ∧ K x0 w
/-- What comes back from slices.Concat[[]byte,byte]. -/
def R35 (K : SV → World → Prop) : Ending → World → Prop := fun e w => ∃ (x0 : SV), e = .returned (SV.v x0) ∧ K x0 w
/-- What comes back from signpost.signpostref10.note. -/
def R36 (K : Int → Int → Int → Int → Int → SV → World → Prop) : Ending → World → Prop := fun e w => ∃ (x0 : Int) (x1 : Int) (x2 : Int) (x3 : Int) (x4 : Int) (x5 : SV), e = .returned (Value.tuple #[(Value.agg #[(Value.int .i64 x0), (Value.int .i64 x1), (Value.int .u32 x2)]), (Value.agg #[(Value.int .i64 x3), (Value.int .i64 x4), (SV.v x5)])]) ∧ K x0 x1 x2 x3 x4 x5 w
/-- What comes back from (*signpost.signpostref4.Reader).U8. -/
def R37 (K : Int → World → Prop) : Ending → World → Prop := fun e w => ∃ (x0 : Int), e = .returned (Value.int .i64 x0) ∧ K x0 w
/-- What comes back from (*signpost.signpostref4.Reader).U16. -/
def R38 (K : Int → World → Prop) : Ending → World → Prop := fun e w => ∃ (x0 : Int), e = .returned (Value.int .i64 x0) ∧ K x0 w
/-- What comes back from (*signpost.signpostref4.Reader).U32. -/
def R39 (K : Int → World → Prop) : Ending → World → Prop := fun e w => ∃ (x0 : Int), e = .returned (Value.int .u32 x0) ∧ K x0 w
/-- What comes back from (*signpost.wire.Reader).get. -/
def R40 (K : Int → World → Prop) : Ending → World → Prop := fun e w => ∃ (x0 : Int), e = .returned (Value.int .u64 x0) ∧ K x0 w
/-- What comes back from (*signpost.wire.Writer).put. -/
def R41 (K : World → Prop) : Ending → World → Prop := fun e w => e = .returned (Value.tuple #[]) ∧ K w
/-- What comes back from slices.Grow[[]byte,byte]. -/
def R42 (K : SV → World → Prop) : Ending → World → Prop := fun e w => ∃ (x0 : SV), e = .returned (SV.v x0) ∧ K x0 w
/-- What comes back from (*signpost.signpostref4.Reader).number. -/
def R43 (K : Int → World → Prop) : Ending → World → Prop := fun e w => ∃ (x0 : Int), e = .returned (Value.int .u32 x0) ∧ K x0 w
/-- What comes back from (*signpost.wire.Reader).Raw. -/
def R44 (K : SV → World → Prop) : Ending → World → Prop := fun e w => ∃ (x0 : SV), e = .returned (SV.v x0) ∧ K x0 w
/-- What comes back from (*signpost.signpostref4.Reader).Raw. -/
def R45 (K : SV → World → Prop) : Ending → World → Prop := fun e w => ∃ (x0 : SV), e = .returned (SV.v x0) ∧ K x0 w
end Go.Proofs.Ytdlefnpnnpohmaa
