/-
  The closed facts on types and functions that the printed proofs use, and what comes back from each function.
-/
import Derived.Test.YtmgigplbclkpaaaProg
import Derived.Test.YtmgigplbclkpaaaSpMem
import Derived.Test.YtmgigplbclkpaaaSpFlo
import Derived.KernelRfl
namespace Go.Proofs.Ytmgigplbclkpaaa
set_option linter.unusedVariables false
set_option linter.unusedSimpArgs false
open Go.Sp
theorem ag32 : aggB Try.prog 32 = true := by kernel_rfl
theorem ag34 : aggB Try.prog 34 = true := by kernel_rfl
theorem ag37 : aggB Try.prog 37 = true := by kernel_rfl
theorem ag47 : aggB Try.prog 47 = true := by kernel_rfl
theorem ag50 : aggB Try.prog 50 = true := by kernel_rfl
theorem ag59 : aggB Try.prog 59 = true := by kernel_rfl
theorem bd10 : bodyB Try.prog 10 = true := by kernel_rfl
theorem bd11 : bodyB Try.prog 11 = true := by kernel_rfl
theorem bd12 : bodyB Try.prog 12 = true := by kernel_rfl
theorem bd13 : bodyB Try.prog 13 = true := by kernel_rfl
theorem bd14 : bodyB Try.prog 14 = true := by kernel_rfl
theorem bd15 : bodyB Try.prog 15 = true := by kernel_rfl
theorem bd16 : bodyB Try.prog 16 = true := by kernel_rfl
theorem bd17 : bodyB Try.prog 17 = true := by kernel_rfl
theorem bd18 : bodyB Try.prog 18 = true := by kernel_rfl
theorem bd19 : bodyB Try.prog 19 = true := by kernel_rfl
theorem bd20 : bodyB Try.prog 20 = true := by kernel_rfl
theorem bd21 : bodyB Try.prog 21 = true := by kernel_rfl
theorem bd22 : bodyB Try.prog 22 = true := by kernel_rfl
theorem bd23 : bodyB Try.prog 23 = true := by kernel_rfl
theorem bd24 : bodyB Try.prog 24 = true := by kernel_rfl
theorem bd25 : bodyB Try.prog 25 = true := by kernel_rfl
theorem bd26 : bodyB Try.prog 26 = true := by kernel_rfl
theorem bd27 : bodyB Try.prog 27 = true := by kernel_rfl
theorem bd28 : bodyB Try.prog 28 = true := by kernel_rfl
theorem bd31 : bodyB Try.prog 31 = true := by kernel_rfl
theorem bd32 : bodyB Try.prog 32 = true := by kernel_rfl
theorem bd33 : bodyB Try.prog 33 = true := by kernel_rfl
theorem bd34 : bodyB Try.prog 34 = true := by kernel_rfl
theorem bd35 : bodyB Try.prog 35 = true := by kernel_rfl
theorem bd36 : bodyB Try.prog 36 = true := by kernel_rfl
theorem bd37 : bodyB Try.prog 37 = true := by kernel_rfl
theorem bd38 : bodyB Try.prog 38 = true := by kernel_rfl
theorem bd39 : bodyB Try.prog 39 = true := by kernel_rfl
theorem bd40 : bodyB Try.prog 40 = true := by kernel_rfl
theorem bd41 : bodyB Try.prog 41 = true := by kernel_rfl
theorem bd42 : bodyB Try.prog 42 = true := by kernel_rfl
theorem bd43 : bodyB Try.prog 43 = true := by kernel_rfl
theorem bd44 : bodyB Try.prog 44 = true := by kernel_rfl
theorem bd45 : bodyB Try.prog 45 = true := by kernel_rfl
theorem bd46 : bodyB Try.prog 46 = true := by kernel_rfl
theorem bd47 : bodyB Try.prog 47 = true := by kernel_rfl
theorem bd48 : bodyB Try.prog 48 = true := by kernel_rfl
theorem bd49 : bodyB Try.prog 49 = true := by kernel_rfl
theorem bd9 : bodyB Try.prog 9 = true := by kernel_rfl
theorem bo4 : boolB Try.prog 4 = true := by kernel_rfl
theorem bs24_0  (w : World) : (Instr.buildSlice 24 0 #[]).run Try.prog w = .ok (.slice (some ⟨w.heap.size, 0, none⟩) 0 0) (w.alloc (.cells #[] 37)) := by simp [go_sem]
theorem bs24_1 (x0 : Int) (x1 : Int) (x2 : Int) (x3 : Bool) (x4 : Int) (x5 : SV) (x6 : Int) (x7 : Bool) (x8 : Int) (x9 : Bool) (x10 : Int) (x11 : Bool) (x12 : SV) (x13 : Nat) (w : World) : (Instr.buildSlice 24 1 #[(0, (Value.agg #[(Value.int .i64 x0), (Value.int .u32 x1), (Value.int .u32 x2), (Value.bool x3), (Value.int .i64 x4), (SV.v x5), (Value.int .u32 x6), (Value.bool x7), (Value.int .u32 x8), (Value.bool x9), (Value.int .u32 x10), (Value.bool x11), (SV.v x12), (Value.float .f64 x13)]))]).run Try.prog w = .ok (.slice (some ⟨w.heap.size, 0, none⟩) 1 1) (w.alloc (.cells #[(Value.int .i64 x0), (Value.int .u32 x1), (Value.int .u32 x2), (Value.bool x3), (Value.int .i64 x4), (SV.v x5), (Value.int .u32 x6), (Value.bool x7), (Value.int .u32 x8), (Value.bool x9), (Value.int .u32 x10), (Value.bool x11), (SV.v x12), (Value.float .f64 x13)] 37)) := by simp [go_sem]
theorem bs24_2 (x0 : Int) (x1 : Int) (x2 : Int) (x3 : Bool) (x4 : Int) (x5 : SV) (x6 : Int) (x7 : Bool) (x8 : Int) (x9 : Bool) (x10 : Int) (x11 : Bool) (x12 : SV) (x13 : Nat) (x14 : Int) (x15 : Int) (x16 : Int) (x17 : Bool) (x18 : Int) (x19 : SV) (x20 : Int) (x21 : Bool) (x22 : Int) (x23 : Bool) (x24 : Int) (x25 : Bool) (x26 : SV) (x27 : Nat) (w : World) : (Instr.buildSlice 24 2 #[(0, (Value.agg #[(Value.int .i64 x0), (Value.int .u32 x1), (Value.int .u32 x2), (Value.bool x3), (Value.int .i64 x4), (SV.v x5), (Value.int .u32 x6), (Value.bool x7), (Value.int .u32 x8), (Value.bool x9), (Value.int .u32 x10), (Value.bool x11), (SV.v x12), (Value.float .f64 x13)])), (1, (Value.agg #[(Value.int .i64 x14), (Value.int .u32 x15), (Value.int .u32 x16), (Value.bool x17), (Value.int .i64 x18), (SV.v x19), (Value.int .u32 x20), (Value.bool x21), (Value.int .u32 x22), (Value.bool x23), (Value.int .u32 x24), (Value.bool x25), (SV.v x26), (Value.float .f64 x27)]))]).run Try.prog w = .ok (.slice (some ⟨w.heap.size, 0, none⟩) 2 2) (w.alloc (.cells #[(Value.int .i64 x0), (Value.int .u32 x1), (Value.int .u32 x2), (Value.bool x3), (Value.int .i64 x4), (SV.v x5), (Value.int .u32 x6), (Value.bool x7), (Value.int .u32 x8), (Value.bool x9), (Value.int .u32 x10), (Value.bool x11), (SV.v x12), (Value.float .f64 x13), (Value.int .i64 x14), (Value.int .u32 x15), (Value.int .u32 x16), (Value.bool x17), (Value.int .i64 x18), (SV.v x19), (Value.int .u32 x20), (Value.bool x21), (Value.int .u32 x22), (Value.bool x23), (Value.int .u32 x24), (Value.bool x25), (SV.v x26), (Value.float .f64 x27)] 37)) := by simp [go_sem]
theorem bs24_4 (x0 : Int) (x1 : Int) (x2 : Int) (x3 : Bool) (x4 : Int) (x5 : SV) (x6 : Int) (x7 : Bool) (x8 : Int) (x9 : Bool) (x10 : Int) (x11 : Bool) (x12 : SV) (x13 : Nat) (x14 : Int) (x15 : Int) (x16 : Int) (x17 : Bool) (x18 : Int) (x19 : SV) (x20 : Int) (x21 : Bool) (x22 : Int) (x23 : Bool) (x24 : Int) (x25 : Bool) (x26 : SV) (x27 : Nat) (x28 : Int) (x29 : Int) (x30 : Int) (x31 : Bool) (x32 : Int) (x33 : SV) (x34 : Int) (x35 : Bool) (x36 : Int) (x37 : Bool) (x38 : Int) (x39 : Bool) (x40 : SV) (x41 : Nat) (x42 : Int) (x43 : Int) (x44 : Int) (x45 : Bool) (x46 : Int) (x47 : SV) (x48 : Int) (x49 : Bool) (x50 : Int) (x51 : Bool) (x52 : Int) (x53 : Bool) (x54 : SV) (x55 : Nat) (w : World) : (Instr.buildSlice 24 4 #[(0, (Value.agg #[(Value.int .i64 x0), (Value.int .u32 x1), (Value.int .u32 x2), (Value.bool x3), (Value.int .i64 x4), (SV.v x5), (Value.int .u32 x6), (Value.bool x7), (Value.int .u32 x8), (Value.bool x9), (Value.int .u32 x10), (Value.bool x11), (SV.v x12), (Value.float .f64 x13)])), (1, (Value.agg #[(Value.int .i64 x14), (Value.int .u32 x15), (Value.int .u32 x16), (Value.bool x17), (Value.int .i64 x18), (SV.v x19), (Value.int .u32 x20), (Value.bool x21), (Value.int .u32 x22), (Value.bool x23), (Value.int .u32 x24), (Value.bool x25), (SV.v x26), (Value.float .f64 x27)])), (2, (Value.agg #[(Value.int .i64 x28), (Value.int .u32 x29), (Value.int .u32 x30), (Value.bool x31), (Value.int .i64 x32), (SV.v x33), (Value.int .u32 x34), (Value.bool x35), (Value.int .u32 x36), (Value.bool x37), (Value.int .u32 x38), (Value.bool x39), (SV.v x40), (Value.float .f64 x41)])), (3, (Value.agg #[(Value.int .i64 x42), (Value.int .u32 x43), (Value.int .u32 x44), (Value.bool x45), (Value.int .i64 x46), (SV.v x47), (Value.int .u32 x48), (Value.bool x49), (Value.int .u32 x50), (Value.bool x51), (Value.int .u32 x52), (Value.bool x53), (SV.v x54), (Value.float .f64 x55)]))]).run Try.prog w = .ok (.slice (some ⟨w.heap.size, 0, none⟩) 4 4) (w.alloc (.cells #[(Value.int .i64 x0), (Value.int .u32 x1), (Value.int .u32 x2), (Value.bool x3), (Value.int .i64 x4), (SV.v x5), (Value.int .u32 x6), (Value.bool x7), (Value.int .u32 x8), (Value.bool x9), (Value.int .u32 x10), (Value.bool x11), (SV.v x12), (Value.float .f64 x13), (Value.int .i64 x14), (Value.int .u32 x15), (Value.int .u32 x16), (Value.bool x17), (Value.int .i64 x18), (SV.v x19), (Value.int .u32 x20), (Value.bool x21), (Value.int .u32 x22), (Value.bool x23), (Value.int .u32 x24), (Value.bool x25), (SV.v x26), (Value.float .f64 x27), (Value.int .i64 x28), (Value.int .u32 x29), (Value.int .u32 x30), (Value.bool x31), (Value.int .i64 x32), (SV.v x33), (Value.int .u32 x34), (Value.bool x35), (Value.int .u32 x36), (Value.bool x37), (Value.int .u32 x38), (Value.bool x39), (SV.v x40), (Value.float .f64 x41), (Value.int .i64 x42), (Value.int .u32 x43), (Value.int .u32 x44), (Value.bool x45), (Value.int .i64 x46), (SV.v x47), (Value.int .u32 x48), (Value.bool x49), (Value.int .u32 x50), (Value.bool x51), (Value.int .u32 x52), (Value.bool x53), (SV.v x54), (Value.float .f64 x55)] 37)) := by simp [go_sem]
theorem bs29_1 (x0 : Int) (x1 : SV) (w : World) : (Instr.buildSlice 29 1 #[(0, (Value.agg #[(Value.int .i64 x0), (SV.v x1)]))]).run Try.prog w = .ok (.slice (some ⟨w.heap.size, 0, none⟩) 1 1) (w.alloc (.cells #[(Value.int .i64 x0), (SV.v x1)] 50)) := by simp [go_sem]
theorem bs30_0  (w : World) : (Instr.buildSlice 30 0 #[]).run Try.prog w = .ok (.slice (some ⟨w.heap.size, 0, none⟩) 0 0) (w.alloc (.cells #[] 28)) := by simp [go_sem]
theorem bs30_1 (x0 : Int) (w : World) : (Instr.buildSlice 30 1 #[(0, (Value.int .u32 x0))]).run Try.prog w = .ok (.slice (some ⟨w.heap.size, 0, none⟩) 1 1) (w.alloc (.cells #[(Value.int .u32 x0)] 28)) := by simp [go_sem]
theorem bs30_2 (x0 : Int) (x1 : Int) (w : World) : (Instr.buildSlice 30 2 #[(0, (Value.int .u32 x0)), (1, (Value.int .u32 x1))]).run Try.prog w = .ok (.slice (some ⟨w.heap.size, 0, none⟩) 2 2) (w.alloc (.cells #[(Value.int .u32 x0), (Value.int .u32 x1)] 28)) := by simp [go_sem]
theorem bs30_3 (x0 : Int) (x1 : Int) (x2 : Int) (w : World) : (Instr.buildSlice 30 3 #[(0, (Value.int .u32 x0)), (1, (Value.int .u32 x1)), (2, (Value.int .u32 x2))]).run Try.prog w = .ok (.slice (some ⟨w.heap.size, 0, none⟩) 3 3) (w.alloc (.cells #[(Value.int .u32 x0), (Value.int .u32 x1), (Value.int .u32 x2)] 28)) := by simp [go_sem]
theorem bs38_1 (x0 : Int) (w : World) : (Instr.buildSlice 38 1 #[(0, (Value.int .i64 x0))]).run Try.prog w = .ok (.slice (some ⟨w.heap.size, 0, none⟩) 1 1) (w.alloc (.cells #[(Value.int .i64 x0)] 3)) := by simp [go_sem]
theorem bs54_1 (x0 : Int) (x1 : Int) (x2 : Int) (x3 : Bool) (x4 : Int) (x5 : SV) (x6 : Int) (x7 : Bool) (x8 : Int) (x9 : Bool) (x10 : Int) (x11 : Bool) (x12 : SV) (x13 : Nat) (w : World) : (Instr.buildSlice 54 1 #[(0, (Value.agg #[(Value.int .i64 x0), (Value.int .u32 x1), (Value.int .u32 x2), (Value.bool x3), (Value.int .i64 x4), (SV.v x5), (Value.int .u32 x6), (Value.bool x7), (Value.int .u32 x8), (Value.bool x9), (Value.int .u32 x10), (Value.bool x11), (SV.v x12), (Value.float .f64 x13)]))]).run Try.prog w = .ok (.slice (some ⟨w.heap.size, 0, none⟩) 1 1) (w.alloc (.cells #[(Value.int .i64 x0), (Value.int .u32 x1), (Value.int .u32 x2), (Value.bool x3), (Value.int .i64 x4), (SV.v x5), (Value.int .u32 x6), (Value.bool x7), (Value.int .u32 x8), (Value.bool x9), (Value.int .u32 x10), (Value.bool x11), (SV.v x12), (Value.float .f64 x13)] 59)) := by simp [go_sem]
theorem bs54_2 (x0 : Int) (x1 : Int) (x2 : Int) (x3 : Bool) (x4 : Int) (x5 : SV) (x6 : Int) (x7 : Bool) (x8 : Int) (x9 : Bool) (x10 : Int) (x11 : Bool) (x12 : SV) (x13 : Nat) (x14 : Int) (x15 : Int) (x16 : Int) (x17 : Bool) (x18 : Int) (x19 : SV) (x20 : Int) (x21 : Bool) (x22 : Int) (x23 : Bool) (x24 : Int) (x25 : Bool) (x26 : SV) (x27 : Nat) (w : World) : (Instr.buildSlice 54 2 #[(0, (Value.agg #[(Value.int .i64 x0), (Value.int .u32 x1), (Value.int .u32 x2), (Value.bool x3), (Value.int .i64 x4), (SV.v x5), (Value.int .u32 x6), (Value.bool x7), (Value.int .u32 x8), (Value.bool x9), (Value.int .u32 x10), (Value.bool x11), (SV.v x12), (Value.float .f64 x13)])), (1, (Value.agg #[(Value.int .i64 x14), (Value.int .u32 x15), (Value.int .u32 x16), (Value.bool x17), (Value.int .i64 x18), (SV.v x19), (Value.int .u32 x20), (Value.bool x21), (Value.int .u32 x22), (Value.bool x23), (Value.int .u32 x24), (Value.bool x25), (SV.v x26), (Value.float .f64 x27)]))]).run Try.prog w = .ok (.slice (some ⟨w.heap.size, 0, none⟩) 2 2) (w.alloc (.cells #[(Value.int .i64 x0), (Value.int .u32 x1), (Value.int .u32 x2), (Value.bool x3), (Value.int .i64 x4), (SV.v x5), (Value.int .u32 x6), (Value.bool x7), (Value.int .u32 x8), (Value.bool x9), (Value.int .u32 x10), (Value.bool x11), (SV.v x12), (Value.float .f64 x13), (Value.int .i64 x14), (Value.int .u32 x15), (Value.int .u32 x16), (Value.bool x17), (Value.int .i64 x18), (SV.v x19), (Value.int .u32 x20), (Value.bool x21), (Value.int .u32 x22), (Value.bool x23), (Value.int .u32 x24), (Value.bool x25), (SV.v x26), (Value.float .f64 x27)] 59)) := by simp [go_sem]
theorem bu32_0_2_3_5 (x0 : Int) (x1 : Int) (x2 : Bool) (x3 : Bool) (w : World) : (Instr.build 32 #[(0, (Value.int .i64 x0)), (2, (Value.int .u32 x1)), (3, (Value.bool x2)), (5, (Value.bool x3))]).run Try.prog w = .ok (.agg #[(Value.int .i64 x0), (SV.v SV.nil), (Value.int .u32 x1), (Value.bool x2), (Value.int .u32 (0 : Int)), (Value.bool x3), (Value.int .u32 (0 : Int)), (Value.bool false), (SV.v SV.nil)]) w := by simp [go_sem]
theorem bu32_0_5_6_3_4_1 (x0 : Int) (x1 : Bool) (x2 : Int) (x3 : Bool) (x4 : Int) (x5 : SV) (w : World) : (Instr.build 32 #[(0, (Value.int .i64 x0)), (5, (Value.bool x1)), (6, (Value.int .u32 x2)), (3, (Value.bool x3)), (4, (Value.int .u32 x4)), (1, (SV.v x5))]).run Try.prog w = .ok (.agg #[(Value.int .i64 x0), (SV.v x5), (Value.int .u32 (0 : Int)), (Value.bool x3), (Value.int .u32 x4), (Value.bool x1), (Value.int .u32 x2), (Value.bool false), (SV.v SV.nil)]) w := by simp [go_sem]
theorem bu32_5_6 (x0 : Bool) (x1 : Int) (w : World) : (Instr.build 32 #[(5, (Value.bool x0)), (6, (Value.int .u32 x1))]).run Try.prog w = .ok (.agg #[(Value.int .i64 (0 : Int)), (SV.v SV.nil), (Value.int .u32 (0 : Int)), (Value.bool false), (Value.int .u32 (0 : Int)), (Value.bool x0), (Value.int .u32 x1), (Value.bool false), (SV.v SV.nil)]) w := by simp [go_sem]
theorem bu32_6 (x0 : Int) (w : World) : (Instr.build 32 #[(6, (Value.int .u32 x0))]).run Try.prog w = .ok (.agg #[(Value.int .i64 (0 : Int)), (SV.v SV.nil), (Value.int .u32 (0 : Int)), (Value.bool false), (Value.int .u32 (0 : Int)), (Value.bool false), (Value.int .u32 x0), (Value.bool false), (SV.v SV.nil)]) w := by simp [go_sem]
theorem bu34_0_1_2_3_4 (x0 : Int) (x1 : Int) (x2 : Int) (x3 : Bool) (x4 : Int) (x5 : SV) (x6 : Int) (x7 : Bool) (x8 : Int) (x9 : Bool) (x10 : Int) (x11 : Bool) (x12 : SV) (w : World) : (Instr.build 34 #[(0, (Value.int .i64 x0)), (1, (Value.int .u32 x1)), (2, (Value.int .u32 x2)), (3, (Value.bool x3)), (4, (Value.agg #[(Value.int .i64 x4), (SV.v x5), (Value.int .u32 x6), (Value.bool x7), (Value.int .u32 x8), (Value.bool x9), (Value.int .u32 x10), (Value.bool x11), (SV.v x12)]))]).run Try.prog w = .ok (.agg #[(Value.int .i64 x0), (Value.int .u32 x1), (Value.int .u32 x2), (Value.bool x3), (Value.int .i64 x4), (SV.v x5), (Value.int .u32 x6), (Value.bool x7), (Value.int .u32 x8), (Value.bool x9), (Value.int .u32 x10), (Value.bool x11), (SV.v x12)]) w := by simp [go_sem]
theorem bu34_1_2_3_4 (x0 : Int) (x1 : Int) (x2 : Bool) (x3 : Int) (x4 : SV) (x5 : Int) (x6 : Bool) (x7 : Int) (x8 : Bool) (x9 : Int) (x10 : Bool) (x11 : SV) (w : World) : (Instr.build 34 #[(1, (Value.int .u32 x0)), (2, (Value.int .u32 x1)), (3, (Value.bool x2)), (4, (Value.agg #[(Value.int .i64 x3), (SV.v x4), (Value.int .u32 x5), (Value.bool x6), (Value.int .u32 x7), (Value.bool x8), (Value.int .u32 x9), (Value.bool x10), (SV.v x11)]))]).run Try.prog w = .ok (.agg #[(Value.int .i64 (0 : Int)), (Value.int .u32 x0), (Value.int .u32 x1), (Value.bool x2), (Value.int .i64 x3), (SV.v x4), (Value.int .u32 x5), (Value.bool x6), (Value.int .u32 x7), (Value.bool x8), (Value.int .u32 x9), (Value.bool x10), (SV.v x11)]) w := by simp [go_sem]
theorem bu34_4 (x0 : Int) (x1 : SV) (x2 : Int) (x3 : Bool) (x4 : Int) (x5 : Bool) (x6 : Int) (x7 : Bool) (x8 : SV) (w : World) : (Instr.build 34 #[(4, (Value.agg #[(Value.int .i64 x0), (SV.v x1), (Value.int .u32 x2), (Value.bool x3), (Value.int .u32 x4), (Value.bool x5), (Value.int .u32 x6), (Value.bool x7), (SV.v x8)]))]).run Try.prog w = .ok (.agg #[(Value.int .i64 (0 : Int)), (Value.int .u32 (0 : Int)), (Value.int .u32 (0 : Int)), (Value.bool false), (Value.int .i64 x0), (SV.v x1), (Value.int .u32 x2), (Value.bool x3), (Value.int .u32 x4), (Value.bool x5), (Value.int .u32 x6), (Value.bool x7), (SV.v x8)]) w := by simp [go_sem]
theorem bu37_  (w : World) : (Instr.build 37 #[]).run Try.prog w = .ok (.agg #[(Value.int .i64 (0 : Int)), (Value.int .u32 (0 : Int)), (Value.int .u32 (0 : Int)), (Value.bool false), (Value.int .i64 (0 : Int)), (SV.v SV.nil), (Value.int .u32 (0 : Int)), (Value.bool false), (Value.int .u32 (0 : Int)), (Value.bool false), (Value.int .u32 (0 : Int)), (Value.bool false), (SV.v SV.nil), (Value.float .f64 (0 : Nat))]) w := by simp [go_sem]
theorem bu37_0 (x0 : Int) (x1 : Int) (x2 : Int) (x3 : Bool) (x4 : Int) (x5 : SV) (x6 : Int) (x7 : Bool) (x8 : Int) (x9 : Bool) (x10 : Int) (x11 : Bool) (x12 : SV) (w : World) : (Instr.build 37 #[(0, (Value.agg #[(Value.int .i64 x0), (Value.int .u32 x1), (Value.int .u32 x2), (Value.bool x3), (Value.int .i64 x4), (SV.v x5), (Value.int .u32 x6), (Value.bool x7), (Value.int .u32 x8), (Value.bool x9), (Value.int .u32 x10), (Value.bool x11), (SV.v x12)]))]).run Try.prog w = .ok (.agg #[(Value.int .i64 x0), (Value.int .u32 x1), (Value.int .u32 x2), (Value.bool x3), (Value.int .i64 x4), (SV.v x5), (Value.int .u32 x6), (Value.bool x7), (Value.int .u32 x8), (Value.bool x9), (Value.int .u32 x10), (Value.bool x11), (SV.v x12), (Value.float .f64 (0 : Nat))]) w := by simp [go_sem]
theorem bu37_0_1 (x0 : Int) (x1 : Int) (x2 : Int) (x3 : Bool) (x4 : Int) (x5 : SV) (x6 : Int) (x7 : Bool) (x8 : Int) (x9 : Bool) (x10 : Int) (x11 : Bool) (x12 : SV) (x13 : Nat) (w : World) : (Instr.build 37 #[(0, (Value.agg #[(Value.int .i64 x0), (Value.int .u32 x1), (Value.int .u32 x2), (Value.bool x3), (Value.int .i64 x4), (SV.v x5), (Value.int .u32 x6), (Value.bool x7), (Value.int .u32 x8), (Value.bool x9), (Value.int .u32 x10), (Value.bool x11), (SV.v x12)])), (1, (Value.float .f64 x13))]).run Try.prog w = .ok (.agg #[(Value.int .i64 x0), (Value.int .u32 x1), (Value.int .u32 x2), (Value.bool x3), (Value.int .i64 x4), (SV.v x5), (Value.int .u32 x6), (Value.bool x7), (Value.int .u32 x8), (Value.bool x9), (Value.int .u32 x10), (Value.bool x11), (SV.v x12), (Value.float .f64 x13)]) w := by simp [go_sem]
theorem bu50_0_1 (x0 : Int) (x1 : SV) (w : World) : (Instr.build 50 #[(0, (Value.int .i64 x0)), (1, (SV.v x1))]).run Try.prog w = .ok (.agg #[(Value.int .i64 x0), (SV.v x1)]) w := by simp [go_sem]
theorem bu59_0_1 (x0 : Int) (x1 : Int) (x2 : Int) (x3 : Bool) (x4 : Int) (x5 : SV) (x6 : Int) (x7 : Bool) (x8 : Int) (x9 : Bool) (x10 : Int) (x11 : Bool) (x12 : SV) (x13 : Nat) (w : World) : (Instr.build 59 #[(0, (Value.agg #[(Value.int .i64 x0), (Value.int .u32 x1), (Value.int .u32 x2), (Value.bool x3), (Value.int .i64 x4), (SV.v x5), (Value.int .u32 x6), (Value.bool x7), (Value.int .u32 x8), (Value.bool x9), (Value.int .u32 x10), (Value.bool x11), (SV.v x12)])), (1, (Value.float .f64 x13))]).run Try.prog w = .ok (.agg #[(Value.int .i64 x0), (Value.int .u32 x1), (Value.int .u32 x2), (Value.bool x3), (Value.int .i64 x4), (SV.v x5), (Value.int .u32 x6), (Value.bool x7), (Value.int .u32 x8), (Value.bool x9), (Value.int .u32 x10), (Value.bool x11), (SV.v x12), (Value.float .f64 x13)]) w := by simp [go_sem]
theorem fa32_0 : fieldB Try.prog 32 0 0 = true := by kernel_rfl
theorem fa32_1 : fieldB Try.prog 32 1 1 = true := by kernel_rfl
theorem fa32_2 : fieldB Try.prog 32 2 2 = true := by kernel_rfl
theorem fa32_3 : fieldB Try.prog 32 3 3 = true := by kernel_rfl
theorem fa32_4 : fieldB Try.prog 32 4 4 = true := by kernel_rfl
theorem fa32_5 : fieldB Try.prog 32 5 5 = true := by kernel_rfl
theorem fa32_6 : fieldB Try.prog 32 6 6 = true := by kernel_rfl
theorem fa32_8 : fieldB Try.prog 32 8 8 = true := by kernel_rfl
theorem fa34_1 : fieldB Try.prog 34 1 1 = true := by kernel_rfl
theorem fa34_2 : fieldB Try.prog 34 2 2 = true := by kernel_rfl
theorem fa34_3 : fieldB Try.prog 34 3 3 = true := by kernel_rfl
theorem fa34_4 : fieldB Try.prog 34 4 4 = true := by kernel_rfl
theorem fa37_0 : fieldB Try.prog 37 0 0 = true := by kernel_rfl
theorem fa37_1 : fieldB Try.prog 37 1 13 = true := by kernel_rfl
theorem fa47_0 : fieldB Try.prog 47 0 0 = true := by kernel_rfl
theorem fa47_1 : fieldB Try.prog 47 1 1 = true := by kernel_rfl
theorem fa47_2 : fieldB Try.prog 47 2 2 = true := by kernel_rfl
theorem fa47_3 : fieldB Try.prog 47 3 3 = true := by kernel_rfl
theorem fa47_4 : fieldB Try.prog 47 4 12 = true := by kernel_rfl
theorem fa50_0 : fieldB Try.prog 50 0 0 = true := by kernel_rfl
theorem fa50_1 : fieldB Try.prog 50 1 1 = true := by kernel_rfl
theorem fa59_0 : fieldB Try.prog 59 0 0 = true := by kernel_rfl
theorem fa59_1 : fieldB Try.prog 59 1 13 = true := by kernel_rfl
theorem fo35 : floatB Try.prog 35 .f64 = true := by kernel_rfl
theorem in28 : intB Try.prog 28 .u32 = true := by kernel_rfl
theorem in3 : intB Try.prog 3 .i64 = true := by kernel_rfl
theorem mix : Try.prog.follows .mixedOrders = true := by kernel_rfl
theorem sc28 : scalarB Try.prog 28 = true := by kernel_rfl
theorem sc29 : scalarB Try.prog 29 = true := by kernel_rfl
theorem sc3 : scalarB Try.prog 3 = true := by kernel_rfl
theorem sc30 : scalarB Try.prog 30 = true := by kernel_rfl
theorem sc35 : scalarB Try.prog 35 = true := by kernel_rfl
theorem sc4 : scalarB Try.prog 4 = true := by kernel_rfl
theorem sl22 : sliceB Try.prog 22 47 13 = true := by kernel_rfl
theorem sl24 : sliceB Try.prog 24 37 14 = true := by kernel_rfl
theorem sl29 : sliceB Try.prog 29 50 2 = true := by kernel_rfl
theorem sl30 : sliceB Try.prog 30 28 1 = true := by kernel_rfl
theorem sl38 : sliceB Try.prog 38 3 1 = true := by kernel_rfl
theorem sl54 : sliceB Try.prog 54 59 14 = true := by kernel_rfl
theorem sz28 : sizeB Try.prog 28 1 = true := by kernel_rfl
theorem sz29 : sizeB Try.prog 29 1 = true := by kernel_rfl
theorem sz3 : sizeB Try.prog 3 1 = true := by kernel_rfl
theorem sz30 : sizeB Try.prog 30 1 = true := by kernel_rfl
theorem sz32 : sizeB Try.prog 32 9 = true := by kernel_rfl
theorem sz34 : sizeB Try.prog 34 13 = true := by kernel_rfl
theorem sz35 : sizeB Try.prog 35 1 = true := by kernel_rfl
theorem sz37 : sizeB Try.prog 37 14 = true := by kernel_rfl
theorem sz4 : sizeB Try.prog 4 1 = true := by kernel_rfl
theorem sz47 : sizeB Try.prog 47 13 = true := by kernel_rfl
theorem sz50 : sizeB Try.prog 50 2 = true := by kernel_rfl
theorem sz59 : sizeB Try.prog 59 14 = true := by kernel_rfl
theorem ze32 : (Try.prog.info? 32).map (·.zero) = some (some (Value.agg #[(Value.int .i64 (0 : Int)), (SV.v SV.nil), (Value.int .u32 (0 : Int)), (Value.bool false), (Value.int .u32 (0 : Int)), (Value.bool false), (Value.int .u32 (0 : Int)), (Value.bool false), (SV.v SV.nil)])) := by kernel_rfl
theorem ze34 : (Try.prog.info? 34).map (·.zero) = some (some (Value.agg #[(Value.int .i64 (0 : Int)), (Value.int .u32 (0 : Int)), (Value.int .u32 (0 : Int)), (Value.bool false), (Value.int .i64 (0 : Int)), (SV.v SV.nil), (Value.int .u32 (0 : Int)), (Value.bool false), (Value.int .u32 (0 : Int)), (Value.bool false), (Value.int .u32 (0 : Int)), (Value.bool false), (SV.v SV.nil)])) := by kernel_rfl
theorem ze37 : (Try.prog.info? 37).map (·.zero) = some (some (Value.agg #[(Value.int .i64 (0 : Int)), (Value.int .u32 (0 : Int)), (Value.int .u32 (0 : Int)), (Value.bool false), (Value.int .i64 (0 : Int)), (SV.v SV.nil), (Value.int .u32 (0 : Int)), (Value.bool false), (Value.int .u32 (0 : Int)), (Value.bool false), (Value.int .u32 (0 : Int)), (Value.bool false), (SV.v SV.nil), (Value.float .f64 (0 : Nat))])) := by kernel_rfl
theorem ze47 : (Try.prog.info? 47).map (·.zero) = some (some (Value.agg #[(Value.int .u32 (0 : Int)), (Value.int .u32 (0 : Int)), (Value.bool false), (Value.int .i64 (0 : Int)), (SV.v SV.nil), (Value.int .u32 (0 : Int)), (Value.bool false), (Value.int .u32 (0 : Int)), (Value.bool false), (Value.int .u32 (0 : Int)), (Value.bool false), (SV.v SV.nil), (Value.float .f64 (0 : Nat))])) := by kernel_rfl
theorem ze50 : (Try.prog.info? 50).map (·.zero) = some (some (Value.agg #[(Value.int .i64 (0 : Int)), (SV.v SV.nil)])) := by kernel_rfl
theorem xt29 (n : Int) (w : World) : (callFunc 29 #[(.int .u64 n)]).run Try.prog w = .ok (.value (.float .f64 n.toNat)) w := by
  rw [run_callFunc_extern Try.func29 (by kernel_rfl) (by kernel_rfl) (by kernel_rfl) (show Extern.find _ = some Extern.MathFloatBits.float64frombits by kernel_rfl)]; rfl
theorem xt30 (n : Nat) (w : World) : (callFunc 30 #[(.float .f64 n)]).run Try.prog w = .ok (.value (.int .u64 (n : Int))) w := by
  rw [run_callFunc_extern Try.func30 (by kernel_rfl) (by kernel_rfl) (by kernel_rfl) (show Extern.find _ = some Extern.MathFloatBits.float64bits by kernel_rfl)]; rfl
/-- What comes back from signpost.signpostlaw17.DecideTells. -/
def R3 (K : Bool → World → Prop) : Ending → World → Prop := fun e w => ∃ (x0 : Bool), e = .returned (Value.bool x0) ∧ K x0 w
/-- What comes back from signpost.signpostlaw17.DecideRules. -/
def R4 (K : Bool → World → Prop) : Ending → World → Prop := fun e w => ∃ (x0 : Bool), e = .returned (Value.bool x0) ∧ K x0 w
/-- What comes back from signpost.signpostlaw17.DecideLosers. -/
def R5 (K : Bool → World → Prop) : Ending → World → Prop := fun e w => ∃ (x0 : Bool), e = .returned (Value.bool x0) ∧ K x0 w
/-- What comes back from signpost.signpostlaw17.DecidePairs. -/
def R6 (K : Bool → World → Prop) : Ending → World → Prop := fun e w => ∃ (x0 : Bool), e = .returned (Value.bool x0) ∧ K x0 w
/-- What comes back from signpost.signpostlaw17.DecideSteps. -/
def R7 (K : Bool → World → Prop) : Ending → World → Prop := fun e w => ∃ (x0 : Bool), e = .returned (Value.bool x0) ∧ K x0 w
/-- What comes back from signpost.signpostlaw17.DecideNumbers. -/
def R8 (K : Bool → World → Prop) : Ending → World → Prop := fun e w => ∃ (x0 : Bool), e = .returned (Value.bool x0) ∧ K x0 w
/-- What comes back from signpost.signpostlaw17.same. -/
def R9 (K : Bool → World → Prop) : Ending → World → Prop := fun e w => ∃ (x0 : Bool), e = .returned (Value.bool x0) ∧ K x0 w
/-- What comes back from signpost.signpostlaw17.cands. -/
def R10 (K : SV → World → Prop) : Ending → World → Prop := fun e w => ∃ (x0 : SV), e = .returned (SV.v x0) ∧ K x0 w
/-- What comes back from signpost.signpostlaw17.known. -/
def R11 (K : Bool → World → Prop) : Ending → World → Prop := fun e w => ∃ (x0 : Bool), e = .returned (Value.bool x0) ∧ K x0 w
/-- What comes back from signpost.decide.Left. -/
def R12 (K : SV → World → Prop) : Ending → World → Prop := fun e w => ∃ (x0 : SV), e = .returned (SV.v x0) ∧ K x0 w
/-- What comes back from signpost.decide.Best. -/
def R13 (K : Int → Bool → World → Prop) : Ending → World → Prop := fun e w => ∃ (x0 : Int) (x1 : Bool), e = .returned (Value.tuple #[(Value.int .i64 x0), (Value.bool x1)]) ∧ K x0 x1 w
/-- What comes back from signpost.signpostbook.Within. -/
def R14 (K : Int → World → Prop) : Ending → World → Prop := fun e w => ∃ (x0 : Int), e = .returned (Value.int .i64 x0) ∧ K x0 w
/-- What comes back from signpost.decide.Pref. -/
def R15 (K : Int → World → Prop) : Ending → World → Prop := fun e w => ∃ (x0 : Int), e = .returned (Value.int .u32 x0) ∧ K x0 w
/-- What comes back from signpost.signpostref6.Count. -/
def R16 (K : Int → World → Prop) : Ending → World → Prop := fun e w => ∃ (x0 : Int), e = .returned (Value.int .i64 x0) ∧ K x0 w
/-- What comes back from signpost.decide.Better. -/
def R17 (K : Bool → World → Prop) : Ending → World → Prop := fun e w => ∃ (x0 : Bool), e = .returned (Value.bool x0) ∧ K x0 w
/-- What comes back from math.NaN. -/
def R18 (K : Nat → World → Prop) : Ending → World → Prop := fun e w => ∃ (x0 : Nat), e = .returned (Value.float .f64 x0) ∧ K x0 w
/-- What comes back from math.Inf. -/
def R19 (K : Nat → World → Prop) : Ending → World → Prop := fun e w => ∃ (x0 : Nat), e = .returned (Value.float .f64 x0) ∧ K x0 w
/-- What comes back from math.Copysign. -/
def R20 (K : Nat → World → Prop) : Ending → World → Prop := fun e w => ∃ (x0 : Nat), e = .returned (Value.float .f64 x0) ∧ K x0 w
/-- What comes back from signpost.signpostlaw17.in. -/
def R21 (K : SV → World → Prop) : Ending → World → Prop := fun e w => ∃ (x0 : SV), e = .returned (SV.v x0) ∧ K x0 w
/-- What comes back from signpost.signpostbook.Same[int]. -/
def R22 (K : Bool → World → Prop) : Ending → World → Prop := fun e w => ∃ (x0 : Bool), e = .returned (Value.bool x0) ∧ K x0 w
/-- What comes back from signpost.signpostref17.Left. -/
def R23 (K : SV → World → Prop) : Ending → World → Prop := fun e w => ∃ (x0 : SV), e = .returned (SV.v x0) ∧ K x0 w
/-- What comes back from signpost.signpostref17.Better. -/
def R24 (K : Bool → World → Prop) : Ending → World → Prop := fun e w => ∃ (x0 : Bool), e = .returned (Value.bool x0) ∧ K x0 w
/-- What comes back from signpost.signpostref17.Best. -/
def R25 (K : Int → Bool → World → Prop) : Ending → World → Prop := fun e w => ∃ (x0 : Int) (x1 : Bool), e = .returned (Value.tuple #[(Value.int .i64 x0), (Value.bool x1)]) ∧ K x0 x1 w
/-- What comes back from signpost.signpostkeep.Short. -/
def R26 (K : Int → SV → Int → Bool → Int → Bool → Int → Bool → SV → World → Prop) : Ending → World → Prop := fun e w => ∃ (x0 : Int) (x1 : SV) (x2 : Int) (x3 : Bool) (x4 : Int) (x5 : Bool) (x6 : Int) (x7 : Bool) (x8 : SV), e = .returned (Value.agg #[(Value.int .i64 x0), (SV.v x1), (Value.int .u32 x2), (Value.bool x3), (Value.int .u32 x4), (Value.bool x5), (Value.int .u32 x6), (Value.bool x7), (SV.v x8)]) ∧ K x0 x1 x2 x3 x4 x5 x6 x7 x8 w
/-- What comes back from signpost.signpostkeep.Tame. -/
def R27 (K : Int → SV → Int → Bool → Int → Bool → Int → Bool → SV → World → Prop) : Ending → World → Prop := fun e w => ∃ (x0 : Int) (x1 : SV) (x2 : Int) (x3 : Bool) (x4 : Int) (x5 : Bool) (x6 : Int) (x7 : Bool) (x8 : SV), e = .returned (Value.agg #[(Value.int .i64 x0), (SV.v x1), (Value.int .u32 x2), (Value.bool x3), (Value.int .u32 x4), (Value.bool x5), (Value.int .u32 x6), (Value.bool x7), (SV.v x8)]) ∧ K x0 x1 x2 x3 x4 x5 x6 x7 x8 w
/-- What comes back from signpost.decide.sift. -/
def R28 (K : SV → World → Prop) : Ending → World → Prop := fun e w => ∃ (x0 : SV), e = .returned (SV.v x0) ∧ K x0 w
/-- What comes back from signpost.signpostref17.worse. -/
def R31 (K : Bool → World → Prop) : Ending → World → Prop := fun e w => ∃ (x0 : Bool), e = .returned (Value.bool x0) ∧ K x0 w
/-- What comes back from signpost.signpostkeep.Next. -/
def R32 (K : Int → World → Prop) : Ending → World → Prop := fun e w => ∃ (x0 : Int), e = .returned (Value.int .u32 x0) ∧ K x0 w
/-- What comes back from signpost.signpostref7.Put. -/
def R33 (K : SV → World → Prop) : Ending → World → Prop := fun e w => ∃ (x0 : SV), e = .returned (SV.v x0) ∧ K x0 w
/-- What comes back from signpost.decide.beats. -/
def R34 (K : Bool → World → Prop) : Ending → World → Prop := fun e w => ∃ (x0 : Bool), e = .returned (Value.bool x0) ∧ K x0 w
/-- What comes back from signpost.signpostref17.Pref. -/
def R35 (K : Int → World → Prop) : Ending → World → Prop := fun e w => ∃ (x0 : Int), e = .returned (Value.int .u32 x0) ∧ K x0 w
/-- What comes back from signpost.signpostref17.neighbour. -/
def R36 (K : Bool → World → Prop) : Ending → World → Prop := fun e w => ∃ (x0 : Bool), e = .returned (Value.bool x0) ∧ K x0 w
/-- What comes back from signpost.signpostref17.med. -/
def R37 (K : Int → World → Prop) : Ending → World → Prop := fun e w => ∃ (x0 : Int), e = .returned (Value.int .u32 x0) ∧ K x0 w
/-- What comes back from signpost.signpostref2.Less. -/
def R38 (K : Bool → World → Prop) : Ending → World → Prop := fun e w => ∃ (x0 : Bool), e = .returned (Value.bool x0) ∧ K x0 w
/-- What comes back from signpost.aspath.Count. -/
def R39 (K : Int → World → Prop) : Ending → World → Prop := fun e w => ∃ (x0 : Int), e = .returned (Value.int .i64 x0) ∧ K x0 w
/-- What comes back from signpost.decide.fellows. -/
def R40 (K : Bool → World → Prop) : Ending → World → Prop := fun e w => ∃ (x0 : Bool), e = .returned (Value.bool x0) ∧ K x0 w
/-- What comes back from signpost.decide.med. -/
def R41 (K : Int → World → Prop) : Ending → World → Prop := fun e w => ∃ (x0 : Int), e = .returned (Value.int .u32 x0) ∧ K x0 w
/-- What comes back from signpost.metric.Less. -/
def R42 (K : Bool → World → Prop) : Ending → World → Prop := fun e w => ∃ (x0 : Bool), e = .returned (Value.bool x0) ∧ K x0 w
/-- What comes back from signpost.decide.Ahead. -/
def R43 (K : Bool → World → Prop) : Ending → World → Prop := fun e w => ∃ (x0 : Bool), e = .returned (Value.bool x0) ∧ K x0 w
/-- What comes back from signpost.signpostref6.First. -/
def R44 (K : Int → Bool → World → Prop) : Ending → World → Prop := fun e w => ∃ (x0 : Int) (x1 : Bool), e = .returned (Value.tuple #[(Value.int .u32 x0), (Value.bool x1)]) ∧ K x0 x1 w
/-- What comes back from signpost.signpostref2.Clean. -/
def R45 (K : Nat → World → Prop) : Ending → World → Prop := fun e w => ∃ (x0 : Nat), e = .returned (Value.float .f64 x0) ∧ K x0 w
/-- What comes back from signpost.aspath.First. -/
def R46 (K : Int → Bool → World → Prop) : Ending → World → Prop := fun e w => ∃ (x0 : Int) (x1 : Bool), e = .returned (Value.tuple #[(Value.int .u32 x0), (Value.bool x1)]) ∧ K x0 x1 w
/-- What comes back from signpost.metric.Clean. -/
def R47 (K : Nat → World → Prop) : Ending → World → Prop := fun e w => ∃ (x0 : Nat), e = .returned (Value.float .f64 x0) ∧ K x0 w
/-- What comes back from signpost.signpostref2.Right. -/
def R48 (K : Bool → World → Prop) : Ending → World → Prop := fun e w => ∃ (x0 : Bool), e = .returned (Value.bool x0) ∧ K x0 w
/-- What comes back from signpost.metric.Right. -/
def R49 (K : Bool → World → Prop) : Ending → World → Prop := fun e w => ∃ (x0 : Bool), e = .returned (Value.bool x0) ∧ K x0 w
end Go.Proofs.Ytmgigplbclkpaaa
