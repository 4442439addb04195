/-
  The closed facts on types and functions that the printed proofs use, and what comes back from each function.
-/
import Derived.Test.YtnfmkedblnajlaaProg
import Derived.Test.YtnfmkedblnajlaaSpMem
import Derived.Test.YtnfmkedblnajlaaSpFlo
import Derived.Test.YtnfmkedblnajlaaSpMap
import Derived.KernelRfl
namespace Go.Proofs.Ytnfmkedblnajlaa
set_option linter.unusedVariables false
set_option linter.unusedSimpArgs false
open Go.Sp
theorem ag30 : aggB Try.prog 30 = true := by kernel_rfl
theorem ag33 : aggB Try.prog 33 = true := by kernel_rfl
theorem ag35 : aggB Try.prog 35 = true := by kernel_rfl
theorem ag55 : aggB Try.prog 55 = true := by kernel_rfl
theorem ar81 : arrB Try.prog 81 2 80 1 = true := by kernel_rfl
theorem bd10 : bodyB Try.prog 10 = true := by kernel_rfl
theorem bd11 : bodyB Try.prog 11 = true := by kernel_rfl
theorem bd12 : bodyB Try.prog 12 = true := by kernel_rfl
theorem bd13 : bodyB Try.prog 13 = true := by kernel_rfl
theorem bd14 : bodyB Try.prog 14 = true := by kernel_rfl
theorem bd15 : bodyB Try.prog 15 = true := by kernel_rfl
theorem bd16 : bodyB Try.prog 16 = true := by kernel_rfl
theorem bd17 : bodyB Try.prog 17 = true := by kernel_rfl
theorem bd18 : bodyB Try.prog 18 = true := by kernel_rfl
theorem bd19 : bodyB Try.prog 19 = true := by kernel_rfl
theorem bd20 : bodyB Try.prog 20 = true := by kernel_rfl
theorem bd21 : bodyB Try.prog 21 = true := by kernel_rfl
theorem bd22 : bodyB Try.prog 22 = true := by kernel_rfl
theorem bd23 : bodyB Try.prog 23 = true := by kernel_rfl
theorem bd24 : bodyB Try.prog 24 = true := by kernel_rfl
theorem bd25 : bodyB Try.prog 25 = true := by kernel_rfl
theorem bd26 : bodyB Try.prog 26 = true := by kernel_rfl
theorem bd27 : bodyB Try.prog 27 = true := by kernel_rfl
theorem bd28 : bodyB Try.prog 28 = true := by kernel_rfl
theorem bd29 : bodyB Try.prog 29 = true := by kernel_rfl
theorem bd30 : bodyB Try.prog 30 = true := by kernel_rfl
theorem bd31 : bodyB Try.prog 31 = true := by kernel_rfl
theorem bd32 : bodyB Try.prog 32 = true := by kernel_rfl
theorem bd33 : bodyB Try.prog 33 = true := by kernel_rfl
theorem bd34 : bodyB Try.prog 34 = true := by kernel_rfl
theorem bd35 : bodyB Try.prog 35 = true := by kernel_rfl
theorem bd36 : bodyB Try.prog 36 = true := by kernel_rfl
theorem bd37 : bodyB Try.prog 37 = true := by kernel_rfl
theorem bd38 : bodyB Try.prog 38 = true := by kernel_rfl
theorem bd39 : bodyB Try.prog 39 = true := by kernel_rfl
theorem bd40 : bodyB Try.prog 40 = true := by kernel_rfl
theorem bd41 : bodyB Try.prog 41 = true := by kernel_rfl
theorem bd42 : bodyB Try.prog 42 = true := by kernel_rfl
theorem bd43 : bodyB Try.prog 43 = true := by kernel_rfl
theorem bd44 : bodyB Try.prog 44 = true := by kernel_rfl
theorem bd45 : bodyB Try.prog 45 = true := by kernel_rfl
theorem bd46 : bodyB Try.prog 46 = true := by kernel_rfl
theorem bd47 : bodyB Try.prog 47 = true := by kernel_rfl
theorem bd48 : bodyB Try.prog 48 = true := by kernel_rfl
theorem bd49 : bodyB Try.prog 49 = true := by kernel_rfl
theorem bd50 : bodyB Try.prog 50 = true := by kernel_rfl
theorem bd51 : bodyB Try.prog 51 = true := by kernel_rfl
theorem bd52 : bodyB Try.prog 52 = true := by kernel_rfl
theorem bd53 : bodyB Try.prog 53 = true := by kernel_rfl
theorem bd54 : bodyB Try.prog 54 = true := by kernel_rfl
theorem bd7 : bodyB Try.prog 7 = true := by kernel_rfl
theorem bd8 : bodyB Try.prog 8 = true := by kernel_rfl
theorem bd9 : bodyB Try.prog 9 = true := by kernel_rfl
theorem bo4 : boolB Try.prog 4 = true := by kernel_rfl
set_option maxRecDepth 100000 in
set_option maxHeartbeats 4000000 in
theorem bs22_17 (x0 : Int) (x1 : Int) (x2 : Int) (x3 : Int) (x4 : SV) (x5 : Bool) (x6 : Int) (x7 : Int) (x8 : Int) (x9 : Int) (x10 : SV) (x11 : Bool) (x12 : Int) (x13 : Int) (x14 : Int) (x15 : Int) (x16 : SV) (x17 : Bool) (x18 : Int) (x19 : Int) (x20 : Int) (x21 : Int) (x22 : SV) (x23 : Bool) (x24 : Int) (x25 : Int) (x26 : Int) (x27 : Int) (x28 : SV) (x29 : Bool) (x30 : Int) (x31 : Int) (x32 : Int) (x33 : Int) (x34 : SV) (x35 : Bool) (x36 : Int) (x37 : Int) (x38 : Int) (x39 : Int) (x40 : SV) (x41 : Bool) (x42 : Int) (x43 : Int) (x44 : Int) (x45 : Int) (x46 : SV) (x47 : Bool) (x48 : Int) (x49 : Int) (x50 : Int) (x51 : Int) (x52 : SV) (x53 : Bool) (x54 : Int) (x55 : Int) (x56 : Int) (x57 : Int) (x58 : SV) (x59 : Bool) (x60 : Int) (x61 : Int) (x62 : Int) (x63 : Int) (x64 : SV) (x65 : Bool) (x66 : Int) (x67 : Int) (x68 : Int) (x69 : Int) (x70 : SV) (x71 : Bool) (x72 : Int) (x73 : Int) (x74 : Int) (x75 : Int) (x76 : SV) (x77 : Bool) (x78 : Int) (x79 : Int) (x80 : Int) (x81 : Int) (x82 : SV) (x83 : Bool) (x84 : Int) (x85 : Int) (x86 : Int) (x87 : Int) (x88 : SV) (x89 : Bool) (x90 : Int) (x91 : Int) (x92 : Int) (x93 : Int) (x94 : SV) (x95 : Bool) (x96 : Int) (x97 : Int) (x98 : Int) (x99 : Int) (x100 : SV) (x101 : Bool) (w : World) : (Instr.buildSlice 22 17 #[(0, (Value.agg #[(Value.int .i64 x0), (Value.int .i64 x1), (Value.int .i64 x2), (Value.int .u32 x3), (SV.v x4), (Value.bool x5)])), (1, (Value.agg #[(Value.int .i64 x6), (Value.int .i64 x7), (Value.int .i64 x8), (Value.int .u32 x9), (SV.v x10), (Value.bool x11)])), (2, (Value.agg #[(Value.int .i64 x12), (Value.int .i64 x13), (Value.int .i64 x14), (Value.int .u32 x15), (SV.v x16), (Value.bool x17)])), (3, (Value.agg #[(Value.int .i64 x18), (Value.int .i64 x19), (Value.int .i64 x20), (Value.int .u32 x21), (SV.v x22), (Value.bool x23)])), (4, (Value.agg #[(Value.int .i64 x24), (Value.int .i64 x25), (Value.int .i64 x26), (Value.int .u32 x27), (SV.v x28), (Value.bool x29)])), (5, (Value.agg #[(Value.int .i64 x30), (Value.int .i64 x31), (Value.int .i64 x32), (Value.int .u32 x33), (SV.v x34), (Value.bool x35)])), (6, (Value.agg #[(Value.int .i64 x36), (Value.int .i64 x37), (Value.int .i64 x38), (Value.int .u32 x39), (SV.v x40), (Value.bool x41)])), (7, (Value.agg #[(Value.int .i64 x42), (Value.int .i64 x43), (Value.int .i64 x44), (Value.int .u32 x45), (SV.v x46), (Value.bool x47)])), (8, (Value.agg #[(Value.int .i64 x48), (Value.int .i64 x49), (Value.int .i64 x50), (Value.int .u32 x51), (SV.v x52), (Value.bool x53)])), (9, (Value.agg #[(Value.int .i64 x54), (Value.int .i64 x55), (Value.int .i64 x56), (Value.int .u32 x57), (SV.v x58), (Value.bool x59)])), (10, (Value.agg #[(Value.int .i64 x60), (Value.int .i64 x61), (Value.int .i64 x62), (Value.int .u32 x63), (SV.v x64), (Value.bool x65)])), (11, (Value.agg #[(Value.int .i64 x66), (Value.int .i64 x67), (Value.int .i64 x68), (Value.int .u32 x69), (SV.v x70), (Value.bool x71)])), (12, (Value.agg #[(Value.int .i64 x72), (Value.int .i64 x73), (Value.int .i64 x74), (Value.int .u32 x75), (SV.v x76), (Value.bool x77)])), (13, (Value.agg #[(Value.int .i64 x78), (Value.int .i64 x79), (Value.int .i64 x80), (Value.int .u32 x81), (SV.v x82), (Value.bool x83)])), (14, (Value.agg #[(Value.int .i64 x84), (Value.int .i64 x85), (Value.int .i64 x86), (Value.int .u32 x87), (SV.v x88), (Value.bool x89)])), (15, (Value.agg #[(Value.int .i64 x90), (Value.int .i64 x91), (Value.int .i64 x92), (Value.int .u32 x93), (SV.v x94), (Value.bool x95)])), (16, (Value.agg #[(Value.int .i64 x96), (Value.int .i64 x97), (Value.int .i64 x98), (Value.int .u32 x99), (SV.v x100), (Value.bool x101)]))]).run Try.prog w = .ok (.slice (some ⟨w.heap.size, 0, none⟩) 17 17) (w.alloc (.cells #[(Value.int .i64 x0), (Value.int .i64 x1), (Value.int .i64 x2), (Value.int .u32 x3), (SV.v x4), (Value.bool x5), (Value.int .i64 x6), (Value.int .i64 x7), (Value.int .i64 x8), (Value.int .u32 x9), (SV.v x10), (Value.bool x11), (Value.int .i64 x12), (Value.int .i64 x13), (Value.int .i64 x14), (Value.int .u32 x15), (SV.v x16), (Value.bool x17), (Value.int .i64 x18), (Value.int .i64 x19), (Value.int .i64 x20), (Value.int .u32 x21), (SV.v x22), (Value.bool x23), (Value.int .i64 x24), (Value.int .i64 x25), (Value.int .i64 x26), (Value.int .u32 x27), (SV.v x28), (Value.bool x29), (Value.int .i64 x30), (Value.int .i64 x31), (Value.int .i64 x32), (Value.int .u32 x33), (SV.v x34), (Value.bool x35), (Value.int .i64 x36), (Value.int .i64 x37), (Value.int .i64 x38), (Value.int .u32 x39), (SV.v x40), (Value.bool x41), (Value.int .i64 x42), (Value.int .i64 x43), (Value.int .i64 x44), (Value.int .u32 x45), (SV.v x46), (Value.bool x47), (Value.int .i64 x48), (Value.int .i64 x49), (Value.int .i64 x50), (Value.int .u32 x51), (SV.v x52), (Value.bool x53), (Value.int .i64 x54), (Value.int .i64 x55), (Value.int .i64 x56), (Value.int .u32 x57), (SV.v x58), (Value.bool x59), (Value.int .i64 x60), (Value.int .i64 x61), (Value.int .i64 x62), (Value.int .u32 x63), (SV.v x64), (Value.bool x65), (Value.int .i64 x66), (Value.int .i64 x67), (Value.int .i64 x68), (Value.int .u32 x69), (SV.v x70), (Value.bool x71), (Value.int .i64 x72), (Value.int .i64 x73), (Value.int .i64 x74), (Value.int .u32 x75), (SV.v x76), (Value.bool x77), (Value.int .i64 x78), (Value.int .i64 x79), (Value.int .i64 x80), (Value.int .u32 x81), (SV.v x82), (Value.bool x83), (Value.int .i64 x84), (Value.int .i64 x85), (Value.int .i64 x86), (Value.int .u32 x87), (SV.v x88), (Value.bool x89), (Value.int .i64 x90), (Value.int .i64 x91), (Value.int .i64 x92), (Value.int .u32 x93), (SV.v x94), (Value.bool x95), (Value.int .i64 x96), (Value.int .i64 x97), (Value.int .i64 x98), (Value.int .u32 x99), (SV.v x100), (Value.bool x101)] 30)) := by simp [go_sem]
theorem bs28_0  (w : World) : (Instr.buildSlice 28 0 #[]).run Try.prog w = .ok (.slice (some ⟨w.heap.size, 0, none⟩) 0 0) (w.alloc (.cells #[] 55)) := by simp [go_sem]
theorem bs28_1 (x0 : Int) (x1 : Int) (w : World) : (Instr.buildSlice 28 1 #[(0, (Value.agg #[(Value.int .i64 x0), (Value.int .i64 x1)]))]).run Try.prog w = .ok (.slice (some ⟨w.heap.size, 0, none⟩) 1 1) (w.alloc (.cells #[(Value.int .i64 x0), (Value.int .i64 x1)] 55)) := by simp [go_sem]
theorem bs45_1 (x0 : Int) (x1 : Int) (x2 : SV) (w : World) : (Instr.buildSlice 45 1 #[(0, (Value.agg #[(Value.int .u32 x0), (Value.int .i64 x1), (SV.v x2)]))]).run Try.prog w = .ok (.slice (some ⟨w.heap.size, 0, none⟩) 1 1) (w.alloc (.cells #[(Value.int .u32 x0), (Value.int .i64 x1), (SV.v x2)] 35)) := by simp [go_sem]
theorem bs69_1 (x0 : Int) (x1 : Int) (w : World) : (Instr.buildSlice 69 1 #[(0, (Value.agg #[(Value.int .u32 x0), (Value.int .i64 x1)]))]).run Try.prog w = .ok (.slice (some ⟨w.heap.size, 0, none⟩) 1 1) (w.alloc (.cells #[(Value.int .u32 x0), (Value.int .i64 x1)] 33)) := by simp [go_sem]
theorem bs76_1 (x0 : Int) (w : World) : (Instr.buildSlice 76 1 #[(0, (Value.int .u32 x0))]).run Try.prog w = .ok (.slice (some ⟨w.heap.size, 0, none⟩) 1 1) (w.alloc (.cells #[(Value.int .u32 x0)] 23)) := by simp [go_sem]
theorem bs76_2 (x0 : Int) (x1 : Int) (w : World) : (Instr.buildSlice 76 2 #[(0, (Value.int .u32 x0)), (1, (Value.int .u32 x1))]).run Try.prog w = .ok (.slice (some ⟨w.heap.size, 0, none⟩) 2 2) (w.alloc (.cells #[(Value.int .u32 x0), (Value.int .u32 x1)] 23)) := by simp [go_sem]
theorem bs94_1 (x0 : Option Addr) (w : World) : (Instr.buildSlice 94 1 #[(0, (Value.pointer x0))]).run Try.prog w = .ok (.slice (some ⟨w.heap.size, 0, none⟩) 1 1) (w.alloc (.cells #[(Value.pointer x0)] 80)) := by simp [go_sem]
theorem bs95_1 (x0 : SV) (w : World) : (Instr.buildSlice 95 1 #[(0, (SV.v x0))]).run Try.prog w = .ok (.slice (some ⟨w.heap.size, 0, none⟩) 1 1) (w.alloc (.cells #[(SV.v x0)] 45)) := by simp [go_sem]
theorem bs99_2 (x0 : Bool) (x1 : Bool) (w : World) : (Instr.buildSlice 99 2 #[(0, (Value.bool x0)), (1, (Value.bool x1))]).run Try.prog w = .ok (.slice (some ⟨w.heap.size, 0, none⟩) 2 2) (w.alloc (.cells #[(Value.bool x0), (Value.bool x1)] 4)) := by simp [go_sem]
theorem bu30_0 (x0 : Int) (w : World) : (Instr.build 30 #[(0, (Value.int .i64 x0))]).run Try.prog w = .ok (.agg #[(Value.int .i64 x0), (Value.int .i64 (0 : Int)), (Value.int .i64 (0 : Int)), (Value.int .u32 (0 : Int)), (SV.v SV.nil), (Value.bool false)]) w := by simp [go_sem]
theorem bu30_0_1 (x0 : Int) (x1 : Int) (w : World) : (Instr.build 30 #[(0, (Value.int .i64 x0)), (1, (Value.int .i64 x1))]).run Try.prog w = .ok (.agg #[(Value.int .i64 x0), (Value.int .i64 x1), (Value.int .i64 (0 : Int)), (Value.int .u32 (0 : Int)), (SV.v SV.nil), (Value.bool false)]) w := by simp [go_sem]
theorem bu30_0_2 (x0 : Int) (x1 : Int) (w : World) : (Instr.build 30 #[(0, (Value.int .i64 x0)), (2, (Value.int .i64 x1))]).run Try.prog w = .ok (.agg #[(Value.int .i64 x0), (Value.int .i64 (0 : Int)), (Value.int .i64 x1), (Value.int .u32 (0 : Int)), (SV.v SV.nil), (Value.bool false)]) w := by simp [go_sem]
theorem bu30_0_2_4 (x0 : Int) (x1 : Int) (x2 : SV) (w : World) : (Instr.build 30 #[(0, (Value.int .i64 x0)), (2, (Value.int .i64 x1)), (4, (SV.v x2))]).run Try.prog w = .ok (.agg #[(Value.int .i64 x0), (Value.int .i64 (0 : Int)), (Value.int .i64 x1), (Value.int .u32 (0 : Int)), (SV.v x2), (Value.bool false)]) w := by simp [go_sem]
theorem bu30_0_3 (x0 : Int) (x1 : Int) (w : World) : (Instr.build 30 #[(0, (Value.int .i64 x0)), (3, (Value.int .u32 x1))]).run Try.prog w = .ok (.agg #[(Value.int .i64 x0), (Value.int .i64 (0 : Int)), (Value.int .i64 (0 : Int)), (Value.int .u32 x1), (SV.v SV.nil), (Value.bool false)]) w := by simp [go_sem]
theorem bu33_  (w : World) : (Instr.build 33 #[]).run Try.prog w = .ok (.agg #[(Value.int .u32 (0 : Int)), (Value.int .i64 (0 : Int))]) w := by simp [go_sem]
theorem bu33_0_1 (x0 : Int) (x1 : Int) (w : World) : (Instr.build 33 #[(0, (Value.int .u32 x0)), (1, (Value.int .i64 x1))]).run Try.prog w = .ok (.agg #[(Value.int .u32 x0), (Value.int .i64 x1)]) w := by simp [go_sem]
theorem bu35_  (w : World) : (Instr.build 35 #[]).run Try.prog w = .ok (.agg #[(Value.int .u32 (0 : Int)), (Value.int .i64 (0 : Int)), (SV.v SV.nil)]) w := by simp [go_sem]
theorem bu35_0 (x0 : Int) (x1 : Int) (w : World) : (Instr.build 35 #[(0, (Value.agg #[(Value.int .u32 x0), (Value.int .i64 x1)]))]).run Try.prog w = .ok (.agg #[(Value.int .u32 x0), (Value.int .i64 x1), (SV.v SV.nil)]) w := by simp [go_sem]
theorem bu35_0_1 (x0 : Int) (x1 : Int) (x2 : SV) (w : World) : (Instr.build 35 #[(0, (Value.agg #[(Value.int .u32 x0), (Value.int .i64 x1)])), (1, (SV.v x2))]).run Try.prog w = .ok (.agg #[(Value.int .u32 x0), (Value.int .i64 x1), (SV.v x2)]) w := by simp [go_sem]
theorem bu53_  (w : World) : (Instr.build 53 #[]).run Try.prog w = .ok (.agg #[(SV.v SV.nil), (Value.int .i64 (0 : Int)), (Value.int .i64 (0 : Int))]) w := by simp [go_sem]
theorem bu53_1 (x0 : Int) (w : World) : (Instr.build 53 #[(1, (Value.int .i64 x0))]).run Try.prog w = .ok (.agg #[(SV.v SV.nil), (Value.int .i64 x0), (Value.int .i64 (0 : Int))]) w := by simp [go_sem]
theorem bu55_0_1 (x0 : Int) (x1 : Int) (w : World) : (Instr.build 55 #[(0, (Value.int .i64 x0)), (1, (Value.int .i64 x1))]).run Try.prog w = .ok (.agg #[(Value.int .i64 x0), (Value.int .i64 x1)]) w := by simp [go_sem]
theorem bu62_0_1_2 (x0 : Int) (x1 : Option Addr) (x2 : Option Nat) (w : World) : (Instr.build 62 #[(0, (Value.int .i64 x0)), (1, (Value.pointer x1)), (2, (Value.map x2))]).run Try.prog w = .ok (.agg #[(Value.int .i64 x0), (Value.pointer x1), (Value.map x2), (Value.int .i64 (0 : Int))]) w := by simp [go_sem]
theorem bu74_0_1 (x0 : Bool) (x1 : Int) (x2 : Int) (x3 : SV) (w : World) : (Instr.build 74 #[(0, (Value.bool x0)), (1, (Value.agg #[(Value.int .u32 x1), (Value.int .i64 x2), (SV.v x3)]))]).run Try.prog w = .ok (.agg #[(Value.bool x0), (Value.int .u32 x1), (Value.int .i64 x2), (SV.v x3)]) w := by simp [go_sem]
theorem bu74_1 (x0 : Int) (x1 : Int) (x2 : SV) (w : World) : (Instr.build 74 #[(1, (Value.agg #[(Value.int .u32 x0), (Value.int .i64 x1), (SV.v x2)]))]).run Try.prog w = .ok (.agg #[(Value.bool false), (Value.int .u32 x0), (Value.int .i64 x1), (SV.v x2)]) w := by simp [go_sem]
theorem bu83_  (w : World) : (Instr.build 83 #[]).run Try.prog w = .ok (.agg #[(Value.pointer (none : Option Addr)), (Value.pointer (none : Option Addr)), (Value.bool false), (Value.int .i64 (0 : Int))]) w := by simp [go_sem]
theorem bu85_  (w : World) : (Instr.build 85 #[]).run Try.prog w = .ok (.agg #[(Value.pointer (none : Option Addr)), (Value.pointer (none : Option Addr)), (Value.bool false), (Value.int .i64 (0 : Int)), (Value.int .i64 (0 : Int))]) w := by simp [go_sem]
theorem fa30_0 : fieldB Try.prog 30 0 0 = true := by kernel_rfl
theorem fa30_1 : fieldB Try.prog 30 1 1 = true := by kernel_rfl
theorem fa30_2 : fieldB Try.prog 30 2 2 = true := by kernel_rfl
theorem fa30_3 : fieldB Try.prog 30 3 3 = true := by kernel_rfl
theorem fa30_4 : fieldB Try.prog 30 4 4 = true := by kernel_rfl
theorem fa30_5 : fieldB Try.prog 30 5 5 = true := by kernel_rfl
theorem fa33_0 : fieldB Try.prog 33 0 0 = true := by kernel_rfl
theorem fa33_1 : fieldB Try.prog 33 1 1 = true := by kernel_rfl
theorem fa35_0 : fieldB Try.prog 35 0 0 = true := by kernel_rfl
theorem fa35_1 : fieldB Try.prog 35 1 2 = true := by kernel_rfl
theorem fa53_0 : fieldB Try.prog 53 0 0 = true := by kernel_rfl
theorem fa53_1 : fieldB Try.prog 53 1 1 = true := by kernel_rfl
theorem fa53_2 : fieldB Try.prog 53 2 2 = true := by kernel_rfl
theorem fa55_0 : fieldB Try.prog 55 0 0 = true := by kernel_rfl
theorem fa55_1 : fieldB Try.prog 55 1 1 = true := by kernel_rfl
theorem fa62_0 : fieldB Try.prog 62 0 0 = true := by kernel_rfl
theorem fa62_1 : fieldB Try.prog 62 1 1 = true := by kernel_rfl
theorem fa62_2 : fieldB Try.prog 62 2 2 = true := by kernel_rfl
theorem fa62_3 : fieldB Try.prog 62 3 3 = true := by kernel_rfl
theorem fa74_0 : fieldB Try.prog 74 0 0 = true := by kernel_rfl
theorem fa74_1 : fieldB Try.prog 74 1 1 = true := by kernel_rfl
theorem fa83_0 : fieldB Try.prog 83 0 0 = true := by kernel_rfl
theorem fa83_1 : fieldB Try.prog 83 1 2 = true := by kernel_rfl
theorem fa83_2 : fieldB Try.prog 83 2 3 = true := by kernel_rfl
theorem fa85_0 : fieldB Try.prog 85 0 0 = true := by kernel_rfl
theorem fa85_1 : fieldB Try.prog 85 1 4 = true := by kernel_rfl
theorem in23 : intB Try.prog 23 .u32 = true := by kernel_rfl
theorem in3 : intB Try.prog 3 .i64 = true := by kernel_rfl
theorem in89 : intB Try.prog 89 .u64 = true := by kernel_rfl
theorem mix : Try.prog.follows .mixedOrders = true := by kernel_rfl
theorem pt24 : ptrB Try.prog 24 = true := by kernel_rfl
theorem pt80 : ptrB Try.prog 80 = true := by kernel_rfl
theorem sc23 : scalarB Try.prog 23 = true := by kernel_rfl
theorem sc28 : scalarB Try.prog 28 = true := by kernel_rfl
theorem sc3 : scalarB Try.prog 3 = true := by kernel_rfl
theorem sc4 : scalarB Try.prog 4 = true := by kernel_rfl
theorem sc45 : scalarB Try.prog 45 = true := by kernel_rfl
theorem sc58 : scalarB Try.prog 58 = true := by kernel_rfl
theorem sc60 : scalarB Try.prog 60 = true := by kernel_rfl
theorem sc80 : scalarB Try.prog 80 = true := by kernel_rfl
theorem sf33 : (Try.prog.fieldsOf 33).toList = [{ name := "Addr", type := 23, offset := 0, embedded := false, tag := "", pkgPath := "", byteOffset := 0 }, { name := "Len", type := 3, offset := 1, embedded := false, tag := "", pkgPath := "", byteOffset := 8 }] := by kernel_rfl
theorem sf55 : (Try.prog.fieldsOf 55).toList = [{ name := "Link", type := 3, offset := 0, embedded := false, tag := "", pkgPath := "", byteOffset := 0 }, { name := "Share", type := 3, offset := 1, embedded := false, tag := "", pkgPath := "", byteOffset := 8 }] := by kernel_rfl
theorem sg33 : Try.prog.eqGuardType Try.prog.depth 33 = false := by kernel_rfl
theorem sg55 : Try.prog.eqGuardType Try.prog.depth 55 = false := by kernel_rfl
theorem si33 : Try.prog.stoodInHeld 33 = false := by kernel_rfl
theorem si55 : Try.prog.stoodInHeld 55 = false := by kernel_rfl
theorem sl22 : sliceB Try.prog 22 30 6 = true := by kernel_rfl
theorem sl28 : sliceB Try.prog 28 55 2 = true := by kernel_rfl
theorem sl45 : sliceB Try.prog 45 35 3 = true := by kernel_rfl
theorem sl69 : sliceB Try.prog 69 33 2 = true := by kernel_rfl
theorem sl76 : sliceB Try.prog 76 23 1 = true := by kernel_rfl
theorem sl94 : sliceB Try.prog 94 80 1 = true := by kernel_rfl
theorem sl95 : sliceB Try.prog 95 45 1 = true := by kernel_rfl
theorem sl99 : sliceB Try.prog 99 4 1 = true := by kernel_rfl
theorem su33 : Try.prog.underlying 33 = some (.struct (Try.prog.fieldsOf 33)) := by kernel_rfl
theorem su55 : Try.prog.underlying 55 = some (.struct (Try.prog.fieldsOf 55)) := by kernel_rfl
theorem sz28 : sizeB Try.prog 28 1 = true := by kernel_rfl
theorem sz3 : sizeB Try.prog 3 1 = true := by kernel_rfl
theorem sz30 : sizeB Try.prog 30 6 = true := by kernel_rfl
theorem sz33 : sizeB Try.prog 33 2 = true := by kernel_rfl
theorem sz35 : sizeB Try.prog 35 3 = true := by kernel_rfl
theorem sz4 : sizeB Try.prog 4 1 = true := by kernel_rfl
theorem sz45 : sizeB Try.prog 45 1 = true := by kernel_rfl
theorem sz55 : sizeB Try.prog 55 2 = true := by kernel_rfl
theorem sz80 : sizeB Try.prog 80 1 = true := by kernel_rfl
theorem un23 : Try.prog.underlying 23 = some (.int .u32) := by kernel_rfl
theorem un3 : Try.prog.underlying 3 = some (.int .i64) := by kernel_rfl
theorem ze30 : (Try.prog.info? 30).map (·.zero) = some (some (Value.agg #[(Value.int .i64 (0 : Int)), (Value.int .i64 (0 : Int)), (Value.int .i64 (0 : Int)), (Value.int .u32 (0 : Int)), (SV.v SV.nil), (Value.bool false)])) := by kernel_rfl
theorem ze33 : (Try.prog.info? 33).map (·.zero) = some (some (Value.agg #[(Value.int .u32 (0 : Int)), (Value.int .i64 (0 : Int))])) := by kernel_rfl
theorem ze35 : (Try.prog.info? 35).map (·.zero) = some (some (Value.agg #[(Value.int .u32 (0 : Int)), (Value.int .i64 (0 : Int)), (SV.v SV.nil)])) := by kernel_rfl
theorem ze55 : (Try.prog.info? 55).map (·.zero) = some (some (Value.agg #[(Value.int .i64 (0 : Int)), (Value.int .i64 (0 : Int))])) := by kernel_rfl
theorem eq33 (x0 y0 : Int) (x1 y1 : Int) (w : World) : (Op.equalIn 10000 33 (.agg #[(Value.int .u32 x0), (Value.int .i64 x1)]) (.agg #[(Value.int .u32 y0), (Value.int .i64 y1)])).run Try.prog w = .ok ((x0 == y0) && (x1 == y1)) w := by
  rw [run_equalIn_agg w 9999 33 _ _ su33 si33]
  simp only [sf33]
  have e0 := run_equalIn_int w 9998 23 .u32 .u32 x0 y0 un23
  have e1 := run_equalIn_int w 9998 3 .i64 .i64 x1 y1 un3
  simp only [Nat.reduceAdd] at e0 e1
  simp [Op.eqFields, part, scalarB_run sc23, scalarB_run sc3, e0, e1]
  by_cases h0 : x0 = y0 <;> by_cases h1 : x1 = y1 <;> simp [h0, h1]
theorem eq55 (x0 y0 : Int) (x1 y1 : Int) (w : World) : (Op.equalIn 10000 55 (.agg #[(Value.int .i64 x0), (Value.int .i64 x1)]) (.agg #[(Value.int .i64 y0), (Value.int .i64 y1)])).run Try.prog w = .ok ((x0 == y0) && (x1 == y1)) w := by
  rw [run_equalIn_agg w 9999 55 _ _ su55 si55]
  simp only [sf55]
  have e0 := run_equalIn_int w 9998 3 .i64 .i64 x0 y0 un3
  have e1 := run_equalIn_int w 9998 3 .i64 .i64 x1 y1 un3
  simp only [Nat.reduceAdd] at e0 e1
  simp [Op.eqFields, part, scalarB_run sc3, e0, e1]
  by_cases h0 : x0 = y0 <;> by_cases h1 : x1 = y1 <;> simp [h0, h1]
/-- What comes back from signpost.signpostlaw25.FibMatch. -/
def R3 (K : Bool → World → Prop) : Ending → World → Prop := fun e w => ∃ (x0 : Bool), e = .returned (Value.bool x0) ∧ K x0 w
/-- What comes back from signpost.signpostlaw25.FibRefused. -/
def R4 (K : Bool → World → Prop) : Ending → World → Prop := fun e w => ∃ (x0 : Bool), e = .returned (Value.bool x0) ∧ K x0 w
/-- What comes back from signpost.signpostlaw25.FibNumbers. -/
def R5 (K : Bool → World → Prop) : Ending → World → Prop := fun e w => ∃ (x0 : Bool), e = .returned (Value.bool x0) ∧ K x0 w
/-- What comes back from signpost.signpostlaw25.FibPlays. -/
def R6 (K : Bool → World → Prop) : Ending → World → Prop := fun e w => ∃ (x0 : Bool), e = .returned (Value.bool x0) ∧ K x0 w
/-- What comes back from signpost.fib.New. -/
def R7 (K : Option Addr → Int → World → Prop) : Ending → World → Prop := fun e w => ∃ (x0 : Option Addr) (x1 : Int), e = .returned (Value.tuple #[(Value.pointer x0), (Value.int .i64 x1)]) ∧ K x0 x1 w
/-- What comes back from (*signpost.fib.Table).Set. -/
def R8 (K : Int → World → Prop) : Ending → World → Prop := fun e w => ∃ (x0 : Int), e = .returned (Value.int .i64 x0) ∧ K x0 w
/-- What comes back from signpost.signpostlaw25.entry. -/
def R9 (K : Int → Int → SV → World → Prop) : Ending → World → Prop := fun e w => ∃ (x0 : Int) (x1 : Int) (x2 : SV), e = .returned (Value.agg #[(Value.int .u32 x0), (Value.int .i64 x1), (SV.v x2)]) ∧ K x0 x1 x2 w
/-- What comes back from (*signpost.fib.Table).Match. -/
def R10 (K : SV → Bool → World → Prop) : Ending → World → Prop := fun e w => ∃ (x0 : SV) (x1 : Bool), e = .returned (Value.tuple #[(SV.v x0), (Value.bool x1)]) ∧ K x0 x1 w
/-- What comes back from (*signpost.fib.Table).Get. -/
def R11 (K : SV → Bool → World → Prop) : Ending → World → Prop := fun e w => ∃ (x0 : SV) (x1 : Bool), e = .returned (Value.tuple #[(SV.v x0), (Value.bool x1)]) ∧ K x0 x1 w
/-- What comes back from signpost.signpostref1.Of. -/
def R12 (K : Int → Int → World → Prop) : Ending → World → Prop := fun e w => ∃ (x0 : Int) (x1 : Int), e = .returned (Value.agg #[(Value.int .u32 x0), (Value.int .i64 x1)]) ∧ K x0 x1 w
/-- What comes back from signpost.signpostref18.Same. -/
def R13 (K : Bool → World → Prop) : Ending → World → Prop := fun e w => ∃ (x0 : Bool), e = .returned (Value.bool x0) ∧ K x0 w
/-- What comes back from signpost.signpostlaw25.known. -/
def R14 (K : Bool → World → Prop) : Ending → World → Prop := fun e w => ∃ (x0 : Bool), e = .returned (Value.bool x0) ∧ K x0 w
/-- What comes back from signpost.signpostbook.Within. -/
def R15 (K : Int → World → Prop) : Ending → World → Prop := fun e w => ∃ (x0 : Int), e = .returned (Value.int .i64 x0) ∧ K x0 w
/-- What comes back from (*signpost.fib.Table).All. -/
def R16 (K : SV → World → Prop) : Ending → World → Prop := fun e w => ∃ (x0 : SV), e = .returned (SV.v x0) ∧ K x0 w
/-- What comes back from (*signpost.fib.Table).Writes. -/
def R17 (K : Int → World → Prop) : Ending → World → Prop := fun e w => ∃ (x0 : Int), e = .returned (Value.int .i64 x0) ∧ K x0 w
/-- What comes back from signpost.signpostkeep.Entries. -/
def R18 (K : Bool → World → Prop) : Ending → World → Prop := fun e w => ∃ (x0 : Bool), e = .returned (Value.bool x0) ∧ K x0 w
/-- What comes back from (*signpost.fib.Table).Len. -/
def R19 (K : Int → World → Prop) : Ending → World → Prop := fun e w => ∃ (x0 : Int), e = .returned (Value.int .i64 x0) ∧ K x0 w
/-- What comes back from (*signpost.fib.Table).Cut. -/
def R20 (K : Bool → World → Prop) : Ending → World → Prop := fun e w => ∃ (x0 : Bool), e = .returned (Value.bool x0) ∧ K x0 w
/-- What comes back from signpost.signpostlaw25.do. -/
def R21 (K : Bool → World → Prop) : Ending → World → Prop := fun e w => ∃ (x0 : Bool), e = .returned (Value.bool x0) ∧ K x0 w
/-- What comes back from signpost.signpostlaw25.alike. -/
def R22 (K : Bool → World → Prop) : Ending → World → Prop := fun e w => ∃ (x0 : Bool), e = .returned (Value.bool x0) ∧ K x0 w
/-- What comes back from signpost.trie.New. -/
def R23 (K : Option Addr → World → Prop) : Ending → World → Prop := fun e w => ∃ (x0 : Option Addr), e = .returned (Value.pointer x0) ∧ K x0 w
/-- What comes back from signpost.ortc.Right. -/
def R24 (K : Bool → World → Prop) : Ending → World → Prop := fun e w => ∃ (x0 : Bool), e = .returned (Value.bool x0) ∧ K x0 w
/-- What comes back from (*signpost.trie.Trie).Put. -/
def R25 (K : Bool → World → Prop) : Ending → World → Prop := fun e w => ∃ (x0 : Bool), e = .returned (Value.bool x0) ∧ K x0 w
/-- What comes back from slices.Clone[[]signpost.api.Hop,signpost.api.Hop]. -/
def R26 (K : SV → World → Prop) : Ending → World → Prop := fun e w => ∃ (x0 : SV), e = .returned (SV.v x0) ∧ K x0 w
/-- What comes back from signpost.signpostkeep.Prefix. -/
def R27 (K : Int → Int → World → Prop) : Ending → World → Prop := fun e w => ∃ (x0 : Int) (x1 : Int), e = .returned (Value.agg #[(Value.int .u32 x0), (Value.int .i64 x1)]) ∧ K x0 x1 w
/-- What comes back from (*signpost.trie.Trie).Match. -/
def R28 (K : Int → Int → Int → Bool → World → Prop) : Ending → World → Prop := fun e w => ∃ (x0 : Int) (x1 : Int) (x2 : Int) (x3 : Bool), e = .returned (Value.tuple #[(Value.agg #[(Value.int .u32 x0), (Value.int .i64 x1)]), (Value.int .i64 x2), (Value.bool x3)]) ∧ K x0 x1 x2 x3 w
/-- What comes back from signpost.signpostref1.Mask. -/
def R29 (K : Int → World → Prop) : Ending → World → Prop := fun e w => ∃ (x0 : Int), e = .returned (Value.int .u32 x0) ∧ K x0 w
/-- What comes back from (*signpost.trie.Trie).All. -/
def R30 (K : SV → World → Prop) : Ending → World → Prop := fun e w => ∃ (x0 : SV), e = .returned (SV.v x0) ∧ K x0 w
/-- What comes back from (*signpost.trie.Trie).Cut. -/
def R31 (K : Bool → World → Prop) : Ending → World → Prop := fun e w => ∃ (x0 : Bool), e = .returned (Value.bool x0) ∧ K x0 w
/-- What comes back from (*signpost.signpostlaw25.played).at. -/
def R32 (K : Int → World → Prop) : Ending → World → Prop := fun e w => ∃ (x0 : Int), e = .returned (Value.int .i64 x0) ∧ K x0 w
/-- What comes back from signpost.signpostref24.Right. -/
def R33 (K : Bool → World → Prop) : Ending → World → Prop := fun e w => ∃ (x0 : Bool), e = .returned (Value.bool x0) ∧ K x0 w
/-- What comes back from signpost.signpostref26.Do. -/
def R34 (K : SV → World → Prop) : Ending → World → Prop := fun e w => ∃ (x0 : SV), e = .returned (SV.v x0) ∧ K x0 w
/-- What comes back from (*signpost.fib.Table).Room. -/
def R35 (K : World → Prop) : Ending → World → Prop := fun e w => e = .returned (Value.tuple #[]) ∧ K w
/-- What comes back from signpost.signpostref24.Edges. -/
def R36 (K : SV → World → Prop) : Ending → World → Prop := fun e w => ∃ (x0 : SV), e = .returned (SV.v x0) ∧ K x0 w
/-- What comes back from signpost.signpostref1.Has. -/
def R37 (K : Bool → World → Prop) : Ending → World → Prop := fun e w => ∃ (x0 : Bool), e = .returned (Value.bool x0) ∧ K x0 w
/-- What comes back from signpost.signpostref24.Find. -/
def R38 (K : SV → World → Prop) : Ending → World → Prop := fun e w => ∃ (x0 : SV), e = .returned (SV.v x0) ∧ K x0 w
/-- What comes back from signpost.addr.Right. -/
def R39 (K : Bool → World → Prop) : Ending → World → Prop := fun e w => ∃ (x0 : Bool), e = .returned (Value.bool x0) ∧ K x0 w
/-- What comes back from signpost.ortc.hops. -/
def R40 (K : Bool → World → Prop) : Ending → World → Prop := fun e w => ∃ (x0 : Bool), e = .returned (Value.bool x0) ∧ K x0 w
/-- What comes back from signpost.addr.Less. -/
def R41 (K : Bool → World → Prop) : Ending → World → Prop := fun e w => ∃ (x0 : Bool), e = .returned (Value.bool x0) ∧ K x0 w
/-- What comes back from signpost.trie.bit. -/
def R42 (K : Int → World → Prop) : Ending → World → Prop := fun e w => ∃ (x0 : Int), e = .returned (Value.int .i64 x0) ∧ K x0 w
/-- What comes back from (*signpost.trie.Trie).down. -/
def R43 (K : SV → World → Prop) : Ending → World → Prop := fun e w => ∃ (x0 : SV), e = .returned (SV.v x0) ∧ K x0 w
/-- What comes back from (*signpost.trie.Trie).Get. -/
def R44 (K : Int → Bool → World → Prop) : Ending → World → Prop := fun e w => ∃ (x0 : Int) (x1 : Bool), e = .returned (Value.tuple #[(Value.int .i64 x0), (Value.bool x1)]) ∧ K x0 x1 w
/-- What comes back from (*signpost.trie.Trie).Below. -/
def R45 (K : SV → World → Prop) : Ending → World → Prop := fun e w => ∃ (x0 : SV), e = .returned (SV.v x0) ∧ K x0 w
/-- What comes back from (*signpost.trie.node).empty. -/
def R46 (K : Bool → World → Prop) : Ending → World → Prop := fun e w => ∃ (x0 : Bool), e = .returned (Value.bool x0) ∧ K x0 w
/-- What comes back from signpost.signpostref1.Right. -/
def R47 (K : Bool → World → Prop) : Ending → World → Prop := fun e w => ∃ (x0 : Bool), e = .returned (Value.bool x0) ∧ K x0 w
/-- What comes back from signpost.signpostref1.Less. -/
def R48 (K : Bool → World → Prop) : Ending → World → Prop := fun e w => ∃ (x0 : Bool), e = .returned (Value.bool x0) ∧ K x0 w
/-- What comes back from signpost.signpostref24.longest. -/
def R49 (K : Int → World → Prop) : Ending → World → Prop := fun e w => ∃ (x0 : Int), e = .returned (Value.int .i64 x0) ∧ K x0 w
/-- What comes back from signpost.addr.Mask. -/
def R50 (K : Int → World → Prop) : Ending → World → Prop := fun e w => ∃ (x0 : Int), e = .returned (Value.int .u32 x0) ∧ K x0 w
/-- What comes back from signpost.addr.Of. -/
def R51 (K : Int → Int → World → Prop) : Ending → World → Prop := fun e w => ∃ (x0 : Int) (x1 : Int), e = .returned (Value.agg #[(Value.int .u32 x0), (Value.int .i64 x1)]) ∧ K x0 x1 w
/-- What comes back from (*signpost.trie.Trie).find. -/
def R52 (K : Option Addr → World → Prop) : Ending → World → Prop := fun e w => ∃ (x0 : Option Addr), e = .returned (Value.pointer x0) ∧ K x0 w
/-- What comes back from (*signpost.trie.node).below. -/
def R53 (K : SV → World → Prop) : Ending → World → Prop := fun e w => ∃ (x0 : SV), e = .returned (SV.v x0) ∧ K x0 w
/-- What comes back from signpost.addr.Half. -/
def R54 (K : Int → Int → Bool → World → Prop) : Ending → World → Prop := fun e w => ∃ (x0 : Int) (x1 : Int) (x2 : Bool), e = .returned (Value.tuple #[(Value.agg #[(Value.int .u32 x0), (Value.int .i64 x1)]), (Value.bool x2)]) ∧ K x0 x1 x2 w
end Go.Proofs.Ytnfmkedblnajlaa
