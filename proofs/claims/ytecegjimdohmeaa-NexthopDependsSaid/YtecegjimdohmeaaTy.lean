/-
  The closed facts on types and functions that the printed proofs use, and what comes back from each function.
-/
import Derived.Test.YtecegjimdohmeaaProg
import Derived.Test.YtecegjimdohmeaaSpMem
import Derived.Test.YtecegjimdohmeaaSpFlo
import Derived.Test.YtecegjimdohmeaaSpMap
import Derived.Test.YtecegjimdohmeaaSpFn
import Derived.KernelRfl
namespace Go.Proofs.Ytecegjimdohmeaa
set_option linter.unusedVariables false
set_option linter.unusedSimpArgs false
open Go.Sp
theorem ag28 : aggB Try.prog 28 = true := by kernel_rfl
theorem ag32 : aggB Try.prog 32 = true := by kernel_rfl
theorem ag37 : aggB Try.prog 37 = true := by kernel_rfl
theorem ag70 : aggB Try.prog 70 = true := by kernel_rfl
theorem ar82 : arrB Try.prog 82 2 81 1 = true := by kernel_rfl
theorem bd10 : bodyB Try.prog 10 = true := by kernel_rfl
theorem bd11 : bodyB Try.prog 11 = true := by kernel_rfl
theorem bd12 : bodyB Try.prog 12 = true := by kernel_rfl
theorem bd13 : bodyB Try.prog 13 = true := by kernel_rfl
theorem bd14 : bodyB Try.prog 14 = true := by kernel_rfl
theorem bd15 : bodyB Try.prog 15 = true := by kernel_rfl
theorem bd16 : bodyB Try.prog 16 = true := by kernel_rfl
theorem bd17 : bodyB Try.prog 17 = true := by kernel_rfl
theorem bd19 : bodyB Try.prog 19 = true := by kernel_rfl
theorem bd20 : bodyB Try.prog 20 = true := by kernel_rfl
theorem bd21 : bodyB Try.prog 21 = true := by kernel_rfl
theorem bd22 : bodyB Try.prog 22 = true := by kernel_rfl
theorem bd23 : bodyB Try.prog 23 = true := by kernel_rfl
theorem bd24 : bodyB Try.prog 24 = true := by kernel_rfl
theorem bd25 : bodyB Try.prog 25 = true := by kernel_rfl
theorem bd26 : bodyB Try.prog 26 = true := by kernel_rfl
theorem bd27 : bodyB Try.prog 27 = true := by kernel_rfl
theorem bd28 : bodyB Try.prog 28 = true := by kernel_rfl
theorem bd29 : bodyB Try.prog 29 = true := by kernel_rfl
theorem bd30 : bodyB Try.prog 30 = true := by kernel_rfl
theorem bd31 : bodyB Try.prog 31 = true := by kernel_rfl
theorem bd32 : bodyB Try.prog 32 = true := by kernel_rfl
theorem bd34 : bodyB Try.prog 34 = true := by kernel_rfl
theorem bd35 : bodyB Try.prog 35 = true := by kernel_rfl
theorem bd36 : bodyB Try.prog 36 = true := by kernel_rfl
theorem bd37 : bodyB Try.prog 37 = true := by kernel_rfl
theorem bd38 : bodyB Try.prog 38 = true := by kernel_rfl
theorem bd39 : bodyB Try.prog 39 = true := by kernel_rfl
theorem bd40 : bodyB Try.prog 40 = true := by kernel_rfl
theorem bd41 : bodyB Try.prog 41 = true := by kernel_rfl
theorem bd42 : bodyB Try.prog 42 = true := by kernel_rfl
theorem bd43 : bodyB Try.prog 43 = true := by kernel_rfl
theorem bd44 : bodyB Try.prog 44 = true := by kernel_rfl
theorem bd45 : bodyB Try.prog 45 = true := by kernel_rfl
theorem bd46 : bodyB Try.prog 46 = true := by kernel_rfl
theorem bd47 : bodyB Try.prog 47 = true := by kernel_rfl
theorem bd48 : bodyB Try.prog 48 = true := by kernel_rfl
theorem bd49 : bodyB Try.prog 49 = true := by kernel_rfl
theorem bd50 : bodyB Try.prog 50 = true := by kernel_rfl
theorem bd51 : bodyB Try.prog 51 = true := by kernel_rfl
theorem bd52 : bodyB Try.prog 52 = true := by kernel_rfl
theorem bd53 : bodyB Try.prog 53 = true := by kernel_rfl
theorem bd55 : bodyB Try.prog 55 = true := by kernel_rfl
theorem bd56 : bodyB Try.prog 56 = true := by kernel_rfl
theorem bd57 : bodyB Try.prog 57 = true := by kernel_rfl
theorem bd58 : bodyB Try.prog 58 = true := by kernel_rfl
theorem bd59 : bodyB Try.prog 59 = true := by kernel_rfl
theorem bd6 : bodyB Try.prog 6 = true := by kernel_rfl
theorem bd60 : bodyB Try.prog 60 = true := by kernel_rfl
theorem bd61 : bodyB Try.prog 61 = true := by kernel_rfl
theorem bd7 : bodyB Try.prog 7 = true := by kernel_rfl
theorem bd8 : bodyB Try.prog 8 = true := by kernel_rfl
theorem bd9 : bodyB Try.prog 9 = true := by kernel_rfl
theorem bo4 : boolB Try.prog 4 = true := by kernel_rfl
theorem bs40_1 (x0 : Int) (x1 : Int) (w : World) : (Instr.buildSlice 40 1 #[(0, (Value.agg #[(Value.int .u32 x0), (Value.int .i64 x1)]))]).run Try.prog w = .ok (.slice (some ⟨w.heap.size, 0, none⟩) 1 1) (w.alloc (.cells #[(Value.int .u32 x0), (Value.int .i64 x1)] 28)) := by simp [go_sem]
theorem bs44_0  (w : World) : (Instr.buildSlice 44 0 #[]).run Try.prog w = .ok (.slice (some ⟨w.heap.size, 0, none⟩) 0 0) (w.alloc (.cells #[] 32)) := by simp [go_sem]
theorem bs44_1 (x0 : Int) (x1 : Int) (x2 : Bool) (x3 : Int) (x4 : Int) (x5 : Nat) (w : World) : (Instr.buildSlice 44 1 #[(0, (Value.agg #[(Value.int .u32 x0), (Value.int .i64 x1), (Value.bool x2), (Value.int .i64 x3), (Value.int .u32 x4), (Value.float .f64 x5)]))]).run Try.prog w = .ok (.slice (some ⟨w.heap.size, 0, none⟩) 1 1) (w.alloc (.cells #[(Value.int .u32 x0), (Value.int .i64 x1), (Value.bool x2), (Value.int .i64 x3), (Value.int .u32 x4), (Value.float .f64 x5)] 32)) := by simp [go_sem]
theorem bs44_2 (x0 : Int) (x1 : Int) (x2 : Bool) (x3 : Int) (x4 : Int) (x5 : Nat) (x6 : Int) (x7 : Int) (x8 : Bool) (x9 : Int) (x10 : Int) (x11 : Nat) (w : World) : (Instr.buildSlice 44 2 #[(0, (Value.agg #[(Value.int .u32 x0), (Value.int .i64 x1), (Value.bool x2), (Value.int .i64 x3), (Value.int .u32 x4), (Value.float .f64 x5)])), (1, (Value.agg #[(Value.int .u32 x6), (Value.int .i64 x7), (Value.bool x8), (Value.int .i64 x9), (Value.int .u32 x10), (Value.float .f64 x11)]))]).run Try.prog w = .ok (.slice (some ⟨w.heap.size, 0, none⟩) 2 2) (w.alloc (.cells #[(Value.int .u32 x0), (Value.int .i64 x1), (Value.bool x2), (Value.int .i64 x3), (Value.int .u32 x4), (Value.float .f64 x5), (Value.int .u32 x6), (Value.int .i64 x7), (Value.bool x8), (Value.int .i64 x9), (Value.int .u32 x10), (Value.float .f64 x11)] 32)) := by simp [go_sem]
theorem bs68_1 (x0 : Int) (w : World) : (Instr.buildSlice 68 1 #[(0, (Value.int .u32 x0))]).run Try.prog w = .ok (.slice (some ⟨w.heap.size, 0, none⟩) 1 1) (w.alloc (.cells #[(Value.int .u32 x0)] 26)) := by simp [go_sem]
theorem bs93_1 (x0 : Option Addr) (w : World) : (Instr.buildSlice 93 1 #[(0, (Value.pointer x0))]).run Try.prog w = .ok (.slice (some ⟨w.heap.size, 0, none⟩) 1 1) (w.alloc (.cells #[(Value.pointer x0)] 81)) := by simp [go_sem]
theorem bu28_  (w : World) : (Instr.build 28 #[]).run Try.prog w = .ok (.agg #[(Value.int .u32 (0 : Int)), (Value.int .i64 (0 : Int))]) w := by simp [go_sem]
theorem bu28_0_1 (x0 : Int) (x1 : Int) (w : World) : (Instr.build 28 #[(0, (Value.int .u32 x0)), (1, (Value.int .i64 x1))]).run Try.prog w = .ok (.agg #[(Value.int .u32 x0), (Value.int .i64 x1)]) w := by simp [go_sem]
theorem bu32_  (w : World) : (Instr.build 32 #[]).run Try.prog w = .ok (.agg #[(Value.int .u32 (0 : Int)), (Value.int .i64 (0 : Int)), (Value.bool false), (Value.int .i64 (0 : Int)), (Value.int .u32 (0 : Int)), (Value.float .f64 (0 : Nat))]) w := by simp [go_sem]
theorem bu32_0_1_2_4 (x0 : Int) (x1 : Int) (x2 : Bool) (x3 : Int) (x4 : Nat) (w : World) : (Instr.build 32 #[(0, (Value.agg #[(Value.int .u32 x0), (Value.int .i64 x1)])), (1, (Value.bool x2)), (2, (Value.int .i64 x3)), (4, (Value.float .f64 x4))]).run Try.prog w = .ok (.agg #[(Value.int .u32 x0), (Value.int .i64 x1), (Value.bool x2), (Value.int .i64 x3), (Value.int .u32 (0 : Int)), (Value.float .f64 x4)]) w := by simp [go_sem]
theorem bu32_0_3_4 (x0 : Int) (x1 : Int) (x2 : Int) (x3 : Nat) (w : World) : (Instr.build 32 #[(0, (Value.agg #[(Value.int .u32 x0), (Value.int .i64 x1)])), (3, (Value.int .u32 x2)), (4, (Value.float .f64 x3))]).run Try.prog w = .ok (.agg #[(Value.int .u32 x0), (Value.int .i64 x1), (Value.bool false), (Value.int .i64 (0 : Int)), (Value.int .u32 x2), (Value.float .f64 x3)]) w := by simp [go_sem]
theorem bu32_0_4 (x0 : Int) (x1 : Int) (x2 : Nat) (w : World) : (Instr.build 32 #[(0, (Value.agg #[(Value.int .u32 x0), (Value.int .i64 x1)])), (4, (Value.float .f64 x2))]).run Try.prog w = .ok (.agg #[(Value.int .u32 x0), (Value.int .i64 x1), (Value.bool false), (Value.int .i64 (0 : Int)), (Value.int .u32 (0 : Int)), (Value.float .f64 x2)]) w := by simp [go_sem]
theorem bu37_  (w : World) : (Instr.build 37 #[]).run Try.prog w = .ok (.agg #[(Value.int .i64 (0 : Int)), (Value.float .f64 (0 : Nat))]) w := by simp [go_sem]
theorem bu61_0_1_2 (x0 : Option Addr) (x1 : Option Addr) (x2 : Option Nat) (w : World) : (Instr.build 61 #[(0, (Value.pointer x0)), (1, (Value.pointer x1)), (2, (Value.map x2))]).run Try.prog w = .ok (.agg #[(Value.pointer x0), (Value.pointer x1), (Value.map x2)]) w := by simp [go_sem]
theorem bu74_  (w : World) : (Instr.build 74 #[]).run Try.prog w = .ok (.agg #[(SV.v SV.nil)]) w := by simp [go_sem]
theorem bu84_  (w : World) : (Instr.build 84 #[]).run Try.prog w = .ok (.agg #[(Value.pointer (none : Option Addr)), (Value.pointer (none : Option Addr)), (Value.bool false), (Value.int .i64 (0 : Int))]) w := by simp [go_sem]
theorem bu86_  (w : World) : (Instr.build 86 #[]).run Try.prog w = .ok (.agg #[(Value.pointer (none : Option Addr)), (Value.pointer (none : Option Addr)), (Value.bool false), (Value.int .i64 (0 : Int)), (Value.int .i64 (0 : Int))]) w := by simp [go_sem]
theorem fa28_0 : fieldB Try.prog 28 0 0 = true := by kernel_rfl
theorem fa28_1 : fieldB Try.prog 28 1 1 = true := by kernel_rfl
theorem fa32_0 : fieldB Try.prog 32 0 0 = true := by kernel_rfl
theorem fa32_1 : fieldB Try.prog 32 1 2 = true := by kernel_rfl
theorem fa32_2 : fieldB Try.prog 32 2 3 = true := by kernel_rfl
theorem fa32_3 : fieldB Try.prog 32 3 4 = true := by kernel_rfl
theorem fa32_4 : fieldB Try.prog 32 4 5 = true := by kernel_rfl
theorem fa37_0 : fieldB Try.prog 37 0 0 = true := by kernel_rfl
theorem fa37_1 : fieldB Try.prog 37 1 1 = true := by kernel_rfl
theorem fa61_0 : fieldB Try.prog 61 0 0 = true := by kernel_rfl
theorem fa61_1 : fieldB Try.prog 61 1 1 = true := by kernel_rfl
theorem fa61_2 : fieldB Try.prog 61 2 2 = true := by kernel_rfl
theorem fa70_0 : fieldB Try.prog 70 0 0 = true := by kernel_rfl
theorem fa70_1 : fieldB Try.prog 70 1 2 = true := by kernel_rfl
theorem fa70_2 : fieldB Try.prog 70 2 3 = true := by kernel_rfl
theorem fa74_0 : fieldB Try.prog 74 0 0 = true := by kernel_rfl
theorem fa84_0 : fieldB Try.prog 84 0 0 = true := by kernel_rfl
theorem fa84_1 : fieldB Try.prog 84 1 2 = true := by kernel_rfl
theorem fa84_2 : fieldB Try.prog 84 2 3 = true := by kernel_rfl
theorem fa86_0 : fieldB Try.prog 86 0 0 = true := by kernel_rfl
theorem fa86_1 : fieldB Try.prog 86 1 4 = true := by kernel_rfl
theorem fo22 : floatB Try.prog 22 .f64 = true := by kernel_rfl
theorem in26 : intB Try.prog 26 .u32 = true := by kernel_rfl
theorem in3 : intB Try.prog 3 .i64 = true := by kernel_rfl
theorem in30 : intB Try.prog 30 .u64 = true := by kernel_rfl
theorem mix : Try.prog.follows .mixedOrders = true := by kernel_rfl
theorem pt24 : ptrB Try.prog 24 = true := by kernel_rfl
theorem pt81 : ptrB Try.prog 81 = true := by kernel_rfl
theorem sc22 : scalarB Try.prog 22 = true := by kernel_rfl
theorem sc26 : scalarB Try.prog 26 = true := by kernel_rfl
theorem sc3 : scalarB Try.prog 3 = true := by kernel_rfl
theorem sc4 : scalarB Try.prog 4 = true := by kernel_rfl
theorem sc40 : scalarB Try.prog 40 = true := by kernel_rfl
theorem sc44 : scalarB Try.prog 44 = true := by kernel_rfl
theorem sc57 : scalarB Try.prog 57 = true := by kernel_rfl
theorem sc59 : scalarB Try.prog 59 = true := by kernel_rfl
theorem sc68 : scalarB Try.prog 68 = true := by kernel_rfl
theorem sc81 : scalarB Try.prog 81 = true := by kernel_rfl
theorem sf28 : (Try.prog.fieldsOf 28).toList = [{ name := "Addr", type := 26, offset := 0, embedded := false, tag := "", pkgPath := "", byteOffset := 0 }, { name := "Len", type := 3, offset := 1, embedded := false, tag := "", pkgPath := "", byteOffset := 8 }] := by kernel_rfl
theorem sg28 : Try.prog.eqGuardType Try.prog.depth 28 = false := by kernel_rfl
theorem si28 : Try.prog.stoodInHeld 28 = false := by kernel_rfl
theorem sl40 : sliceB Try.prog 40 28 2 = true := by kernel_rfl
theorem sl44 : sliceB Try.prog 44 32 6 = true := by kernel_rfl
theorem sl68 : sliceB Try.prog 68 26 1 = true := by kernel_rfl
theorem sl93 : sliceB Try.prog 93 81 1 = true := by kernel_rfl
theorem su28 : Try.prog.underlying 28 = some (.struct (Try.prog.fieldsOf 28)) := by kernel_rfl
theorem sz22 : sizeB Try.prog 22 1 = true := by kernel_rfl
theorem sz26 : sizeB Try.prog 26 1 = true := by kernel_rfl
theorem sz28 : sizeB Try.prog 28 2 = true := by kernel_rfl
theorem sz3 : sizeB Try.prog 3 1 = true := by kernel_rfl
theorem sz32 : sizeB Try.prog 32 6 = true := by kernel_rfl
theorem sz37 : sizeB Try.prog 37 2 = true := by kernel_rfl
theorem sz4 : sizeB Try.prog 4 1 = true := by kernel_rfl
theorem sz40 : sizeB Try.prog 40 1 = true := by kernel_rfl
theorem sz44 : sizeB Try.prog 44 1 = true := by kernel_rfl
theorem sz68 : sizeB Try.prog 68 1 = true := by kernel_rfl
theorem sz70 : sizeB Try.prog 70 4 = true := by kernel_rfl
theorem sz81 : sizeB Try.prog 81 1 = true := by kernel_rfl
theorem un26 : Try.prog.underlying 26 = some (.int .u32) := by kernel_rfl
theorem un3 : Try.prog.underlying 3 = some (.int .i64) := by kernel_rfl
theorem ze28 : (Try.prog.info? 28).map (·.zero) = some (some (Value.agg #[(Value.int .u32 (0 : Int)), (Value.int .i64 (0 : Int))])) := by kernel_rfl
theorem ze32 : (Try.prog.info? 32).map (·.zero) = some (some (Value.agg #[(Value.int .u32 (0 : Int)), (Value.int .i64 (0 : Int)), (Value.bool false), (Value.int .i64 (0 : Int)), (Value.int .u32 (0 : Int)), (Value.float .f64 (0 : Nat))])) := by kernel_rfl
theorem ze37 : (Try.prog.info? 37).map (·.zero) = some (some (Value.agg #[(Value.int .i64 (0 : Int)), (Value.float .f64 (0 : Nat))])) := by kernel_rfl
theorem ze70 : (Try.prog.info? 70).map (·.zero) = some (some (Value.agg #[(Value.int .i64 (0 : Int)), (Value.float .f64 (0 : Nat)), (SV.v SV.nil), (SV.v SV.nil)])) := by kernel_rfl
theorem eq28 (x0 y0 : Int) (x1 y1 : Int) (w : World) : (Op.equalIn 10000 28 (.agg #[(Value.int .u32 x0), (Value.int .i64 x1)]) (.agg #[(Value.int .u32 y0), (Value.int .i64 y1)])).run Try.prog w = .ok ((x0 == y0) && (x1 == y1)) w := by
  rw [run_equalIn_agg w 9999 28 _ _ su28 si28]
  simp only [sf28]
  have e0 := run_equalIn_int w 9998 26 .u32 .u32 x0 y0 un26
  have e1 := run_equalIn_int w 9998 3 .i64 .i64 x1 y1 un3
  simp only [Nat.reduceAdd] at e0 e1
  simp [Op.eqFields, part, scalarB_run sc26, scalarB_run sc3, e0, e1]
  by_cases h0 : x0 = y0 <;> by_cases h1 : x1 = y1 <;> simp [h0, h1]
theorem xt18 (n : Nat) (w : World) : (callFunc 18 #[(.float .f64 n)]).run Try.prog w = .ok (.value (.int .u64 (n : Int))) w := by
  rw [run_callFunc_extern Try.func18 (by kernel_rfl) (by kernel_rfl) (by kernel_rfl) (show Extern.find _ = some Extern.MathFloatBits.float64bits by kernel_rfl)]; rfl
theorem xt54 (n : Int) (w : World) : (callFunc 54 #[(.int .u64 n)]).run Try.prog w = .ok (.value (.float .f64 n.toNat)) w := by
  rw [run_callFunc_extern Try.func54 (by kernel_rfl) (by kernel_rfl) (by kernel_rfl) (show Extern.find _ = some Extern.MathFloatBits.float64frombits by kernel_rfl)]; rfl
/-- What comes back from signpost.signpostlaw16.NexthopChain. -/
def R3 (K : Bool → World → Prop) : Ending → World → Prop := fun e w => ∃ (x0 : Bool), e = .returned (Value.bool x0) ∧ K x0 w
/-- What comes back from signpost.signpostlaw16.NexthopDirect. -/
def R4 (K : Bool → World → Prop) : Ending → World → Prop := fun e w => ∃ (x0 : Bool), e = .returned (Value.bool x0) ∧ K x0 w
/-- What comes back from signpost.signpostlaw16.NexthopDepends. -/
def R5 (K : Bool → World → Prop) : Ending → World → Prop := fun e w => ∃ (x0 : Bool), e = .returned (Value.bool x0) ∧ K x0 w
/-- What comes back from signpost.signpostbook.Within. -/
def R6 (K : Int → World → Prop) : Ending → World → Prop := fun e w => ∃ (x0 : Int), e = .returned (Value.int .i64 x0) ∧ K x0 w
/-- What comes back from signpost.igp.New. -/
def R7 (K : Option Addr → World → Prop) : Ending → World → Prop := fun e w => ∃ (x0 : Option Addr), e = .returned (Value.pointer x0) ∧ K x0 w
/-- What comes back from signpost.signpostkeep.Any. -/
def R8 (K : Int → Int → World → Prop) : Ending → World → Prop := fun e w => ∃ (x0 : Int) (x1 : Int), e = .returned (Value.agg #[(Value.int .u32 x0), (Value.int .i64 x1)]) ∧ K x0 x1 w
/-- What comes back from (*signpost.igp.Table).Put. -/
def R9 (K : Bool → Int → World → Prop) : Ending → World → Prop := fun e w => ∃ (x0 : Bool) (x1 : Int), e = .returned (Value.tuple #[(Value.bool x0), (Value.int .i64 x1)]) ∧ K x0 x1 w
/-- What comes back from signpost.nexthop.Resolve. -/
def R10 (K : Int → Nat → Int → World → Prop) : Ending → World → Prop := fun e w => ∃ (x0 : Int) (x1 : Nat) (x2 : Int), e = .returned (Value.tuple #[(Value.agg #[(Value.int .i64 x0), (Value.float .f64 x1)]), (Value.int .i64 x2)]) ∧ K x0 x1 x2 w
/-- What comes back from signpost.nexthop.Trail. -/
def R11 (K : SV → World → Prop) : Ending → World → Prop := fun e w => ∃ (x0 : SV), e = .returned (SV.v x0) ∧ K x0 w
/-- What comes back from signpost.signpostlaw16.known. -/
def R12 (K : Bool → World → Prop) : Ending → World → Prop := fun e w => ∃ (x0 : Bool), e = .returned (Value.bool x0) ∧ K x0 w
/-- What comes back from signpost.signpostlaw16.tables. -/
def R13 (K : Option Addr → Option Addr → World → Prop) : Ending → World → Prop := fun e w => ∃ (x0 : Option Addr) (x1 : Option Addr), e = .returned (Value.tuple #[(Value.pointer x0), (Value.pointer x1)]) ∧ K x0 x1 w
/-- What comes back from signpost.signpostkeep.Next. -/
def R14 (K : Int → World → Prop) : Ending → World → Prop := fun e w => ∃ (x0 : Int), e = .returned (Value.int .u32 x0) ∧ K x0 w
/-- What comes back from signpost.signpostkeep.Way. -/
def R15 (K : Int → Int → Bool → Int → Int → Nat → World → Prop) : Ending → World → Prop := fun e w => ∃ (x0 : Int) (x1 : Int) (x2 : Bool) (x3 : Int) (x4 : Int) (x5 : Nat), e = .returned (Value.agg #[(Value.int .u32 x0), (Value.int .i64 x1), (Value.bool x2), (Value.int .i64 x3), (Value.int .u32 x4), (Value.float .f64 x5)]) ∧ K x0 x1 x2 x3 x4 x5 w
/-- What comes back from signpost.nexthop.Depends. -/
def R16 (K : Bool → World → Prop) : Ending → World → Prop := fun e w => ∃ (x0 : Bool), e = .returned (Value.bool x0) ∧ K x0 w
/-- What comes back from (*signpost.igp.Table).Cut. -/
def R17 (K : Bool → World → Prop) : Ending → World → Prop := fun e w => ∃ (x0 : Bool), e = .returned (Value.bool x0) ∧ K x0 w
/-- What comes back from signpost.signpostbook.Same[signpost.api.Prefix]. -/
def R19 (K : Bool → World → Prop) : Ending → World → Prop := fun e w => ∃ (x0 : Bool), e = .returned (Value.bool x0) ∧ K x0 w
/-- What comes back from signpost.trie.New. -/
def R20 (K : Option Addr → World → Prop) : Ending → World → Prop := fun e w => ∃ (x0 : Option Addr), e = .returned (Value.pointer x0) ∧ K x0 w
/-- What comes back from signpost.signpostref1.Of. -/
def R21 (K : Int → Int → World → Prop) : Ending → World → Prop := fun e w => ∃ (x0 : Int) (x1 : Int), e = .returned (Value.agg #[(Value.int .u32 x0), (Value.int .i64 x1)]) ∧ K x0 x1 w
/-- What comes back from signpost.igp.Right. -/
def R22 (K : Bool → World → Prop) : Ending → World → Prop := fun e w => ∃ (x0 : Bool), e = .returned (Value.bool x0) ∧ K x0 w
/-- What comes back from signpost.metric.Clean. -/
def R23 (K : Nat → World → Prop) : Ending → World → Prop := fun e w => ∃ (x0 : Nat), e = .returned (Value.float .f64 x0) ∧ K x0 w
/-- What comes back from (*signpost.trie.Trie).Put. -/
def R24 (K : Bool → World → Prop) : Ending → World → Prop := fun e w => ∃ (x0 : Bool), e = .returned (Value.bool x0) ∧ K x0 w
/-- What comes back from math.IsInf. -/
def R25 (K : Bool → World → Prop) : Ending → World → Prop := fun e w => ∃ (x0 : Bool), e = .returned (Value.bool x0) ∧ K x0 w
/-- What comes back from (*signpost.trie.Trie).Cut. -/
def R26 (K : Bool → World → Prop) : Ending → World → Prop := fun e w => ∃ (x0 : Bool), e = .returned (Value.bool x0) ∧ K x0 w
/-- What comes back from signpost.igp.Same. -/
def R27 (K : Bool → World → Prop) : Ending → World → Prop := fun e w => ∃ (x0 : Bool), e = .returned (Value.bool x0) ∧ K x0 w
/-- What comes back from signpost.nexthop.follow. -/
def R28 (K : Int → Nat → SV → SV → Int → World → Prop) : Ending → World → Prop := fun e w => ∃ (x0 : Int) (x1 : Nat) (x2 : SV) (x3 : SV) (x4 : Int), e = .returned (Value.tuple #[(Value.agg #[(Value.int .i64 x0), (Value.float .f64 x1), (SV.v x2), (SV.v x3)]), (Value.int .i64 x4)]) ∧ K x0 x1 x2 x3 x4 w
/-- What comes back from (*signpost.signpostref15.Table).Put. -/
def R29 (K : Bool → Int → World → Prop) : Ending → World → Prop := fun e w => ∃ (x0 : Bool) (x1 : Int), e = .returned (Value.tuple #[(Value.bool x0), (Value.int .i64 x1)]) ∧ K x0 x1 w
/-- What comes back from signpost.addr.Right. -/
def R30 (K : Bool → World → Prop) : Ending → World → Prop := fun e w => ∃ (x0 : Bool), e = .returned (Value.bool x0) ∧ K x0 w
/-- What comes back from slices.Contains[[]signpost.api.Prefix,signpost.api.Prefix]. -/
def R31 (K : Bool → World → Prop) : Ending → World → Prop := fun e w => ∃ (x0 : Bool), e = .returned (Value.bool x0) ∧ K x0 w
/-- What comes back from slices.ContainsFunc[[]uint32,uint32]. -/
def R32 (K : Bool → World → Prop) : Ending → World → Prop := fun e w => ∃ (x0 : Bool), e = .returned (Value.bool x0) ∧ K x0 w
/-- What comes back from signpost.nexthop.Depends$1. -/
def R33 (K : Bool → World → Prop) : Ending → World → Prop := fun e w => ∃ (x0 : Bool), e = .returned (Value.bool x0) ∧ K x0 w
/-- What comes back from signpost.addr.Has. -/
def R34 (K : Bool → World → Prop) : Ending → World → Prop := fun e w => ∃ (x0 : Bool), e = .returned (Value.bool x0) ∧ K x0 w
/-- What comes back from signpost.signpostref1.Mask. -/
def R35 (K : Int → World → Prop) : Ending → World → Prop := fun e w => ∃ (x0 : Int), e = .returned (Value.int .u32 x0) ∧ K x0 w
/-- What comes back from signpost.metric.Right. -/
def R36 (K : Bool → World → Prop) : Ending → World → Prop := fun e w => ∃ (x0 : Bool), e = .returned (Value.bool x0) ∧ K x0 w
/-- What comes back from math.Inf. -/
def R37 (K : Nat → World → Prop) : Ending → World → Prop := fun e w => ∃ (x0 : Nat), e = .returned (Value.float .f64 x0) ∧ K x0 w
/-- What comes back from signpost.trie.bit. -/
def R38 (K : Int → World → Prop) : Ending → World → Prop := fun e w => ∃ (x0 : Int), e = .returned (Value.int .i64 x0) ∧ K x0 w
/-- What comes back from math.Abs. -/
def R39 (K : Nat → World → Prop) : Ending → World → Prop := fun e w => ∃ (x0 : Nat), e = .returned (Value.float .f64 x0) ∧ K x0 w
/-- What comes back from (*signpost.trie.Trie).Get. -/
def R40 (K : Int → Bool → World → Prop) : Ending → World → Prop := fun e w => ∃ (x0 : Int) (x1 : Bool), e = .returned (Value.tuple #[(Value.int .i64 x0), (Value.bool x1)]) ∧ K x0 x1 w
/-- What comes back from (*signpost.trie.node).empty. -/
def R41 (K : Bool → World → Prop) : Ending → World → Prop := fun e w => ∃ (x0 : Bool), e = .returned (Value.bool x0) ∧ K x0 w
/-- What comes back from signpost.metric.Same. -/
def R42 (K : Bool → World → Prop) : Ending → World → Prop := fun e w => ∃ (x0 : Bool), e = .returned (Value.bool x0) ∧ K x0 w
/-- What comes back from (*signpost.igp.Table).Match. -/
def R43 (K : Int → Int → Bool → Int → Int → Nat → Bool → World → Prop) : Ending → World → Prop := fun e w => ∃ (x0 : Int) (x1 : Int) (x2 : Bool) (x3 : Int) (x4 : Int) (x5 : Nat) (x6 : Bool), e = .returned (Value.tuple #[(Value.agg #[(Value.int .u32 x0), (Value.int .i64 x1), (Value.bool x2), (Value.int .i64 x3), (Value.int .u32 x4), (Value.float .f64 x5)]), (Value.bool x6)]) ∧ K x0 x1 x2 x3 x4 x5 x6 w
/-- What comes back from signpost.metric.Add. -/
def R44 (K : Nat → World → Prop) : Ending → World → Prop := fun e w => ∃ (x0 : Nat), e = .returned (Value.float .f64 x0) ∧ K x0 w
/-- What comes back from signpost.signpostref15.Right. -/
def R45 (K : Bool → World → Prop) : Ending → World → Prop := fun e w => ∃ (x0 : Bool), e = .returned (Value.bool x0) ∧ K x0 w
/-- What comes back from signpost.signpostref2.Clean. -/
def R46 (K : Nat → World → Prop) : Ending → World → Prop := fun e w => ∃ (x0 : Nat), e = .returned (Value.float .f64 x0) ∧ K x0 w
/-- What comes back from (*signpost.signpostref15.Table).Get. -/
def R47 (K : Int → Int → Bool → Int → Int → Nat → Bool → World → Prop) : Ending → World → Prop := fun e w => ∃ (x0 : Int) (x1 : Int) (x2 : Bool) (x3 : Int) (x4 : Int) (x5 : Nat) (x6 : Bool), e = .returned (Value.tuple #[(Value.agg #[(Value.int .u32 x0), (Value.int .i64 x1), (Value.bool x2), (Value.int .i64 x3), (Value.int .u32 x4), (Value.float .f64 x5)]), (Value.bool x6)]) ∧ K x0 x1 x2 x3 x4 x5 x6 w
/-- What comes back from (*signpost.signpostref15.Table).Cut. -/
def R48 (K : Bool → World → Prop) : Ending → World → Prop := fun e w => ∃ (x0 : Bool), e = .returned (Value.bool x0) ∧ K x0 w
/-- What comes back from signpost.signpostref1.Less. -/
def R49 (K : Bool → World → Prop) : Ending → World → Prop := fun e w => ∃ (x0 : Bool), e = .returned (Value.bool x0) ∧ K x0 w
/-- What comes back from signpost.signpostref15.Same. -/
def R50 (K : Bool → World → Prop) : Ending → World → Prop := fun e w => ∃ (x0 : Bool), e = .returned (Value.bool x0) ∧ K x0 w
/-- What comes back from signpost.addr.Mask. -/
def R51 (K : Int → World → Prop) : Ending → World → Prop := fun e w => ∃ (x0 : Int), e = .returned (Value.int .u32 x0) ∧ K x0 w
/-- What comes back from slices.Index[[]signpost.api.Prefix,signpost.api.Prefix]. -/
def R52 (K : Int → World → Prop) : Ending → World → Prop := fun e w => ∃ (x0 : Int), e = .returned (Value.int .i64 x0) ∧ K x0 w
/-- What comes back from slices.IndexFunc[[]uint32,uint32]. -/
def R53 (K : Int → World → Prop) : Ending → World → Prop := fun e w => ∃ (x0 : Int), e = .returned (Value.int .i64 x0) ∧ K x0 w
/-- What comes back from (*signpost.trie.Trie).find. -/
def R55 (K : Option Addr → World → Prop) : Ending → World → Prop := fun e w => ∃ (x0 : Option Addr), e = .returned (Value.pointer x0) ∧ K x0 w
/-- What comes back from (*signpost.trie.Trie).Match. -/
def R56 (K : Int → Int → Int → Bool → World → Prop) : Ending → World → Prop := fun e w => ∃ (x0 : Int) (x1 : Int) (x2 : Int) (x3 : Bool), e = .returned (Value.tuple #[(Value.agg #[(Value.int .u32 x0), (Value.int .i64 x1)]), (Value.int .i64 x2), (Value.bool x3)]) ∧ K x0 x1 x2 x3 w
/-- What comes back from signpost.signpostref1.Right. -/
def R57 (K : Bool → World → Prop) : Ending → World → Prop := fun e w => ∃ (x0 : Bool), e = .returned (Value.bool x0) ∧ K x0 w
/-- What comes back from signpost.signpostref2.Right. -/
def R58 (K : Bool → World → Prop) : Ending → World → Prop := fun e w => ∃ (x0 : Bool), e = .returned (Value.bool x0) ∧ K x0 w
/-- What comes back from signpost.signpostref2.Same. -/
def R59 (K : Bool → World → Prop) : Ending → World → Prop := fun e w => ∃ (x0 : Bool), e = .returned (Value.bool x0) ∧ K x0 w
/-- What comes back from (*signpost.trie.Trie).down. -/
def R60 (K : SV → World → Prop) : Ending → World → Prop := fun e w => ∃ (x0 : SV), e = .returned (SV.v x0) ∧ K x0 w
/-- What comes back from signpost.addr.Of. -/
def R61 (K : Int → Int → World → Prop) : Ending → World → Prop := fun e w => ∃ (x0 : Int) (x1 : Int), e = .returned (Value.agg #[(Value.int .u32 x0), (Value.int .i64 x1)]) ∧ K x0 x1 w
/-- What comes back from a function that is a value. -/
def RV4 (K : Bool → World → Prop) : Ending → World → Prop := fun e w => ∃ (x0 : Bool), e = .returned (Value.bool x0) ∧ K x0 w
end Go.Proofs.Ytecegjimdohmeaa
