/-
  The closed facts on types and functions that the printed proofs use, and what comes back from each function.
-/
import Derived.Test.YtnkpjlojijppiaaProg
import Derived.Test.YtnkpjlojijppiaaSpMem
import Derived.Test.YtnkpjlojijppiaaSpFlo
import Derived.Test.YtnkpjlojijppiaaSpMap
import Derived.KernelRfl
namespace Go.Proofs.Ytnkpjlojijppiaa
set_option linter.unusedVariables false
set_option linter.unusedSimpArgs false
open Go.Sp
theorem ag30 : aggB Try.prog 30 = true := by kernel_rfl
theorem ag33 : aggB Try.prog 33 = true := by kernel_rfl
theorem ag36 : aggB Try.prog 36 = true := by kernel_rfl
theorem ar84 : arrB Try.prog 84 2 83 1 = true := by kernel_rfl
theorem bd10 : bodyB Try.prog 10 = true := by kernel_rfl
theorem bd11 : bodyB Try.prog 11 = true := by kernel_rfl
theorem bd12 : bodyB Try.prog 12 = true := by kernel_rfl
theorem bd13 : bodyB Try.prog 13 = true := by kernel_rfl
theorem bd14 : bodyB Try.prog 14 = true := by kernel_rfl
theorem bd15 : bodyB Try.prog 15 = true := by kernel_rfl
theorem bd16 : bodyB Try.prog 16 = true := by kernel_rfl
theorem bd17 : bodyB Try.prog 17 = true := by kernel_rfl
theorem bd18 : bodyB Try.prog 18 = true := by kernel_rfl
theorem bd19 : bodyB Try.prog 19 = true := by kernel_rfl
theorem bd20 : bodyB Try.prog 20 = true := by kernel_rfl
theorem bd21 : bodyB Try.prog 21 = true := by kernel_rfl
theorem bd22 : bodyB Try.prog 22 = true := by kernel_rfl
theorem bd23 : bodyB Try.prog 23 = true := by kernel_rfl
theorem bd24 : bodyB Try.prog 24 = true := by kernel_rfl
theorem bd25 : bodyB Try.prog 25 = true := by kernel_rfl
theorem bd26 : bodyB Try.prog 26 = true := by kernel_rfl
theorem bd27 : bodyB Try.prog 27 = true := by kernel_rfl
theorem bd28 : bodyB Try.prog 28 = true := by kernel_rfl
theorem bd29 : bodyB Try.prog 29 = true := by kernel_rfl
theorem bd30 : bodyB Try.prog 30 = true := by kernel_rfl
theorem bd31 : bodyB Try.prog 31 = true := by kernel_rfl
theorem bd32 : bodyB Try.prog 32 = true := by kernel_rfl
theorem bd33 : bodyB Try.prog 33 = true := by kernel_rfl
theorem bd34 : bodyB Try.prog 34 = true := by kernel_rfl
theorem bd35 : bodyB Try.prog 35 = true := by kernel_rfl
theorem bd36 : bodyB Try.prog 36 = true := by kernel_rfl
theorem bd37 : bodyB Try.prog 37 = true := by kernel_rfl
theorem bd39 : bodyB Try.prog 39 = true := by kernel_rfl
theorem bd40 : bodyB Try.prog 40 = true := by kernel_rfl
theorem bd41 : bodyB Try.prog 41 = true := by kernel_rfl
theorem bd42 : bodyB Try.prog 42 = true := by kernel_rfl
theorem bd43 : bodyB Try.prog 43 = true := by kernel_rfl
theorem bd44 : bodyB Try.prog 44 = true := by kernel_rfl
theorem bd45 : bodyB Try.prog 45 = true := by kernel_rfl
theorem bd47 : bodyB Try.prog 47 = true := by kernel_rfl
theorem bd48 : bodyB Try.prog 48 = true := by kernel_rfl
theorem bd49 : bodyB Try.prog 49 = true := by kernel_rfl
theorem bd50 : bodyB Try.prog 50 = true := by kernel_rfl
theorem bd51 : bodyB Try.prog 51 = true := by kernel_rfl
theorem bd52 : bodyB Try.prog 52 = true := by kernel_rfl
theorem bd53 : bodyB Try.prog 53 = true := by kernel_rfl
theorem bd54 : bodyB Try.prog 54 = true := by kernel_rfl
theorem bd55 : bodyB Try.prog 55 = true := by kernel_rfl
theorem bd56 : bodyB Try.prog 56 = true := by kernel_rfl
theorem bd57 : bodyB Try.prog 57 = true := by kernel_rfl
theorem bd58 : bodyB Try.prog 58 = true := by kernel_rfl
theorem bd59 : bodyB Try.prog 59 = true := by kernel_rfl
theorem bd60 : bodyB Try.prog 60 = true := by kernel_rfl
theorem bd61 : bodyB Try.prog 61 = true := by kernel_rfl
theorem bd62 : bodyB Try.prog 62 = true := by kernel_rfl
theorem bd63 : bodyB Try.prog 63 = true := by kernel_rfl
theorem bd7 : bodyB Try.prog 7 = true := by kernel_rfl
theorem bd8 : bodyB Try.prog 8 = true := by kernel_rfl
theorem bd9 : bodyB Try.prog 9 = true := by kernel_rfl
theorem bo4 : boolB Try.prog 4 = true := by kernel_rfl
theorem bs39_0  (w : World) : (Instr.buildSlice 39 0 #[]).run Try.prog w = .ok (.slice (some ⟨w.heap.size, 0, none⟩) 0 0) (w.alloc (.cells #[] 33)) := by simp [go_sem]
theorem bs39_1 (x0 : Int) (x1 : Int) (x2 : Bool) (x3 : Int) (x4 : Int) (x5 : Nat) (w : World) : (Instr.buildSlice 39 1 #[(0, (Value.agg #[(Value.int .u32 x0), (Value.int .i64 x1), (Value.bool x2), (Value.int .i64 x3), (Value.int .u32 x4), (Value.float .f64 x5)]))]).run Try.prog w = .ok (.slice (some ⟨w.heap.size, 0, none⟩) 1 1) (w.alloc (.cells #[(Value.int .u32 x0), (Value.int .i64 x1), (Value.bool x2), (Value.int .i64 x3), (Value.int .u32 x4), (Value.float .f64 x5)] 33)) := by simp [go_sem]
theorem bs59_9 (x0 : Nat) (x1 : Nat) (x2 : Nat) (x3 : Nat) (x4 : Nat) (x5 : Nat) (x6 : Nat) (x7 : Nat) (x8 : Nat) (w : World) : (Instr.buildSlice 59 9 #[(0, (Value.float .f64 x0)), (1, (Value.float .f64 x1)), (2, (Value.float .f64 x2)), (3, (Value.float .f64 x3)), (4, (Value.float .f64 x4)), (5, (Value.float .f64 x5)), (6, (Value.float .f64 x6)), (7, (Value.float .f64 x7)), (8, (Value.float .f64 x8))]).run Try.prog w = .ok (.slice (some ⟨w.heap.size, 0, none⟩) 9 9) (w.alloc (.cells #[(Value.float .f64 x0), (Value.float .f64 x1), (Value.float .f64 x2), (Value.float .f64 x3), (Value.float .f64 x4), (Value.float .f64 x5), (Value.float .f64 x6), (Value.float .f64 x7), (Value.float .f64 x8)] 31)) := by simp [go_sem]
theorem bs74_1 (x0 : Int) (x1 : Int) (w : World) : (Instr.buildSlice 74 1 #[(0, (Value.agg #[(Value.int .u32 x0), (Value.int .i64 x1)]))]).run Try.prog w = .ok (.slice (some ⟨w.heap.size, 0, none⟩) 1 1) (w.alloc (.cells #[(Value.int .u32 x0), (Value.int .i64 x1)] 30)) := by simp [go_sem]
theorem bs93_1 (x0 : Option Addr) (w : World) : (Instr.buildSlice 93 1 #[(0, (Value.pointer x0))]).run Try.prog w = .ok (.slice (some ⟨w.heap.size, 0, none⟩) 1 1) (w.alloc (.cells #[(Value.pointer x0)] 83)) := by simp [go_sem]
theorem bs99_2 (x0 : Bool) (x1 : Bool) (w : World) : (Instr.buildSlice 99 2 #[(0, (Value.bool x0)), (1, (Value.bool x1))]).run Try.prog w = .ok (.slice (some ⟨w.heap.size, 0, none⟩) 2 2) (w.alloc (.cells #[(Value.bool x0), (Value.bool x1)] 4)) := by simp [go_sem]
theorem bu30_  (w : World) : (Instr.build 30 #[]).run Try.prog w = .ok (.agg #[(Value.int .u32 (0 : Int)), (Value.int .i64 (0 : Int))]) w := by simp [go_sem]
theorem bu30_0_1 (x0 : Int) (x1 : Int) (w : World) : (Instr.build 30 #[(0, (Value.int .u32 x0)), (1, (Value.int .i64 x1))]).run Try.prog w = .ok (.agg #[(Value.int .u32 x0), (Value.int .i64 x1)]) w := by simp [go_sem]
theorem bu33_  (w : World) : (Instr.build 33 #[]).run Try.prog w = .ok (.agg #[(Value.int .u32 (0 : Int)), (Value.int .i64 (0 : Int)), (Value.bool false), (Value.int .i64 (0 : Int)), (Value.int .u32 (0 : Int)), (Value.float .f64 (0 : Nat))]) w := by simp [go_sem]
theorem bu33_0 (x0 : Int) (x1 : Int) (w : World) : (Instr.build 33 #[(0, (Value.agg #[(Value.int .u32 x0), (Value.int .i64 x1)]))]).run Try.prog w = .ok (.agg #[(Value.int .u32 x0), (Value.int .i64 x1), (Value.bool false), (Value.int .i64 (0 : Int)), (Value.int .u32 (0 : Int)), (Value.float .f64 (0 : Nat))]) w := by simp [go_sem]
theorem bu33_0_1 (x0 : Int) (x1 : Int) (x2 : Bool) (w : World) : (Instr.build 33 #[(0, (Value.agg #[(Value.int .u32 x0), (Value.int .i64 x1)])), (1, (Value.bool x2))]).run Try.prog w = .ok (.agg #[(Value.int .u32 x0), (Value.int .i64 x1), (Value.bool x2), (Value.int .i64 (0 : Int)), (Value.int .u32 (0 : Int)), (Value.float .f64 (0 : Nat))]) w := by simp [go_sem]
theorem bu33_0_1_2 (x0 : Int) (x1 : Int) (x2 : Bool) (x3 : Int) (w : World) : (Instr.build 33 #[(0, (Value.agg #[(Value.int .u32 x0), (Value.int .i64 x1)])), (1, (Value.bool x2)), (2, (Value.int .i64 x3))]).run Try.prog w = .ok (.agg #[(Value.int .u32 x0), (Value.int .i64 x1), (Value.bool x2), (Value.int .i64 x3), (Value.int .u32 (0 : Int)), (Value.float .f64 (0 : Nat))]) w := by simp [go_sem]
theorem bu33_0_1_2_4 (x0 : Int) (x1 : Int) (x2 : Bool) (x3 : Int) (x4 : Nat) (w : World) : (Instr.build 33 #[(0, (Value.agg #[(Value.int .u32 x0), (Value.int .i64 x1)])), (1, (Value.bool x2)), (2, (Value.int .i64 x3)), (4, (Value.float .f64 x4))]).run Try.prog w = .ok (.agg #[(Value.int .u32 x0), (Value.int .i64 x1), (Value.bool x2), (Value.int .i64 x3), (Value.int .u32 (0 : Int)), (Value.float .f64 x4)]) w := by simp [go_sem]
theorem bu33_0_1_4 (x0 : Int) (x1 : Int) (x2 : Bool) (x3 : Nat) (w : World) : (Instr.build 33 #[(0, (Value.agg #[(Value.int .u32 x0), (Value.int .i64 x1)])), (1, (Value.bool x2)), (4, (Value.float .f64 x3))]).run Try.prog w = .ok (.agg #[(Value.int .u32 x0), (Value.int .i64 x1), (Value.bool x2), (Value.int .i64 (0 : Int)), (Value.int .u32 (0 : Int)), (Value.float .f64 x3)]) w := by simp [go_sem]
theorem bu33_0_4 (x0 : Int) (x1 : Int) (x2 : Nat) (w : World) : (Instr.build 33 #[(0, (Value.agg #[(Value.int .u32 x0), (Value.int .i64 x1)])), (4, (Value.float .f64 x2))]).run Try.prog w = .ok (.agg #[(Value.int .u32 x0), (Value.int .i64 x1), (Value.bool false), (Value.int .i64 (0 : Int)), (Value.int .u32 (0 : Int)), (Value.float .f64 x2)]) w := by simp [go_sem]
theorem bu36_0_1 (x0 : Int) (x1 : Int) (x2 : Int) (x3 : Bool) (x4 : Int) (x5 : Int) (x6 : Nat) (w : World) : (Instr.build 36 #[(0, (Value.int .i64 x0)), (1, (Value.agg #[(Value.int .u32 x1), (Value.int .i64 x2), (Value.bool x3), (Value.int .i64 x4), (Value.int .u32 x5), (Value.float .f64 x6)]))]).run Try.prog w = .ok (.agg #[(Value.int .i64 x0), (Value.int .u32 x1), (Value.int .i64 x2), (Value.bool x3), (Value.int .i64 x4), (Value.int .u32 x5), (Value.float .f64 x6), (Value.int .u32 (0 : Int)), (Value.bool false)]) w := by simp [go_sem]
theorem bu36_0_1_2 (x0 : Int) (x1 : Int) (x2 : Int) (x3 : Bool) (x4 : Int) (x5 : Int) (x6 : Nat) (x7 : Int) (w : World) : (Instr.build 36 #[(0, (Value.int .i64 x0)), (1, (Value.agg #[(Value.int .u32 x1), (Value.int .i64 x2), (Value.bool x3), (Value.int .i64 x4), (Value.int .u32 x5), (Value.float .f64 x6)])), (2, (Value.int .u32 x7))]).run Try.prog w = .ok (.agg #[(Value.int .i64 x0), (Value.int .u32 x1), (Value.int .i64 x2), (Value.bool x3), (Value.int .i64 x4), (Value.int .u32 x5), (Value.float .f64 x6), (Value.int .u32 x7), (Value.bool false)]) w := by simp [go_sem]
theorem bu49_  (w : World) : (Instr.build 49 #[]).run Try.prog w = .ok (.agg #[(SV.v SV.nil)]) w := by simp [go_sem]
theorem bu65_0_1_2 (x0 : Option Addr) (x1 : Option Addr) (x2 : Option Nat) (w : World) : (Instr.build 65 #[(0, (Value.pointer x0)), (1, (Value.pointer x1)), (2, (Value.map x2))]).run Try.prog w = .ok (.agg #[(Value.pointer x0), (Value.pointer x1), (Value.map x2)]) w := by simp [go_sem]
theorem bu86_  (w : World) : (Instr.build 86 #[]).run Try.prog w = .ok (.agg #[(Value.pointer (none : Option Addr)), (Value.pointer (none : Option Addr)), (Value.bool false), (Value.int .i64 (0 : Int))]) w := by simp [go_sem]
theorem bu88_  (w : World) : (Instr.build 88 #[]).run Try.prog w = .ok (.agg #[(Value.pointer (none : Option Addr)), (Value.pointer (none : Option Addr)), (Value.bool false), (Value.int .i64 (0 : Int)), (Value.int .i64 (0 : Int))]) w := by simp [go_sem]
theorem fa30_0 : fieldB Try.prog 30 0 0 = true := by kernel_rfl
theorem fa30_1 : fieldB Try.prog 30 1 1 = true := by kernel_rfl
theorem fa33_0 : fieldB Try.prog 33 0 0 = true := by kernel_rfl
theorem fa33_1 : fieldB Try.prog 33 1 2 = true := by kernel_rfl
theorem fa33_2 : fieldB Try.prog 33 2 3 = true := by kernel_rfl
theorem fa33_3 : fieldB Try.prog 33 3 4 = true := by kernel_rfl
theorem fa33_4 : fieldB Try.prog 33 4 5 = true := by kernel_rfl
theorem fa36_0 : fieldB Try.prog 36 0 0 = true := by kernel_rfl
theorem fa36_1 : fieldB Try.prog 36 1 1 = true := by kernel_rfl
theorem fa36_2 : fieldB Try.prog 36 2 7 = true := by kernel_rfl
theorem fa36_3 : fieldB Try.prog 36 3 8 = true := by kernel_rfl
theorem fa49_0 : fieldB Try.prog 49 0 0 = true := by kernel_rfl
theorem fa65_0 : fieldB Try.prog 65 0 0 = true := by kernel_rfl
theorem fa65_1 : fieldB Try.prog 65 1 1 = true := by kernel_rfl
theorem fa65_2 : fieldB Try.prog 65 2 2 = true := by kernel_rfl
theorem fa86_0 : fieldB Try.prog 86 0 0 = true := by kernel_rfl
theorem fa86_1 : fieldB Try.prog 86 1 2 = true := by kernel_rfl
theorem fa86_2 : fieldB Try.prog 86 2 3 = true := by kernel_rfl
theorem fa88_0 : fieldB Try.prog 88 0 0 = true := by kernel_rfl
theorem fa88_1 : fieldB Try.prog 88 1 4 = true := by kernel_rfl
theorem fo31 : floatB Try.prog 31 .f64 = true := by kernel_rfl
theorem in23 : intB Try.prog 23 .u32 = true := by kernel_rfl
theorem in3 : intB Try.prog 3 .i64 = true := by kernel_rfl
theorem in60 : intB Try.prog 60 .u64 = true := by kernel_rfl
theorem mix : Try.prog.follows .mixedOrders = true := by kernel_rfl
theorem pt24 : ptrB Try.prog 24 = true := by kernel_rfl
theorem pt83 : ptrB Try.prog 83 = true := by kernel_rfl
theorem sc23 : scalarB Try.prog 23 = true := by kernel_rfl
theorem sc3 : scalarB Try.prog 3 = true := by kernel_rfl
theorem sc31 : scalarB Try.prog 31 = true := by kernel_rfl
theorem sc39 : scalarB Try.prog 39 = true := by kernel_rfl
theorem sc4 : scalarB Try.prog 4 = true := by kernel_rfl
theorem sc61 : scalarB Try.prog 61 = true := by kernel_rfl
theorem sc63 : scalarB Try.prog 63 = true := by kernel_rfl
theorem sc83 : scalarB Try.prog 83 = true := by kernel_rfl
theorem sf30 : (Try.prog.fieldsOf 30).toList = [{ name := "Addr", type := 23, offset := 0, embedded := false, tag := "", pkgPath := "", byteOffset := 0 }, { name := "Len", type := 3, offset := 1, embedded := false, tag := "", pkgPath := "", byteOffset := 8 }] := by kernel_rfl
theorem sg30 : Try.prog.eqGuardType Try.prog.depth 30 = false := by kernel_rfl
theorem si30 : Try.prog.stoodInHeld 30 = false := by kernel_rfl
theorem sl22 : sliceB Try.prog 22 36 9 = true := by kernel_rfl
theorem sl39 : sliceB Try.prog 39 33 6 = true := by kernel_rfl
theorem sl59 : sliceB Try.prog 59 31 1 = true := by kernel_rfl
theorem sl74 : sliceB Try.prog 74 30 2 = true := by kernel_rfl
theorem sl93 : sliceB Try.prog 93 83 1 = true := by kernel_rfl
theorem sl99 : sliceB Try.prog 99 4 1 = true := by kernel_rfl
theorem su30 : Try.prog.underlying 30 = some (.struct (Try.prog.fieldsOf 30)) := by kernel_rfl
theorem sz23 : sizeB Try.prog 23 1 = true := by kernel_rfl
theorem sz3 : sizeB Try.prog 3 1 = true := by kernel_rfl
theorem sz30 : sizeB Try.prog 30 2 = true := by kernel_rfl
theorem sz31 : sizeB Try.prog 31 1 = true := by kernel_rfl
theorem sz33 : sizeB Try.prog 33 6 = true := by kernel_rfl
theorem sz36 : sizeB Try.prog 36 9 = true := by kernel_rfl
theorem sz39 : sizeB Try.prog 39 1 = true := by kernel_rfl
theorem sz4 : sizeB Try.prog 4 1 = true := by kernel_rfl
theorem sz83 : sizeB Try.prog 83 1 = true := by kernel_rfl
theorem un23 : Try.prog.underlying 23 = some (.int .u32) := by kernel_rfl
theorem un3 : Try.prog.underlying 3 = some (.int .i64) := by kernel_rfl
theorem ze30 : (Try.prog.info? 30).map (·.zero) = some (some (Value.agg #[(Value.int .u32 (0 : Int)), (Value.int .i64 (0 : Int))])) := by kernel_rfl
theorem ze33 : (Try.prog.info? 33).map (·.zero) = some (some (Value.agg #[(Value.int .u32 (0 : Int)), (Value.int .i64 (0 : Int)), (Value.bool false), (Value.int .i64 (0 : Int)), (Value.int .u32 (0 : Int)), (Value.float .f64 (0 : Nat))])) := by kernel_rfl
theorem eq30 (x0 y0 : Int) (x1 y1 : Int) (w : World) : (Op.equalIn 10000 30 (.agg #[(Value.int .u32 x0), (Value.int .i64 x1)]) (.agg #[(Value.int .u32 y0), (Value.int .i64 y1)])).run Try.prog w = .ok ((x0 == y0) && (x1 == y1)) w := by
  rw [run_equalIn_agg w 9999 30 _ _ su30 si30]
  simp only [sf30]
  have e0 := run_equalIn_int w 9998 23 .u32 .u32 x0 y0 un23
  have e1 := run_equalIn_int w 9998 3 .i64 .i64 x1 y1 un3
  simp only [Nat.reduceAdd] at e0 e1
  simp [Op.eqFields, part, scalarB_run sc23, scalarB_run sc3, e0, e1]
  by_cases h0 : x0 = y0 <;> by_cases h1 : x1 = y1 <;> simp [h0, h1]
theorem xt38 (n : Nat) (w : World) : (callFunc 38 #[(.float .f64 n)]).run Try.prog w = .ok (.value (.int .u64 (n : Int))) w := by
  rw [run_callFunc_extern Try.func38 (by kernel_rfl) (by kernel_rfl) (by kernel_rfl) (show Extern.find _ = some Extern.MathFloatBits.float64bits by kernel_rfl)]; rfl
theorem xt46 (n : Int) (w : World) : (callFunc 46 #[(.int .u64 n)]).run Try.prog w = .ok (.value (.float .f64 n.toNat)) w := by
  rw [run_callFunc_extern Try.func46 (by kernel_rfl) (by kernel_rfl) (by kernel_rfl) (show Extern.find _ = some Extern.MathFloatBits.float64frombits by kernel_rfl)]; rfl
/-- What comes back from signpost.signpostlaw15.IgpMatch. -/
def R3 (K : Bool → World → Prop) : Ending → World → Prop := fun e w => ∃ (x0 : Bool), e = .returned (Value.bool x0) ∧ K x0 w
/-- What comes back from signpost.signpostlaw15.IgpPlays. -/
def R4 (K : Bool → World → Prop) : Ending → World → Prop := fun e w => ∃ (x0 : Bool), e = .returned (Value.bool x0) ∧ K x0 w
/-- What comes back from signpost.signpostlaw15.IgpTurns. -/
def R5 (K : Bool → World → Prop) : Ending → World → Prop := fun e w => ∃ (x0 : Bool), e = .returned (Value.bool x0) ∧ K x0 w
/-- What comes back from signpost.signpostlaw15.IgpNumbers. -/
def R6 (K : Bool → World → Prop) : Ending → World → Prop := fun e w => ∃ (x0 : Bool), e = .returned (Value.bool x0) ∧ K x0 w
/-- What comes back from signpost.igp.New. -/
def R7 (K : Option Addr → World → Prop) : Ending → World → Prop := fun e w => ∃ (x0 : Option Addr), e = .returned (Value.pointer x0) ∧ K x0 w
/-- What comes back from (*signpost.igp.Table).Put. -/
def R8 (K : Bool → Int → World → Prop) : Ending → World → Prop := fun e w => ∃ (x0 : Bool) (x1 : Int), e = .returned (Value.tuple #[(Value.bool x0), (Value.int .i64 x1)]) ∧ K x0 x1 w
/-- What comes back from signpost.signpostkeep.Way. -/
def R9 (K : Int → Int → Bool → Int → Int → Nat → World → Prop) : Ending → World → Prop := fun e w => ∃ (x0 : Int) (x1 : Int) (x2 : Bool) (x3 : Int) (x4 : Int) (x5 : Nat), e = .returned (Value.agg #[(Value.int .u32 x0), (Value.int .i64 x1), (Value.bool x2), (Value.int .i64 x3), (Value.int .u32 x4), (Value.float .f64 x5)]) ∧ K x0 x1 x2 x3 x4 x5 w
/-- What comes back from (*signpost.igp.Table).Match. -/
def R10 (K : Int → Int → Bool → Int → Int → Nat → Bool → World → Prop) : Ending → World → Prop := fun e w => ∃ (x0 : Int) (x1 : Int) (x2 : Bool) (x3 : Int) (x4 : Int) (x5 : Nat) (x6 : Bool), e = .returned (Value.tuple #[(Value.agg #[(Value.int .u32 x0), (Value.int .i64 x1), (Value.bool x2), (Value.int .i64 x3), (Value.int .u32 x4), (Value.float .f64 x5)]), (Value.bool x6)]) ∧ K x0 x1 x2 x3 x4 x5 x6 w
/-- What comes back from (*signpost.igp.Table).All. -/
def R11 (K : SV → World → Prop) : Ending → World → Prop := fun e w => ∃ (x0 : SV), e = .returned (SV.v x0) ∧ K x0 w
/-- What comes back from signpost.signpostref1.Less. -/
def R12 (K : Bool → World → Prop) : Ending → World → Prop := fun e w => ∃ (x0 : Bool), e = .returned (Value.bool x0) ∧ K x0 w
/-- What comes back from signpost.signpostref1.Has. -/
def R13 (K : Bool → World → Prop) : Ending → World → Prop := fun e w => ∃ (x0 : Bool), e = .returned (Value.bool x0) ∧ K x0 w
/-- What comes back from math.IsInf. -/
def R14 (K : Bool → World → Prop) : Ending → World → Prop := fun e w => ∃ (x0 : Bool), e = .returned (Value.bool x0) ∧ K x0 w
/-- What comes back from signpost.signpostlaw15.bits. -/
def R15 (K : Bool → World → Prop) : Ending → World → Prop := fun e w => ∃ (x0 : Bool), e = .returned (Value.bool x0) ∧ K x0 w
/-- What comes back from signpost.signpostlaw15.known. -/
def R16 (K : Bool → World → Prop) : Ending → World → Prop := fun e w => ∃ (x0 : Bool), e = .returned (Value.bool x0) ∧ K x0 w
/-- What comes back from signpost.signpostlaw15.do. -/
def R17 (K : Bool → World → Prop) : Ending → World → Prop := fun e w => ∃ (x0 : Bool), e = .returned (Value.bool x0) ∧ K x0 w
/-- What comes back from signpost.signpostlaw15.alike. -/
def R18 (K : Bool → World → Prop) : Ending → World → Prop := fun e w => ∃ (x0 : Bool), e = .returned (Value.bool x0) ∧ K x0 w
/-- What comes back from math.Inf. -/
def R19 (K : Nat → World → Prop) : Ending → World → Prop := fun e w => ∃ (x0 : Nat), e = .returned (Value.float .f64 x0) ∧ K x0 w
/-- What comes back from (*signpost.igp.Table).Cut. -/
def R20 (K : Bool → World → Prop) : Ending → World → Prop := fun e w => ∃ (x0 : Bool), e = .returned (Value.bool x0) ∧ K x0 w
/-- What comes back from (*signpost.igp.Table).Get. -/
def R21 (K : Int → Int → Bool → Int → Int → Nat → Bool → World → Prop) : Ending → World → Prop := fun e w => ∃ (x0 : Int) (x1 : Int) (x2 : Bool) (x3 : Int) (x4 : Int) (x5 : Nat) (x6 : Bool), e = .returned (Value.tuple #[(Value.agg #[(Value.int .u32 x0), (Value.int .i64 x1), (Value.bool x2), (Value.int .i64 x3), (Value.int .u32 x4), (Value.float .f64 x5)]), (Value.bool x6)]) ∧ K x0 x1 x2 x3 x4 x5 x6 w
/-- What comes back from math.Copysign. -/
def R22 (K : Nat → World → Prop) : Ending → World → Prop := fun e w => ∃ (x0 : Nat), e = .returned (Value.float .f64 x0) ∧ K x0 w
/-- What comes back from math.NaN. -/
def R23 (K : Nat → World → Prop) : Ending → World → Prop := fun e w => ∃ (x0 : Nat), e = .returned (Value.float .f64 x0) ∧ K x0 w
/-- What comes back from signpost.trie.New. -/
def R24 (K : Option Addr → World → Prop) : Ending → World → Prop := fun e w => ∃ (x0 : Option Addr), e = .returned (Value.pointer x0) ∧ K x0 w
/-- What comes back from signpost.igp.Right. -/
def R25 (K : Bool → World → Prop) : Ending → World → Prop := fun e w => ∃ (x0 : Bool), e = .returned (Value.bool x0) ∧ K x0 w
/-- What comes back from signpost.metric.Clean. -/
def R26 (K : Nat → World → Prop) : Ending → World → Prop := fun e w => ∃ (x0 : Nat), e = .returned (Value.float .f64 x0) ∧ K x0 w
/-- What comes back from (*signpost.trie.Trie).Put. -/
def R27 (K : Bool → World → Prop) : Ending → World → Prop := fun e w => ∃ (x0 : Bool), e = .returned (Value.bool x0) ∧ K x0 w
/-- What comes back from (*signpost.trie.Trie).Cut. -/
def R28 (K : Bool → World → Prop) : Ending → World → Prop := fun e w => ∃ (x0 : Bool), e = .returned (Value.bool x0) ∧ K x0 w
/-- What comes back from signpost.igp.Same. -/
def R29 (K : Bool → World → Prop) : Ending → World → Prop := fun e w => ∃ (x0 : Bool), e = .returned (Value.bool x0) ∧ K x0 w
/-- What comes back from signpost.signpostref1.Of. -/
def R30 (K : Int → Int → World → Prop) : Ending → World → Prop := fun e w => ∃ (x0 : Int) (x1 : Int), e = .returned (Value.agg #[(Value.int .u32 x0), (Value.int .i64 x1)]) ∧ K x0 x1 w
/-- What comes back from signpost.signpostbook.Within. -/
def R31 (K : Int → World → Prop) : Ending → World → Prop := fun e w => ∃ (x0 : Int), e = .returned (Value.int .i64 x0) ∧ K x0 w
/-- What comes back from signpost.signpostkeep.Next. -/
def R32 (K : Int → World → Prop) : Ending → World → Prop := fun e w => ∃ (x0 : Int), e = .returned (Value.int .u32 x0) ∧ K x0 w
/-- What comes back from (*signpost.trie.Trie).Match. -/
def R33 (K : Int → Int → Int → Bool → World → Prop) : Ending → World → Prop := fun e w => ∃ (x0 : Int) (x1 : Int) (x2 : Int) (x3 : Bool), e = .returned (Value.tuple #[(Value.agg #[(Value.int .u32 x0), (Value.int .i64 x1)]), (Value.int .i64 x2), (Value.bool x3)]) ∧ K x0 x1 x2 x3 w
/-- What comes back from (*signpost.trie.Trie).All. -/
def R34 (K : SV → World → Prop) : Ending → World → Prop := fun e w => ∃ (x0 : SV), e = .returned (SV.v x0) ∧ K x0 w
/-- What comes back from signpost.signpostref1.Right. -/
def R35 (K : Bool → World → Prop) : Ending → World → Prop := fun e w => ∃ (x0 : Bool), e = .returned (Value.bool x0) ∧ K x0 w
/-- What comes back from signpost.signpostref1.Mask. -/
def R36 (K : Int → World → Prop) : Ending → World → Prop := fun e w => ∃ (x0 : Int), e = .returned (Value.int .u32 x0) ∧ K x0 w
/-- What comes back from math.Abs. -/
def R37 (K : Nat → World → Prop) : Ending → World → Prop := fun e w => ∃ (x0 : Nat), e = .returned (Value.float .f64 x0) ∧ K x0 w
/-- What comes back from signpost.signpostlaw15.way. -/
def R39 (K : Int → Int → Bool → Int → Int → Nat → World → Prop) : Ending → World → Prop := fun e w => ∃ (x0 : Int) (x1 : Int) (x2 : Bool) (x3 : Int) (x4 : Int) (x5 : Nat), e = .returned (Value.agg #[(Value.int .u32 x0), (Value.int .i64 x1), (Value.bool x2), (Value.int .i64 x3), (Value.int .u32 x4), (Value.float .f64 x5)]) ∧ K x0 x1 x2 x3 x4 x5 w
/-- What comes back from (*signpost.signpostref15.Table).Put. -/
def R40 (K : Bool → Int → World → Prop) : Ending → World → Prop := fun e w => ∃ (x0 : Bool) (x1 : Int), e = .returned (Value.tuple #[(Value.bool x0), (Value.int .i64 x1)]) ∧ K x0 x1 w
/-- What comes back from signpost.signpostref15.Right. -/
def R41 (K : Bool → World → Prop) : Ending → World → Prop := fun e w => ∃ (x0 : Bool), e = .returned (Value.bool x0) ∧ K x0 w
/-- What comes back from (*signpost.signpostref15.Table).Cut. -/
def R42 (K : Bool → World → Prop) : Ending → World → Prop := fun e w => ∃ (x0 : Bool), e = .returned (Value.bool x0) ∧ K x0 w
/-- What comes back from (*signpost.signpostref15.Table).Match. -/
def R43 (K : Int → Int → Bool → Int → Int → Nat → Bool → World → Prop) : Ending → World → Prop := fun e w => ∃ (x0 : Int) (x1 : Int) (x2 : Bool) (x3 : Int) (x4 : Int) (x5 : Nat) (x6 : Bool), e = .returned (Value.tuple #[(Value.agg #[(Value.int .u32 x0), (Value.int .i64 x1), (Value.bool x2), (Value.int .i64 x3), (Value.int .u32 x4), (Value.float .f64 x5)]), (Value.bool x6)]) ∧ K x0 x1 x2 x3 x4 x5 x6 w
/-- What comes back from (*signpost.signpostref15.Table).Get. -/
def R44 (K : Int → Int → Bool → Int → Int → Nat → Bool → World → Prop) : Ending → World → Prop := fun e w => ∃ (x0 : Int) (x1 : Int) (x2 : Bool) (x3 : Int) (x4 : Int) (x5 : Nat) (x6 : Bool), e = .returned (Value.tuple #[(Value.agg #[(Value.int .u32 x0), (Value.int .i64 x1), (Value.bool x2), (Value.int .i64 x3), (Value.int .u32 x4), (Value.float .f64 x5)]), (Value.bool x6)]) ∧ K x0 x1 x2 x3 x4 x5 x6 w
/-- What comes back from signpost.signpostref15.Same. -/
def R45 (K : Bool → World → Prop) : Ending → World → Prop := fun e w => ∃ (x0 : Bool), e = .returned (Value.bool x0) ∧ K x0 w
/-- What comes back from signpost.addr.Right. -/
def R47 (K : Bool → World → Prop) : Ending → World → Prop := fun e w => ∃ (x0 : Bool), e = .returned (Value.bool x0) ∧ K x0 w
/-- What comes back from signpost.metric.Right. -/
def R48 (K : Bool → World → Prop) : Ending → World → Prop := fun e w => ∃ (x0 : Bool), e = .returned (Value.bool x0) ∧ K x0 w
/-- What comes back from signpost.trie.bit. -/
def R49 (K : Int → World → Prop) : Ending → World → Prop := fun e w => ∃ (x0 : Int), e = .returned (Value.int .i64 x0) ∧ K x0 w
/-- What comes back from (*signpost.trie.Trie).Get. -/
def R50 (K : Int → Bool → World → Prop) : Ending → World → Prop := fun e w => ∃ (x0 : Int) (x1 : Bool), e = .returned (Value.tuple #[(Value.int .i64 x0), (Value.bool x1)]) ∧ K x0 x1 w
/-- What comes back from (*signpost.trie.node).empty. -/
def R51 (K : Bool → World → Prop) : Ending → World → Prop := fun e w => ∃ (x0 : Bool), e = .returned (Value.bool x0) ∧ K x0 w
/-- What comes back from signpost.metric.Same. -/
def R52 (K : Bool → World → Prop) : Ending → World → Prop := fun e w => ∃ (x0 : Bool), e = .returned (Value.bool x0) ∧ K x0 w
/-- What comes back from (*signpost.trie.Trie).down. -/
def R53 (K : SV → World → Prop) : Ending → World → Prop := fun e w => ∃ (x0 : SV), e = .returned (SV.v x0) ∧ K x0 w
/-- What comes back from (*signpost.trie.Trie).Below. -/
def R54 (K : SV → World → Prop) : Ending → World → Prop := fun e w => ∃ (x0 : SV), e = .returned (SV.v x0) ∧ K x0 w
/-- What comes back from signpost.signpostref2.Clean. -/
def R55 (K : Nat → World → Prop) : Ending → World → Prop := fun e w => ∃ (x0 : Nat), e = .returned (Value.float .f64 x0) ∧ K x0 w
/-- What comes back from signpost.signpostref2.Right. -/
def R56 (K : Bool → World → Prop) : Ending → World → Prop := fun e w => ∃ (x0 : Bool), e = .returned (Value.bool x0) ∧ K x0 w
/-- What comes back from signpost.signpostref2.Less. -/
def R57 (K : Bool → World → Prop) : Ending → World → Prop := fun e w => ∃ (x0 : Bool), e = .returned (Value.bool x0) ∧ K x0 w
/-- What comes back from signpost.signpostref2.Same. -/
def R58 (K : Bool → World → Prop) : Ending → World → Prop := fun e w => ∃ (x0 : Bool), e = .returned (Value.bool x0) ∧ K x0 w
/-- What comes back from signpost.addr.Mask. -/
def R59 (K : Int → World → Prop) : Ending → World → Prop := fun e w => ∃ (x0 : Int), e = .returned (Value.int .u32 x0) ∧ K x0 w
/-- What comes back from (*signpost.trie.Trie).find. -/
def R60 (K : Option Addr → World → Prop) : Ending → World → Prop := fun e w => ∃ (x0 : Option Addr), e = .returned (Value.pointer x0) ∧ K x0 w
/-- What comes back from signpost.addr.Of. -/
def R61 (K : Int → Int → World → Prop) : Ending → World → Prop := fun e w => ∃ (x0 : Int) (x1 : Int), e = .returned (Value.agg #[(Value.int .u32 x0), (Value.int .i64 x1)]) ∧ K x0 x1 w
/-- What comes back from (*signpost.trie.node).below. -/
def R62 (K : SV → World → Prop) : Ending → World → Prop := fun e w => ∃ (x0 : SV), e = .returned (SV.v x0) ∧ K x0 w
/-- What comes back from signpost.addr.Half. -/
def R63 (K : Int → Int → Bool → World → Prop) : Ending → World → Prop := fun e w => ∃ (x0 : Int) (x1 : Int) (x2 : Bool), e = .returned (Value.tuple #[(Value.agg #[(Value.int .u32 x0), (Value.int .i64 x1)]), (Value.bool x2)]) ∧ K x0 x1 x2 w
end Go.Proofs.Ytnkpjlojijppiaa
