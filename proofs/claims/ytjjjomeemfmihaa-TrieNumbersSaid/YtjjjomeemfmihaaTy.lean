/-
  The closed facts on types and functions that the printed proofs use, and what comes back from each function.
-/
import Derived.Test.YtjjjomeemfmihaaProg
import Derived.Test.YtjjjomeemfmihaaSpMem
import Derived.KernelRfl
namespace Go.Proofs.Ytjjjomeemfmihaa
set_option linter.unusedVariables false
set_option linter.unusedSimpArgs false
open Go.Sp
theorem ag27 : aggB Try.prog 27 = true := by kernel_rfl
theorem ag30 : aggB Try.prog 30 = true := by kernel_rfl
theorem ar61 : arrB Try.prog 61 2 60 1 = true := by kernel_rfl
theorem bd10 : bodyB Try.prog 10 = true := by kernel_rfl
theorem bd11 : bodyB Try.prog 11 = true := by kernel_rfl
theorem bd12 : bodyB Try.prog 12 = true := by kernel_rfl
theorem bd13 : bodyB Try.prog 13 = true := by kernel_rfl
theorem bd14 : bodyB Try.prog 14 = true := by kernel_rfl
theorem bd15 : bodyB Try.prog 15 = true := by kernel_rfl
theorem bd16 : bodyB Try.prog 16 = true := by kernel_rfl
theorem bd17 : bodyB Try.prog 17 = true := by kernel_rfl
theorem bd18 : bodyB Try.prog 18 = true := by kernel_rfl
theorem bd19 : bodyB Try.prog 19 = true := by kernel_rfl
theorem bd20 : bodyB Try.prog 20 = true := by kernel_rfl
theorem bd21 : bodyB Try.prog 21 = true := by kernel_rfl
theorem bd22 : bodyB Try.prog 22 = true := by kernel_rfl
theorem bd23 : bodyB Try.prog 23 = true := by kernel_rfl
theorem bd24 : bodyB Try.prog 24 = true := by kernel_rfl
theorem bd25 : bodyB Try.prog 25 = true := by kernel_rfl
theorem bd26 : bodyB Try.prog 26 = true := by kernel_rfl
theorem bd27 : bodyB Try.prog 27 = true := by kernel_rfl
theorem bd28 : bodyB Try.prog 28 = true := by kernel_rfl
theorem bd29 : bodyB Try.prog 29 = true := by kernel_rfl
theorem bd30 : bodyB Try.prog 30 = true := by kernel_rfl
theorem bd31 : bodyB Try.prog 31 = true := by kernel_rfl
theorem bd32 : bodyB Try.prog 32 = true := by kernel_rfl
theorem bd33 : bodyB Try.prog 33 = true := by kernel_rfl
theorem bd34 : bodyB Try.prog 34 = true := by kernel_rfl
theorem bd35 : bodyB Try.prog 35 = true := by kernel_rfl
theorem bd36 : bodyB Try.prog 36 = true := by kernel_rfl
theorem bd37 : bodyB Try.prog 37 = true := by kernel_rfl
theorem bd38 : bodyB Try.prog 38 = true := by kernel_rfl
theorem bd39 : bodyB Try.prog 39 = true := by kernel_rfl
theorem bd40 : bodyB Try.prog 40 = true := by kernel_rfl
theorem bd41 : bodyB Try.prog 41 = true := by kernel_rfl
theorem bd42 : bodyB Try.prog 42 = true := by kernel_rfl
theorem bd43 : bodyB Try.prog 43 = true := by kernel_rfl
theorem bd44 : bodyB Try.prog 44 = true := by kernel_rfl
theorem bd45 : bodyB Try.prog 45 = true := by kernel_rfl
theorem bd46 : bodyB Try.prog 46 = true := by kernel_rfl
theorem bd47 : bodyB Try.prog 47 = true := by kernel_rfl
theorem bd48 : bodyB Try.prog 48 = true := by kernel_rfl
theorem bo4 : boolB Try.prog 4 = true := by kernel_rfl
theorem bs33_0  (w : World) : (Instr.buildSlice 33 0 #[]).run Try.prog w = .ok (.slice (some ⟨w.heap.size, 0, none⟩) 0 0) (w.alloc (.cells #[] 27)) := by simp [go_sem]
theorem bs33_1 (x0 : Int) (x1 : Int) (w : World) : (Instr.buildSlice 33 1 #[(0, (Value.agg #[(Value.int .u32 x0), (Value.int .i64 x1)]))]).run Try.prog w = .ok (.slice (some ⟨w.heap.size, 0, none⟩) 1 1) (w.alloc (.cells #[(Value.int .u32 x0), (Value.int .i64 x1)] 27)) := by simp [go_sem]
theorem bs53_0  (w : World) : (Instr.buildSlice 53 0 #[]).run Try.prog w = .ok (.slice (some ⟨w.heap.size, 0, none⟩) 0 0) (w.alloc (.cells #[] 3)) := by simp [go_sem]
theorem bs53_1 (x0 : Int) (w : World) : (Instr.buildSlice 53 1 #[(0, (Value.int .i64 x0))]).run Try.prog w = .ok (.slice (some ⟨w.heap.size, 0, none⟩) 1 1) (w.alloc (.cells #[(Value.int .i64 x0)] 3)) := by simp [go_sem]
theorem bs53_8 (x0 : Int) (x1 : Int) (x2 : Int) (x3 : Int) (x4 : Int) (x5 : Int) (x6 : Int) (x7 : Int) (w : World) : (Instr.buildSlice 53 8 #[(0, (Value.int .i64 x0)), (1, (Value.int .i64 x1)), (2, (Value.int .i64 x2)), (3, (Value.int .i64 x3)), (4, (Value.int .i64 x4)), (5, (Value.int .i64 x5)), (6, (Value.int .i64 x6)), (7, (Value.int .i64 x7))]).run Try.prog w = .ok (.slice (some ⟨w.heap.size, 0, none⟩) 8 8) (w.alloc (.cells #[(Value.int .i64 x0), (Value.int .i64 x1), (Value.int .i64 x2), (Value.int .i64 x3), (Value.int .i64 x4), (Value.int .i64 x5), (Value.int .i64 x6), (Value.int .i64 x7)] 3)) := by simp [go_sem]
theorem bs56_4 (x0 : Int) (x1 : Int) (x2 : Int) (x3 : Int) (w : World) : (Instr.buildSlice 56 4 #[(0, (Value.int .u32 x0)), (1, (Value.int .u32 x1)), (2, (Value.int .u32 x2)), (3, (Value.int .u32 x3))]).run Try.prog w = .ok (.slice (some ⟨w.heap.size, 0, none⟩) 4 4) (w.alloc (.cells #[(Value.int .u32 x0), (Value.int .u32 x1), (Value.int .u32 x2), (Value.int .u32 x3)] 25)) := by simp [go_sem]
theorem bs72_1 (x0 : Option Addr) (w : World) : (Instr.buildSlice 72 1 #[(0, (Value.pointer x0))]).run Try.prog w = .ok (.slice (some ⟨w.heap.size, 0, none⟩) 1 1) (w.alloc (.cells #[(Value.pointer x0)] 60)) := by simp [go_sem]
theorem bs74_2 (x0 : Bool) (x1 : Bool) (w : World) : (Instr.buildSlice 74 2 #[(0, (Value.bool x0)), (1, (Value.bool x1))]).run Try.prog w = .ok (.slice (some ⟨w.heap.size, 0, none⟩) 2 2) (w.alloc (.cells #[(Value.bool x0), (Value.bool x1)] 4)) := by simp [go_sem]
theorem bu27_  (w : World) : (Instr.build 27 #[]).run Try.prog w = .ok (.agg #[(Value.int .u32 (0 : Int)), (Value.int .i64 (0 : Int))]) w := by simp [go_sem]
theorem bu27_0_1 (x0 : Int) (x1 : Int) (w : World) : (Instr.build 27 #[(0, (Value.int .u32 x0)), (1, (Value.int .i64 x1))]).run Try.prog w = .ok (.agg #[(Value.int .u32 x0), (Value.int .i64 x1)]) w := by simp [go_sem]
theorem bu30_0_3 (x0 : Int) (x1 : Int) (w : World) : (Instr.build 30 #[(0, (Value.int .i64 x0)), (3, (Value.int .u32 x1))]).run Try.prog w = .ok (.agg #[(Value.int .i64 x0), (Value.int .i64 (0 : Int)), (Value.int .i64 (0 : Int)), (Value.int .u32 x1), (Value.bool false)]) w := by simp [go_sem]
theorem bu30_0_3_1_2 (x0 : Int) (x1 : Int) (x2 : Int) (x3 : Int) (w : World) : (Instr.build 30 #[(0, (Value.int .i64 x0)), (3, (Value.int .u32 x1)), (1, (Value.int .i64 x2)), (2, (Value.int .i64 x3))]).run Try.prog w = .ok (.agg #[(Value.int .i64 x0), (Value.int .i64 x2), (Value.int .i64 x3), (Value.int .u32 x1), (Value.bool false)]) w := by simp [go_sem]
theorem bu55_  (w : World) : (Instr.build 55 #[]).run Try.prog w = .ok (.agg #[(SV.v SV.nil), (SV.v SV.nil)]) w := by simp [go_sem]
theorem bu63_  (w : World) : (Instr.build 63 #[]).run Try.prog w = .ok (.agg #[(Value.pointer (none : Option Addr)), (Value.pointer (none : Option Addr)), (Value.bool false), (Value.int .i64 (0 : Int))]) w := by simp [go_sem]
theorem bu65_  (w : World) : (Instr.build 65 #[]).run Try.prog w = .ok (.agg #[(Value.pointer (none : Option Addr)), (Value.pointer (none : Option Addr)), (Value.bool false), (Value.int .i64 (0 : Int)), (Value.int .i64 (0 : Int))]) w := by simp [go_sem]
theorem fa27_0 : fieldB Try.prog 27 0 0 = true := by kernel_rfl
theorem fa27_1 : fieldB Try.prog 27 1 1 = true := by kernel_rfl
theorem fa30_0 : fieldB Try.prog 30 0 0 = true := by kernel_rfl
theorem fa30_1 : fieldB Try.prog 30 1 1 = true := by kernel_rfl
theorem fa30_2 : fieldB Try.prog 30 2 2 = true := by kernel_rfl
theorem fa30_3 : fieldB Try.prog 30 3 3 = true := by kernel_rfl
theorem fa30_4 : fieldB Try.prog 30 4 4 = true := by kernel_rfl
theorem fa55_0 : fieldB Try.prog 55 0 0 = true := by kernel_rfl
theorem fa55_1 : fieldB Try.prog 55 1 1 = true := by kernel_rfl
theorem fa63_0 : fieldB Try.prog 63 0 0 = true := by kernel_rfl
theorem fa63_1 : fieldB Try.prog 63 1 2 = true := by kernel_rfl
theorem fa63_2 : fieldB Try.prog 63 2 3 = true := by kernel_rfl
theorem fa65_0 : fieldB Try.prog 65 0 0 = true := by kernel_rfl
theorem fa65_1 : fieldB Try.prog 65 1 4 = true := by kernel_rfl
theorem in25 : intB Try.prog 25 .u32 = true := by kernel_rfl
theorem in3 : intB Try.prog 3 .i64 = true := by kernel_rfl
theorem in66 : intB Try.prog 66 .u64 = true := by kernel_rfl
theorem mix : Try.prog.follows .mixedOrders = true := by kernel_rfl
theorem pt23 : ptrB Try.prog 23 = true := by kernel_rfl
theorem pt60 : ptrB Try.prog 60 = true := by kernel_rfl
theorem sc25 : scalarB Try.prog 25 = true := by kernel_rfl
theorem sc3 : scalarB Try.prog 3 = true := by kernel_rfl
theorem sc33 : scalarB Try.prog 33 = true := by kernel_rfl
theorem sc4 : scalarB Try.prog 4 = true := by kernel_rfl
theorem sc53 : scalarB Try.prog 53 = true := by kernel_rfl
theorem sc60 : scalarB Try.prog 60 = true := by kernel_rfl
theorem sf27 : (Try.prog.fieldsOf 27).toList = [{ name := "Addr", type := 25, offset := 0, embedded := false, tag := "", pkgPath := "", byteOffset := 0 }, { name := "Len", type := 3, offset := 1, embedded := false, tag := "", pkgPath := "", byteOffset := 8 }] := by kernel_rfl
theorem sg27 : Try.prog.eqGuardType Try.prog.depth 27 = false := by kernel_rfl
theorem si27 : Try.prog.stoodInHeld 27 = false := by kernel_rfl
theorem sl22 : sliceB Try.prog 22 30 5 = true := by kernel_rfl
theorem sl33 : sliceB Try.prog 33 27 2 = true := by kernel_rfl
theorem sl53 : sliceB Try.prog 53 3 1 = true := by kernel_rfl
theorem sl56 : sliceB Try.prog 56 25 1 = true := by kernel_rfl
theorem sl72 : sliceB Try.prog 72 60 1 = true := by kernel_rfl
theorem sl74 : sliceB Try.prog 74 4 1 = true := by kernel_rfl
theorem su27 : Try.prog.underlying 27 = some (.struct (Try.prog.fieldsOf 27)) := by kernel_rfl
theorem sz25 : sizeB Try.prog 25 1 = true := by kernel_rfl
theorem sz27 : sizeB Try.prog 27 2 = true := by kernel_rfl
theorem sz3 : sizeB Try.prog 3 1 = true := by kernel_rfl
theorem sz30 : sizeB Try.prog 30 5 = true := by kernel_rfl
theorem sz33 : sizeB Try.prog 33 1 = true := by kernel_rfl
theorem sz4 : sizeB Try.prog 4 1 = true := by kernel_rfl
theorem sz53 : sizeB Try.prog 53 1 = true := by kernel_rfl
theorem sz60 : sizeB Try.prog 60 1 = true := by kernel_rfl
theorem un25 : Try.prog.underlying 25 = some (.int .u32) := by kernel_rfl
theorem un3 : Try.prog.underlying 3 = some (.int .i64) := by kernel_rfl
theorem ze27 : (Try.prog.info? 27).map (·.zero) = some (some (Value.agg #[(Value.int .u32 (0 : Int)), (Value.int .i64 (0 : Int))])) := by kernel_rfl
theorem ze30 : (Try.prog.info? 30).map (·.zero) = some (some (Value.agg #[(Value.int .i64 (0 : Int)), (Value.int .i64 (0 : Int)), (Value.int .i64 (0 : Int)), (Value.int .u32 (0 : Int)), (Value.bool false)])) := by kernel_rfl
theorem eq27 (x0 y0 : Int) (x1 y1 : Int) (w : World) : (Op.equalIn 10000 27 (.agg #[(Value.int .u32 x0), (Value.int .i64 x1)]) (.agg #[(Value.int .u32 y0), (Value.int .i64 y1)])).run Try.prog w = .ok ((x0 == y0) && (x1 == y1)) w := by
  rw [run_equalIn_agg w 9999 27 _ _ su27 si27]
  simp only [sf27]
  have e0 := run_equalIn_int w 9998 25 .u32 .u32 x0 y0 un25
  have e1 := run_equalIn_int w 9998 3 .i64 .i64 x1 y1 un3
  simp only [Nat.reduceAdd] at e0 e1
  simp [Op.eqFields, part, scalarB_run sc25, scalarB_run sc3, e0, e1]
  by_cases h0 : x0 = y0 <;> by_cases h1 : x1 = y1 <;> simp [h0, h1]
/-- What comes back from signpost.signpostlaw3.TrieOrder. -/
def R3 (K : Bool → World → Prop) : Ending → World → Prop := fun e w => ∃ (x0 : Bool), e = .returned (Value.bool x0) ∧ K x0 w
/-- What comes back from signpost.signpostlaw3.TrieMatch. -/
def R4 (K : Bool → World → Prop) : Ending → World → Prop := fun e w => ∃ (x0 : Bool), e = .returned (Value.bool x0) ∧ K x0 w
/-- What comes back from signpost.signpostlaw3.TrieParts. -/
def R5 (K : Bool → World → Prop) : Ending → World → Prop := fun e w => ∃ (x0 : Bool), e = .returned (Value.bool x0) ∧ K x0 w
/-- What comes back from signpost.signpostlaw3.TrieBack. -/
def R6 (K : Bool → World → Prop) : Ending → World → Prop := fun e w => ∃ (x0 : Bool), e = .returned (Value.bool x0) ∧ K x0 w
/-- What comes back from signpost.signpostlaw3.TrieNumbers. -/
def R7 (K : Bool → World → Prop) : Ending → World → Prop := fun e w => ∃ (x0 : Bool), e = .returned (Value.bool x0) ∧ K x0 w
/-- What comes back from signpost.signpostlaw3.TriePlays. -/
def R8 (K : Bool → World → Prop) : Ending → World → Prop := fun e w => ∃ (x0 : Bool), e = .returned (Value.bool x0) ∧ K x0 w
/-- What comes back from signpost.signpostlaw3.TrieSmall. -/
def R9 (K : Bool → World → Prop) : Ending → World → Prop := fun e w => ∃ (x0 : Bool), e = .returned (Value.bool x0) ∧ K x0 w
/-- What comes back from signpost.trie.New. -/
def R10 (K : Option Addr → World → Prop) : Ending → World → Prop := fun e w => ∃ (x0 : Option Addr), e = .returned (Value.pointer x0) ∧ K x0 w
/-- What comes back from signpost.signpostkeep.Prefix. -/
def R11 (K : Int → Int → World → Prop) : Ending → World → Prop := fun e w => ∃ (x0 : Int) (x1 : Int), e = .returned (Value.agg #[(Value.int .u32 x0), (Value.int .i64 x1)]) ∧ K x0 x1 w
/-- What comes back from (*signpost.trie.Trie).Put. -/
def R12 (K : Bool → World → Prop) : Ending → World → Prop := fun e w => ∃ (x0 : Bool), e = .returned (Value.bool x0) ∧ K x0 w
/-- What comes back from signpost.signpostbook.Within. -/
def R13 (K : Int → World → Prop) : Ending → World → Prop := fun e w => ∃ (x0 : Int), e = .returned (Value.int .i64 x0) ∧ K x0 w
/-- What comes back from (*signpost.trie.Trie).All. -/
def R14 (K : SV → World → Prop) : Ending → World → Prop := fun e w => ∃ (x0 : SV), e = .returned (SV.v x0) ∧ K x0 w
/-- What comes back from (*signpost.trie.Trie).Get. -/
def R15 (K : Int → Bool → World → Prop) : Ending → World → Prop := fun e w => ∃ (x0 : Int) (x1 : Bool), e = .returned (Value.tuple #[(Value.int .i64 x0), (Value.bool x1)]) ∧ K x0 x1 w
/-- What comes back from signpost.signpostref1.Less. -/
def R16 (K : Bool → World → Prop) : Ending → World → Prop := fun e w => ∃ (x0 : Bool), e = .returned (Value.bool x0) ∧ K x0 w
/-- What comes back from signpost.signpostbook.Same[signpost.api.Prefix]. -/
def R17 (K : Bool → World → Prop) : Ending → World → Prop := fun e w => ∃ (x0 : Bool), e = .returned (Value.bool x0) ∧ K x0 w
/-- What comes back from (*signpost.trie.Trie).Len. -/
def R18 (K : Int → World → Prop) : Ending → World → Prop := fun e w => ∃ (x0 : Int), e = .returned (Value.int .i64 x0) ∧ K x0 w
/-- What comes back from signpost.signpostlaw3.known. -/
def R19 (K : Bool → World → Prop) : Ending → World → Prop := fun e w => ∃ (x0 : Bool), e = .returned (Value.bool x0) ∧ K x0 w
/-- What comes back from (*signpost.trie.Trie).Match. -/
def R20 (K : Int → Int → Int → Bool → World → Prop) : Ending → World → Prop := fun e w => ∃ (x0 : Int) (x1 : Int) (x2 : Int) (x3 : Bool), e = .returned (Value.tuple #[(Value.agg #[(Value.int .u32 x0), (Value.int .i64 x1)]), (Value.int .i64 x2), (Value.bool x3)]) ∧ K x0 x1 x2 x3 w
/-- What comes back from signpost.signpostref1.Has. -/
def R21 (K : Bool → World → Prop) : Ending → World → Prop := fun e w => ∃ (x0 : Bool), e = .returned (Value.bool x0) ∧ K x0 w
/-- What comes back from (*signpost.trie.Trie).Above. -/
def R22 (K : SV → World → Prop) : Ending → World → Prop := fun e w => ∃ (x0 : SV), e = .returned (SV.v x0) ∧ K x0 w
/-- What comes back from signpost.signpostref1.Half. -/
def R23 (K : Int → Int → Bool → World → Prop) : Ending → World → Prop := fun e w => ∃ (x0 : Int) (x1 : Int) (x2 : Bool), e = .returned (Value.tuple #[(Value.agg #[(Value.int .u32 x0), (Value.int .i64 x1)]), (Value.bool x2)]) ∧ K x0 x1 x2 w
/-- What comes back from (*signpost.trie.Trie).Below. -/
def R24 (K : SV → World → Prop) : Ending → World → Prop := fun e w => ∃ (x0 : SV), e = .returned (SV.v x0) ∧ K x0 w
/-- What comes back from (*signpost.trie.Trie).Cut. -/
def R25 (K : Bool → World → Prop) : Ending → World → Prop := fun e w => ∃ (x0 : Bool), e = .returned (Value.bool x0) ∧ K x0 w
/-- What comes back from signpost.signpostlaw3.do. -/
def R26 (K : Bool → World → Prop) : Ending → World → Prop := fun e w => ∃ (x0 : Bool), e = .returned (Value.bool x0) ∧ K x0 w
/-- What comes back from signpost.signpostlaw3.alike. -/
def R27 (K : Bool → World → Prop) : Ending → World → Prop := fun e w => ∃ (x0 : Bool), e = .returned (Value.bool x0) ∧ K x0 w
/-- What comes back from signpost.signpostref1.Of. -/
def R28 (K : Int → Int → World → Prop) : Ending → World → Prop := fun e w => ∃ (x0 : Int) (x1 : Int), e = .returned (Value.agg #[(Value.int .u32 x0), (Value.int .i64 x1)]) ∧ K x0 x1 w
/-- What comes back from signpost.addr.Right. -/
def R29 (K : Bool → World → Prop) : Ending → World → Prop := fun e w => ∃ (x0 : Bool), e = .returned (Value.bool x0) ∧ K x0 w
/-- What comes back from signpost.trie.bit. -/
def R30 (K : Int → World → Prop) : Ending → World → Prop := fun e w => ∃ (x0 : Int), e = .returned (Value.int .i64 x0) ∧ K x0 w
/-- What comes back from (*signpost.trie.Trie).find. -/
def R31 (K : Option Addr → World → Prop) : Ending → World → Prop := fun e w => ∃ (x0 : Option Addr), e = .returned (Value.pointer x0) ∧ K x0 w
/-- What comes back from signpost.signpostref1.Right. -/
def R32 (K : Bool → World → Prop) : Ending → World → Prop := fun e w => ∃ (x0 : Bool), e = .returned (Value.bool x0) ∧ K x0 w
/-- What comes back from (*signpost.trie.Trie).down. -/
def R33 (K : SV → World → Prop) : Ending → World → Prop := fun e w => ∃ (x0 : SV), e = .returned (SV.v x0) ∧ K x0 w
/-- What comes back from signpost.signpostref1.Mask. -/
def R34 (K : Int → World → Prop) : Ending → World → Prop := fun e w => ∃ (x0 : Int), e = .returned (Value.int .u32 x0) ∧ K x0 w
/-- What comes back from (*signpost.trie.node).below. -/
def R35 (K : SV → World → Prop) : Ending → World → Prop := fun e w => ∃ (x0 : SV), e = .returned (SV.v x0) ∧ K x0 w
/-- What comes back from (*signpost.trie.node).empty. -/
def R36 (K : Bool → World → Prop) : Ending → World → Prop := fun e w => ∃ (x0 : Bool), e = .returned (Value.bool x0) ∧ K x0 w
/-- What comes back from signpost.signpostlaw3.prefix. -/
def R37 (K : Int → Int → World → Prop) : Ending → World → Prop := fun e w => ∃ (x0 : Int) (x1 : Int), e = .returned (Value.agg #[(Value.int .u32 x0), (Value.int .i64 x1)]) ∧ K x0 x1 w
/-- What comes back from (*signpost.signpostref3.Trie).Put. -/
def R38 (K : Bool → World → Prop) : Ending → World → Prop := fun e w => ∃ (x0 : Bool), e = .returned (Value.bool x0) ∧ K x0 w
/-- What comes back from (*signpost.signpostref3.Trie).Cut. -/
def R39 (K : Bool → World → Prop) : Ending → World → Prop := fun e w => ∃ (x0 : Bool), e = .returned (Value.bool x0) ∧ K x0 w
/-- What comes back from (*signpost.signpostref3.Trie).Get. -/
def R40 (K : Int → Bool → World → Prop) : Ending → World → Prop := fun e w => ∃ (x0 : Int) (x1 : Bool), e = .returned (Value.tuple #[(Value.int .i64 x0), (Value.bool x1)]) ∧ K x0 x1 w
/-- What comes back from (*signpost.signpostref3.Trie).Match. -/
def R41 (K : Int → Int → Int → Bool → World → Prop) : Ending → World → Prop := fun e w => ∃ (x0 : Int) (x1 : Int) (x2 : Int) (x3 : Bool), e = .returned (Value.tuple #[(Value.agg #[(Value.int .u32 x0), (Value.int .i64 x1)]), (Value.int .i64 x2), (Value.bool x3)]) ∧ K x0 x1 x2 x3 w
/-- What comes back from (*signpost.signpostref3.Trie).Above. -/
def R42 (K : SV → World → Prop) : Ending → World → Prop := fun e w => ∃ (x0 : SV), e = .returned (SV.v x0) ∧ K x0 w
/-- What comes back from (*signpost.signpostref3.Trie).Below. -/
def R43 (K : SV → World → Prop) : Ending → World → Prop := fun e w => ∃ (x0 : SV), e = .returned (SV.v x0) ∧ K x0 w
/-- What comes back from signpost.addr.Mask. -/
def R44 (K : Int → World → Prop) : Ending → World → Prop := fun e w => ∃ (x0 : Int), e = .returned (Value.int .u32 x0) ∧ K x0 w
/-- What comes back from signpost.addr.Of. -/
def R45 (K : Int → Int → World → Prop) : Ending → World → Prop := fun e w => ∃ (x0 : Int) (x1 : Int), e = .returned (Value.agg #[(Value.int .u32 x0), (Value.int .i64 x1)]) ∧ K x0 x1 w
/-- What comes back from signpost.addr.Half. -/
def R46 (K : Int → Int → Bool → World → Prop) : Ending → World → Prop := fun e w => ∃ (x0 : Int) (x1 : Int) (x2 : Bool), e = .returned (Value.tuple #[(Value.agg #[(Value.int .u32 x0), (Value.int .i64 x1)]), (Value.bool x2)]) ∧ K x0 x1 x2 w
/-- What comes back from (*signpost.signpostref3.Trie).at. -/
def R47 (K : Int → World → Prop) : Ending → World → Prop := fun e w => ∃ (x0 : Int), e = .returned (Value.int .i64 x0) ∧ K x0 w
/-- What comes back from signpost.signpostref1.Covers. -/
def R48 (K : Bool → World → Prop) : Ending → World → Prop := fun e w => ∃ (x0 : Bool), e = .returned (Value.bool x0) ∧ K x0 w
end Go.Proofs.Ytjjjomeemfmihaa
