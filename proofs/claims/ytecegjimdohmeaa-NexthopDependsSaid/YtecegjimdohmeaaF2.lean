/-
  Printed by gen.py: the formula of each function, and that it holds of the function.
-/
import Derived.Test.YtecegjimdohmeaaTy
namespace Go.Proofs.Ytecegjimdohmeaa
set_option linter.unusedVariables false
set_option linter.unusedSimpArgs false
open Go.Sp
set_option linter.unusedVariables false
/-- The formula of signpost.signpostkeep.Way. -/
def F15 (p0_0 : Int) (p0_1 : Int) (p0_2 : Bool) (p0_3 : Int) (p0_4 : Int) (p0_5 : Nat) (K : Int → Int → Bool → Int → Int → Nat → World → Prop) (w0 : World) : Prop :=
M.new (.cells #[(Value.int .u32 p0_0), (Value.int .i64 p0_1), (Value.bool p0_2), (Value.int .i64 p0_3), (Value.int .u32 p0_4), (Value.float .f64 p0_5)] 32) w0 fun b2 w1 =>
M.new (.cells #[(Value.int .u32 (0 : Int)), (Value.int .i64 (0 : Int)), (Value.bool false), (Value.int .i64 (0 : Int)), (Value.int .u32 (0 : Int)), (Value.float .f64 (0 : Nat))] 32) w1 fun b4 w3 =>
M.join (fun (x6 : Addr) (w56 : World) => 
M.join (fun (w78 : World) => 
M.join (fun (w94 : World) => 
M.ld Value.bool (b2.add 2) w94 fun t98 =>
M.ite t98 (
M.st (x6.add 2) (Value.bool true) w94 fun w101 =>
M.ld (Value.int .i64) (b2.add 3) w101 fun t104 =>
Calls Try.prog 6 #[(Value.int .i64 t104), (Value.int .i64 (0 : Int)), (Value.int .i64 (5 : Int))] w101 (R6 fun r106 w107 =>
M.st (x6.add 3) (Value.int .i64 r106) w107 fun w108 =>
∃ (t111 : Int) (t112 : Int) (t113 : Bool) (t114 : Int) (t115 : Int) (t116 : Nat), Cs w108 x6 0 [(Value.int .u32 t111), (Value.int .i64 t112), (Value.bool t113), (Value.int .i64 t114), (Value.int .u32 t115), (Value.float .f64 t116)] ∧
M.stA b4 [(Value.int .u32 t111), (Value.int .i64 t112), (Value.bool t113), (Value.int .i64 t114), (Value.int .u32 t115), (Value.float .f64 t116)] w108 fun w118 =>
∃ (t120 : Int) (t121 : Int) (t122 : Bool) (t123 : Int) (t124 : Int) (t125 : Nat), Cs w118 b4 0 [(Value.int .u32 t120), (Value.int .i64 t121), (Value.bool t122), (Value.int .i64 t123), (Value.int .u32 t124), (Value.float .f64 t125)] ∧
K t120 t121 t122 t123 t124 t125 w118)) (
M.ld (Value.int .u32) (b2.add 4) w94 fun t127 =>
M.st (x6.add 4) (Value.int .u32 (bOr .u32 (3325256704 : Int) (Int.tmod t127 (4 : Int)))) w94 fun w129 =>
M.join (fun (w144 : World) => 
∃ (t147 : Int) (t148 : Int) (t149 : Bool) (t150 : Int) (t151 : Int) (t152 : Nat), Cs w144 x6 0 [(Value.int .u32 t147), (Value.int .i64 t148), (Value.bool t149), (Value.int .i64 t150), (Value.int .u32 t151), (Value.float .f64 t152)] ∧
M.stA b4 [(Value.int .u32 t147), (Value.int .i64 t148), (Value.bool t149), (Value.int .i64 t150), (Value.int .u32 t151), (Value.float .f64 t152)] w144 fun w154 =>
∃ (t156 : Int) (t157 : Int) (t158 : Bool) (t159 : Int) (t160 : Int) (t161 : Nat), Cs w154 b4 0 [(Value.int .u32 t156), (Value.int .i64 t157), (Value.bool t158), (Value.int .i64 t159), (Value.int .u32 t160), (Value.float .f64 t161)] ∧
K t156 t157 t158 t159 t160 t161 w154) fun J132 => 
M.ld (Value.int .u32) (b2.add 4) w129 fun t133 =>
M.ite ((Int.tmod t133 (5 : Int)) == (0 : Int)) (
M.ld (Value.int .u32) (b2.add 4) w129 fun t136 =>
Calls Try.prog 14 #[(Value.int .u32 t136)] w129 (R14 fun r138 w139 =>
M.st (x6.add 4) (Value.int .u32 r138) w139 fun w140 =>
J132 w140)) (
J132 w129))) fun J82 => 
M.ld (Value.float .f64) (b2.add 5) w78 fun t83 =>
M.ite (!(fGeq t83 (0 : Nat))) (
M.ld (Value.int .i64) (b2.add 3) w78 fun t86 =>
Calls Try.prog 6 #[(Value.int .i64 t86), (Value.int .i64 (0 : Int)), (Value.int .i64 (3 : Int))] w78 (R6 fun r88 w89 =>
M.st (x6.add 5) (Value.float .f64 (fOfInt r88)) w89 fun w90 =>
J82 w90)) (
J82 w78)) fun J60 => 
M.ld (Value.int .i64) (b2.add 1) w56 fun t61 =>
M.ite ((Int.tmod t61 (3 : Int)) == (0 : Int)) (
M.drew w56 fun w64 => 
M.ld (Value.int .u32) b2 w64 fun t65 =>
M.ld (Value.int .i64) (b2.add 1) w64 fun t67 =>
Calls Try.prog 6 #[(Value.int .i64 t67), (Value.int .i64 (0 : Int)), (Value.int .i64 (2 : Int))] w64 (R6 fun r69 w70 =>
M.keep (w70.cell? b2 = some (Value.int .u32 t65)) <|
Calls Try.prog 21 #[(Value.int .u32 (bOr .u32 (3325256704 : Int) (Int.tmod t65 (4 : Int)))), (Value.int .i64 (IntKind.i64.wrap ((30 : Int) + r69)))] w70 (R21 fun r72 r73 w74 =>
M.stA x6 [(Value.int .u32 r72), (Value.int .i64 r73)] w74 fun w75 =>
J60 w75))) (
J60 w56)) fun J5 => 
M.drew w3 fun w7 => 
M.ld (Value.int .u32) b2 w7 fun t8 =>
M.ld (Value.int .i64) (b2.add 1) w7 fun t10 =>
M.ld (Value.float .f64) (b2.add 5) w7 fun t12 =>
M.both (
Calls Try.prog 6 #[(Value.int .i64 t10), (Value.int .i64 (0 : Int)), (Value.int .i64 (3 : Int))] w7 (R6 fun r14 w15 =>
M.keep (w15.cell? (b2.add 5) = some (Value.float .f64 t12)) <|
M.keep (w15.cell? b2 = some (Value.int .u32 t8)) <|
M.both (
Calls Try.prog 21 #[(Value.int .u32 (bOr .u32 (3221225984 : Int) (Int.tmod t8 (8 : Int)))), (Value.int .i64 (IntKind.i64.wrap ((29 : Int) + r14)))] w15 (R21 fun r18 r19 w20 =>
M.keep (w20.cell? (b2.add 5) = some (Value.float .f64 t12)) <|
M.new (.cells #[(Value.int .u32 (0 : Int)), (Value.int .i64 (0 : Int)), (Value.bool false), (Value.int .i64 (0 : Int)), (Value.int .u32 (0 : Int)), (Value.float .f64 (0 : Nat))] 32) w20 fun b23 w22 =>
M.keep (w22.cell? (b2.add 5) = some (Value.float .f64 t12)) <|
M.keep (w22.cell? (b2.add 1) = some (Value.int .i64 t10)) <|
M.keep (w22.cell? b2 = some (Value.int .u32 t8)) <|
M.stA b23 [(Value.int .u32 r18), (Value.int .i64 r19), (Value.bool false), (Value.int .i64 (0 : Int)), (Value.int .u32 (0 : Int)), (Value.float .f64 t12)] w22 fun w27 =>
J5 b23 w27)) (
M.new (.cells #[(Value.int .u32 (0 : Int)), (Value.int .i64 (0 : Int)), (Value.bool false), (Value.int .i64 (0 : Int)), (Value.int .u32 (0 : Int)), (Value.float .f64 (0 : Nat))] 32) w15 fun b30 w29 =>
M.keep (w29.cell? (b2.add 5) = some (Value.float .f64 t12)) <|
M.keep (w29.cell? (b2.add 1) = some (Value.int .i64 t10)) <|
M.keep (w29.cell? b2 = some (Value.int .u32 t8)) <|
Calls Try.prog 21 #[(Value.int .u32 (bOr .u32 (3221225984 : Int) (Int.tmod t8 (8 : Int)))), (Value.int .i64 (IntKind.i64.wrap ((29 : Int) + r14)))] w29 (R21 fun r34 r35 w36 =>
M.keep (w36.cell? (b2.add 5) = some (Value.float .f64 t12)) <|
M.stA b30 [(Value.int .u32 r34), (Value.int .i64 r35), (Value.bool false), (Value.int .i64 (0 : Int)), (Value.int .u32 (0 : Int)), (Value.float .f64 t12)] w36 fun w38 =>
J5 b30 w38)))) (
M.new (.cells #[(Value.int .u32 (0 : Int)), (Value.int .i64 (0 : Int)), (Value.bool false), (Value.int .i64 (0 : Int)), (Value.int .u32 (0 : Int)), (Value.float .f64 (0 : Nat))] 32) w7 fun b41 w40 =>
M.keep (w40.cell? (b2.add 5) = some (Value.float .f64 t12)) <|
M.keep (w40.cell? (b2.add 1) = some (Value.int .i64 t10)) <|
M.keep (w40.cell? b2 = some (Value.int .u32 t8)) <|
Calls Try.prog 6 #[(Value.int .i64 t10), (Value.int .i64 (0 : Int)), (Value.int .i64 (3 : Int))] w40 (R6 fun r45 w46 =>
M.keep (w46.cell? (b2.add 5) = some (Value.float .f64 t12)) <|
M.keep (w46.cell? b2 = some (Value.int .u32 t8)) <|
Calls Try.prog 21 #[(Value.int .u32 (bOr .u32 (3221225984 : Int) (Int.tmod t8 (8 : Int)))), (Value.int .i64 (IntKind.i64.wrap ((29 : Int) + r45)))] w46 (R21 fun r49 r50 w51 =>
M.keep (w51.cell? (b2.add 5) = some (Value.float .f64 t12)) <|
M.stA b41 [(Value.int .u32 r49), (Value.int .i64 r50), (Value.bool false), (Value.int .i64 (0 : Int)), (Value.int .u32 (0 : Int)), (Value.float .f64 t12)] w51 fun w53 =>
J5 b41 w53)))
theorem F15_ok {w0 : World} {p0_0 : Int} {p0_1 : Int} {p0_2 : Bool} {p0_3 : Int} {p0_4 : Int} {p0_5 : Nat} {K : Int → Int → Bool → Int → Int → Nat → World → Prop} (h : F15 p0_0 p0_1 p0_2 p0_3 p0_4 p0_5 K w0) : Calls Try.prog 15 #[(Value.agg #[(Value.int .u32 p0_0), (Value.int .i64 p0_1), (Value.bool p0_2), (Value.int .i64 p0_3), (Value.int .u32 p0_4), (Value.float .f64 p0_5)])] w0 (R15 K) := by
  refine calls_of_WE (args := [(Value.agg #[(Value.int .u32 p0_0), (Value.int .i64 p0_1), (Value.bool p0_2), (Value.int .i64 p0_3), (Value.int .u32 p0_4), (Value.float .f64 p0_5)])]) (rs := [.cell 2 32]) Try.func15 rfl (N := 66) rfl rfl rfl rfl ?_
  refine WE.seq ?_
  refine WE.reg ?_
  obtain ⟨b2, hpb2, w1, hww1, h⟩ := M.new_use h
  refine LE.r (v := (Value.pointer (some b2))) (Wn.no rfl) rfl (R.box (cs := #[(Value.int .u32 p0_0), (Value.int .i64 p0_1), (Value.bool p0_2), (Value.int .i64 p0_3), (Value.int .u32 p0_4), (Value.float .f64 p0_5)]) rfl rfl hpb2 hww1) ?_
  obtain ⟨b4, hpb4, w3, hww3, h⟩ := M.new_use h
  refine LE.r (v := (Value.pointer (some b4))) (Wn.no rfl) rfl (R.alloc (cs := #[(Value.int .u32 (0 : Int)), (Value.int .i64 (0 : Int)), (Value.bool false), (Value.int .i64 (0 : Int)), (Value.int .u32 (0 : Int)), (Value.float .f64 (0 : Nat))]) ze32 rfl hpb4 hww3) ?_
  refine LE.nil ?_
  refine WE.seq ?_
  obtain ⟨J5, hJ5, h⟩ := M.join_use h
  refine WE.drawJ (fun e w => ∃ (x6 : Addr), J5 x6 w ∧ e 1 = (Value.pointer (some b2)) ∧ e 2 = (Value.pointer (some b4)) ∧ e 3 = (Value.pointer (some x6))) mix ?_ ?_
  · clear hJ5
    obtain ⟨w7, hww7, h⟩ := M.drew_use h
    rw [← hww7]
    clear hww7
    refine DE.t 0 (v := (Value.pointer (some b2))) rfl (by kernel_rfl) (Wn.no rfl) rfl (R.fld (off := 0) fa32_0 rfl) ?_
    refine DE.t 1 (v := (Value.pointer (some b2))) rfl (by kernel_rfl) (Wn.no rfl) rfl (R.fld (off := 0) fa28_0 rfl) ?_
    refine DE.t 5 (v := (Value.pointer (some b2))) rfl (by kernel_rfl) (Wn.no rfl) rfl (R.fld (off := 0) fa32_0 rfl) ?_
    refine DE.t 6 (v := (Value.pointer (some (b2.add 1)))) rfl (by kernel_rfl) (Wn.no rfl) rfl (R.fld (off := 1) fa28_1 rfl) ?_
    refine DE.t 11 (v := (Value.pointer (some (b2.add 5)))) rfl (by kernel_rfl) (Wn.no rfl) rfl (R.fld (off := 5) fa32_4 rfl) ?_
    obtain ⟨t8, h9, h⟩ := h
    refine DE.hold 2 (fun w => w.cell? b2 = some (Value.int .u32 t8)) (v := (Value.int .u32 t8)) rfl (by kernel_rfl) (Wn.no rfl) rfl h9 (fun w hs => R.ld sc26 rfl hs) ?_
    refine DE.t 3 (v := (Value.int .u32 (Int.tmod t8 (8 : Int)))) rfl (by kernel_rfl) (Wn.no rfl) rfl (R.rem rfl rfl (by decide)) ?_
    refine DE.t 4 (v := (Value.int .u32 (bOr .u32 (3221225984 : Int) (Int.tmod t8 (8 : Int))))) rfl (by kernel_rfl) (Wn.no rfl) rfl (R.or rfl rfl) ?_
    obtain ⟨t10, h11, h⟩ := h
    refine DE.hold 7 (fun w => w.cell? (b2.add 1) = some (Value.int .i64 t10)) (v := (Value.int .i64 t10)) rfl (by kernel_rfl) (Wn.no rfl) rfl h11 (fun w hs => R.ld sc3 rfl hs) ?_
    obtain ⟨t12, h13, h⟩ := h
    refine DE.hold 12 (fun w => w.cell? (b2.add 5) = some (Value.float .f64 t12)) (v := (Value.float .f64 t12)) rfl (by kernel_rfl) (Wn.no rfl) rfl h13 (fun w hs => R.ld sc22 rfl hs) ?_
    refine DE.main2 8 14 (by kernel_rfl) ?_ ?_
    · replace h := h.1
      refine One.c 8 rfl (Wn.no rfl) rfl (R.call bd6 (Ls.cons rfl (Ls.cons rfl (Ls.cons rfl Ls.nil))) rfl) (Calls.mono h ?_)
      rintro _ w15 ⟨r14, rfl, h⟩
      obtain ⟨k16, h⟩ := h
      obtain ⟨k17, h⟩ := h
      refine ⟨_, rfl, ⟨fun _ => k16, aftT (by kernel_rfl), fun _ => k17, trivial⟩, ?_⟩
      refine DE.t 9 (v := (Value.int .i64 (IntKind.i64.wrap ((29 : Int) + r14)))) rfl (by kernel_rfl) (Wn.no rfl) rfl (R.add rfl rfl) ?_
      refine DE.main2 10 14 (by kernel_rfl) ?_ ?_
      · replace h := h.1
        refine One.c 10 rfl (Wn.no rfl) rfl (R.call bd21 (Ls.cons rfl (Ls.cons rfl Ls.nil)) rfl) (Calls.mono h ?_)
        rintro _ w20 ⟨r18, r19, rfl, h⟩
        obtain ⟨k21, h⟩ := h
        refine ⟨_, rfl, ⟨fun _ => k21, aftT (by kernel_rfl), aftT (by kernel_rfl), trivial⟩, ?_⟩
        refine DE.t 13 (v := (Value.agg #[(Value.int .u32 r18), (Value.int .i64 r19), (Value.bool false), (Value.int .i64 (0 : Int)), (Value.int .u32 (0 : Int)), (Value.float .f64 t12)])) rfl (by kernel_rfl) (Wn.no rfl) rfl (R.bld (by exact (Ls.cons (R.Pr rfl) (Ls.cons (R.Pr rfl) Ls.nil))) (fun w => bu32_0_4 r18 r19 t12 w)) ?_
        obtain ⟨b23, hpb23, w22, hww22, h⟩ := M.new_use h
        obtain ⟨k24, h⟩ := h
        obtain ⟨k25, h⟩ := h
        obtain ⟨k26, h⟩ := h
        refine DE.main 14 (by kernel_rfl) ?_
        refine One.r 14 (v := (Value.pointer (some b23))) rfl (Wn.no rfl) rfl (R.alloc (cs := #[(Value.int .u32 (0 : Int)), (Value.int .i64 (0 : Int)), (Value.bool false), (Value.int .i64 (0 : Int)), (Value.int .u32 (0 : Int)), (Value.float .f64 (0 : Nat))]) ze32 rfl hpb23 hww22) (.inr ⟨fun _ => k24, fun _ => k25, fun _ => k26, trivial⟩) ?_
        obtain ⟨w27, hww27, h28, h⟩ := M.stA_use h
        refine DE.main 15 (by kernel_rfl) ?_
        refine One.s 15 rfl (Wn.no rfl) rfl (R.stA (a := b23) [(Value.int .u32 r18), (Value.int .i64 r19), (Value.bool false), (Value.int .i64 (0 : Int)), (Value.int .u32 (0 : Int)), (Value.float .f64 t12)] sz32 rfl rfl rfl (by simp [Value.oneCell']) h28 hww27) ⟨aftT (by kernel_rfl), aftT (by kernel_rfl), aftT (by kernel_rfl), trivial⟩ ?_
        refine DE.done (by kernel_rfl) ?_
        exact ⟨_, h, rfl, rfl, rfl⟩
      · replace h := h.2
        obtain ⟨b30, hpb30, w29, hww29, h⟩ := M.new_use h
        obtain ⟨k31, h⟩ := h
        obtain ⟨k32, h⟩ := h
        obtain ⟨k33, h⟩ := h
        refine One.r 14 (v := (Value.pointer (some b30))) rfl (Wn.no rfl) rfl (R.alloc (cs := #[(Value.int .u32 (0 : Int)), (Value.int .i64 (0 : Int)), (Value.bool false), (Value.int .i64 (0 : Int)), (Value.int .u32 (0 : Int)), (Value.float .f64 (0 : Nat))]) ze32 rfl hpb30 hww29) (.inr ⟨fun _ => k31, fun _ => k32, fun _ => k33, trivial⟩) ?_
        refine DE.main 10 (by kernel_rfl) ?_
        refine One.c 10 rfl (Wn.no rfl) rfl (R.call bd21 (Ls.cons rfl (Ls.cons rfl Ls.nil)) rfl) (Calls.mono h ?_)
        rintro _ w36 ⟨r34, r35, rfl, h⟩
        obtain ⟨k37, h⟩ := h
        refine ⟨_, rfl, ⟨fun _ => k37, aftT (by kernel_rfl), aftT (by kernel_rfl), trivial⟩, ?_⟩
        refine DE.t 13 (v := (Value.agg #[(Value.int .u32 r34), (Value.int .i64 r35), (Value.bool false), (Value.int .i64 (0 : Int)), (Value.int .u32 (0 : Int)), (Value.float .f64 t12)])) rfl (by kernel_rfl) (Wn.no rfl) rfl (R.bld (by exact (Ls.cons (R.Pr rfl) (Ls.cons (R.Pr rfl) Ls.nil))) (fun w => bu32_0_4 r34 r35 t12 w)) ?_
        obtain ⟨w38, hww38, h39, h⟩ := M.stA_use h
        refine DE.main 15 (by kernel_rfl) ?_
        refine One.s 15 rfl (Wn.no rfl) rfl (R.stA (a := b30) [(Value.int .u32 r34), (Value.int .i64 r35), (Value.bool false), (Value.int .i64 (0 : Int)), (Value.int .u32 (0 : Int)), (Value.float .f64 t12)] sz32 rfl rfl rfl (by simp [Value.oneCell']) h39 hww38) ⟨aftT (by kernel_rfl), aftT (by kernel_rfl), aftT (by kernel_rfl), trivial⟩ ?_
        refine DE.done (by kernel_rfl) ?_
        exact ⟨_, h, rfl, rfl, rfl⟩
    · replace h := h.2
      obtain ⟨b41, hpb41, w40, hww40, h⟩ := M.new_use h
      obtain ⟨k42, h⟩ := h
      obtain ⟨k43, h⟩ := h
      obtain ⟨k44, h⟩ := h
      refine One.r 14 (v := (Value.pointer (some b41))) rfl (Wn.no rfl) rfl (R.alloc (cs := #[(Value.int .u32 (0 : Int)), (Value.int .i64 (0 : Int)), (Value.bool false), (Value.int .i64 (0 : Int)), (Value.int .u32 (0 : Int)), (Value.float .f64 (0 : Nat))]) ze32 rfl hpb41 hww40) (.inr ⟨fun _ => k42, fun _ => k43, fun _ => k44, trivial⟩) ?_
      refine DE.main 8 (by kernel_rfl) ?_
      refine One.c 8 rfl (Wn.no rfl) rfl (R.call bd6 (Ls.cons rfl (Ls.cons rfl (Ls.cons rfl Ls.nil))) rfl) (Calls.mono h ?_)
      rintro _ w46 ⟨r45, rfl, h⟩
      obtain ⟨k47, h⟩ := h
      obtain ⟨k48, h⟩ := h
      refine ⟨_, rfl, ⟨fun _ => k47, aftT (by kernel_rfl), fun _ => k48, trivial⟩, ?_⟩
      refine DE.t 9 (v := (Value.int .i64 (IntKind.i64.wrap ((29 : Int) + r45)))) rfl (by kernel_rfl) (Wn.no rfl) rfl (R.add rfl rfl) ?_
      refine DE.main 10 (by kernel_rfl) ?_
      refine One.c 10 rfl (Wn.no rfl) rfl (R.call bd21 (Ls.cons rfl (Ls.cons rfl Ls.nil)) rfl) (Calls.mono h ?_)
      rintro _ w51 ⟨r49, r50, rfl, h⟩
      obtain ⟨k52, h⟩ := h
      refine ⟨_, rfl, ⟨fun _ => k52, aftT (by kernel_rfl), aftT (by kernel_rfl), trivial⟩, ?_⟩
      refine DE.t 13 (v := (Value.agg #[(Value.int .u32 r49), (Value.int .i64 r50), (Value.bool false), (Value.int .i64 (0 : Int)), (Value.int .u32 (0 : Int)), (Value.float .f64 t12)])) rfl (by kernel_rfl) (Wn.no rfl) rfl (R.bld (by exact (Ls.cons (R.Pr rfl) (Ls.cons (R.Pr rfl) Ls.nil))) (fun w => bu32_0_4 r49 r50 t12 w)) ?_
      obtain ⟨w53, hww53, h54, h⟩ := M.stA_use h
      refine DE.main 15 (by kernel_rfl) ?_
      refine One.s 15 rfl (Wn.no rfl) rfl (R.stA (a := b41) [(Value.int .u32 r49), (Value.int .i64 r50), (Value.bool false), (Value.int .i64 (0 : Int)), (Value.int .u32 (0 : Int)), (Value.float .f64 t12)] sz32 rfl rfl rfl (by simp [Value.oneCell']) h54 hww53) ⟨aftT (by kernel_rfl), aftT (by kernel_rfl), aftT (by kernel_rfl), trivial⟩ ?_
      refine DE.done (by kernel_rfl) ?_
      exact ⟨_, h, rfl, rfl, rfl⟩
  · rintro e55 w56 ⟨x6, h, f57, f58, f59⟩
    subst hJ5
    obtain ⟨J60, hJ60, h⟩ := M.join_use h
    refine WE.join (fun e w => J60 w ∧ e 1 = (Value.pointer (some b2)) ∧ e 2 = (Value.pointer (some b4)) ∧ e 3 = (Value.pointer (some x6))) ?_ ?_
    · clear hJ60
      refine WE.seq ?_
      refine WE.reg ?_
      refine LE.p (v := (Value.pointer (some b2))) (Wn.no rfl) rfl (R.fld (off := 0) fa32_0 f57) ?_
      refine LE.p (v := (Value.pointer (some (b2.add 1)))) (Wn.no rfl) rfl (R.fld (off := 1) fa28_1 rfl) ?_
      obtain ⟨t61, h62, h⟩ := h
      refine LE.r (v := (Value.int .i64 t61)) (Wn.no rfl) rfl (R.ld sc3 rfl h62) ?_
      refine LE.p (v := (Value.int .i64 (Int.tmod t61 (3 : Int)))) (Wn.no rfl) rfl (R.rem rfl rfl (by decide)) ?_
      refine LE.p (v := (Value.bool ((Int.tmod t61 (3 : Int)) == (0 : Int)))) (Wn.no rfl) rfl (R.eql rfl rfl) ?_
      refine LE.nil ?_
      refine WE.condT rfl (b := ((Int.tmod t61 (3 : Int)) == (0 : Int))) rfl ?_ ?_
      · intro hb63
        replace h := M.ite_t h hb63
        refine WE.draw mix ?_
        obtain ⟨w64, hww64, h⟩ := M.drew_use h
        rw [← hww64]
        clear hww64
        refine DE.t 0 (v := (Value.pointer (some b2))) rfl (by kernel_rfl) (Wn.no rfl) rfl (R.fld (off := 0) fa32_0 f57) ?_
        refine DE.t 1 (v := (Value.pointer (some b2))) rfl (by kernel_rfl) (Wn.no rfl) rfl (R.fld (off := 0) fa28_0 rfl) ?_
        refine DE.t 5 (v := (Value.pointer (some b2))) rfl (by kernel_rfl) (Wn.no rfl) rfl (R.fld (off := 0) fa32_0 f57) ?_
        refine DE.t 6 (v := (Value.pointer (some (b2.add 1)))) rfl (by kernel_rfl) (Wn.no rfl) rfl (R.fld (off := 1) fa28_1 rfl) ?_
        obtain ⟨t65, h66, h⟩ := h
        refine DE.hold 2 (fun w => w.cell? b2 = some (Value.int .u32 t65)) (v := (Value.int .u32 t65)) rfl (by kernel_rfl) (Wn.no rfl) rfl h66 (fun w hs => R.ld sc26 rfl hs) ?_
        refine DE.t 3 (v := (Value.int .u32 (Int.tmod t65 (4 : Int)))) rfl (by kernel_rfl) (Wn.no rfl) rfl (R.rem rfl rfl (by decide)) ?_
        refine DE.t 4 (v := (Value.int .u32 (bOr .u32 (3325256704 : Int) (Int.tmod t65 (4 : Int))))) rfl (by kernel_rfl) (Wn.no rfl) rfl (R.or rfl rfl) ?_
        obtain ⟨t67, h68, h⟩ := h
        refine DE.main 7 (by kernel_rfl) ?_
        refine One.r 7 (v := (Value.int .i64 t67)) rfl (Wn.no rfl) rfl (R.ld sc3 rfl h68) (.inl rfl) ?_
        refine DE.main 8 (by kernel_rfl) ?_
        refine One.c 8 rfl (Wn.no rfl) rfl (R.call bd6 (Ls.cons rfl (Ls.cons rfl (Ls.cons rfl Ls.nil))) rfl) (Calls.mono h ?_)
        rintro _ w70 ⟨r69, rfl, h⟩
        obtain ⟨k71, h⟩ := h
        refine ⟨_, rfl, ⟨fun _ => k71, trivial⟩, ?_⟩
        refine DE.t 9 (v := (Value.int .i64 (IntKind.i64.wrap ((30 : Int) + r69)))) rfl (by kernel_rfl) (Wn.no rfl) rfl (R.add rfl rfl) ?_
        refine DE.main 10 (by kernel_rfl) ?_
        refine One.c 10 rfl (Wn.no rfl) rfl (R.call bd21 (Ls.cons rfl (Ls.cons rfl Ls.nil)) rfl) (Calls.mono h ?_)
        rintro _ w74 ⟨r72, r73, rfl, h⟩
        refine ⟨_, rfl, ⟨aftT (by kernel_rfl), trivial⟩, ?_⟩
        refine DE.t 11 (v := (Value.pointer (some x6))) rfl (by kernel_rfl) (Wn.no rfl) rfl (R.fld (off := 0) fa32_0 f59) ?_
        obtain ⟨w75, hww75, h76, h⟩ := M.stA_use h
        refine DE.main 12 (by kernel_rfl) ?_
        refine One.s 12 rfl (Wn.no rfl) rfl (R.stA (a := x6) [(Value.int .u32 r72), (Value.int .i64 r73)] sz28 rfl rfl rfl (by simp [Value.oneCell']) h76 hww75) ⟨aftT (by kernel_rfl), trivial⟩ ?_
        refine DE.done (by kernel_rfl) ?_
        exact ⟨h, f57, f58, f59⟩
      · intro hb63
        replace h := M.ite_f h hb63
        refine WE.skip ?_
        exact ⟨h, f57, f58, f59⟩
    · rintro e77 w78 ⟨h, f79, f80, f81⟩
      subst hJ60
      obtain ⟨J82, hJ82, h⟩ := M.join_use h
      refine WE.join (fun e w => J82 w ∧ e 1 = (Value.pointer (some b2)) ∧ e 2 = (Value.pointer (some b4)) ∧ e 3 = (Value.pointer (some x6))) ?_ ?_
      · clear hJ82
        refine WE.seq ?_
        refine WE.reg ?_
        refine LE.p (v := (Value.pointer (some (b2.add 5)))) (Wn.no rfl) rfl (R.fld (off := 5) fa32_4 f79) ?_
        obtain ⟨t83, h84, h⟩ := h
        refine LE.r (v := (Value.float .f64 t83)) (Wn.no rfl) rfl (R.ld sc22 rfl h84) ?_
        refine LE.p (v := (Value.bool (fGeq t83 (0 : Nat)))) (Wn.no rfl) rfl (R.fgeq rfl rfl) ?_
        refine LE.p (v := (Value.bool (!(fGeq t83 (0 : Nat))))) (Wn.no rfl) rfl (R.not rfl) ?_
        refine LE.nil ?_
        refine WE.condT rfl (b := (!(fGeq t83 (0 : Nat)))) rfl ?_ ?_
        · intro hb85
          replace h := M.ite_t h hb85
          refine WE.reg ?_
          refine LE.p (v := (Value.pointer (some (b2.add 3)))) (Wn.no rfl) rfl (R.fld (off := 3) fa32_2 f79) ?_
          obtain ⟨t86, h87, h⟩ := h
          refine LE.r (v := (Value.int .i64 t86)) (Wn.no rfl) rfl (R.ld sc3 rfl h87) ?_
          refine LE.c (Wn.no rfl) rfl (R.call bd6 (Ls.cons rfl (Ls.cons rfl (Ls.cons rfl Ls.nil))) rfl) (Calls.mono h ?_)
          rintro _ w89 ⟨r88, rfl, h⟩
          refine ⟨_, rfl, ?_⟩
          refine LE.p (v := (Value.float .f64 (fOfInt r88))) (Wn.no rfl) rfl (R.i2f fo22 in3 rfl) ?_
          refine LE.p (v := (Value.pointer (some (x6.add 5)))) (Wn.no rfl) rfl (R.fld (off := 5) fa32_4 f81) ?_
          obtain ⟨w90, hww90, h91, h92, h⟩ := M.st_use h
          refine LE.s (Wn.no rfl) rfl (R.st (a := (x6.add 5)) (v := (Value.float .f64 (fOfInt r88))) sz22 rfl rfl rfl rfl h91 h92 hww90) ?_
          refine LE.nil ?_
          exact ⟨h, f79, f80, f81⟩
        · intro hb85
          replace h := M.ite_f h hb85
          refine WE.skip ?_
          exact ⟨h, f79, f80, f81⟩
      · rintro e93 w94 ⟨h, f95, f96, f97⟩
        subst hJ82
        refine WE.seq ?_
        refine WE.seq ?_
        refine WE.reg ?_
        refine LE.p (v := (Value.pointer (some (b2.add 2)))) (Wn.no rfl) rfl (R.fld (off := 2) fa32_1 f95) ?_
        obtain ⟨t98, h99, h⟩ := h
        refine LE.r (v := (Value.bool t98)) (Wn.no rfl) rfl (R.ld sc4 rfl h99) ?_
        refine LE.nil ?_
        refine WE.condT rfl (b := t98) rfl ?_ ?_
        · intro hb100
          replace h := M.ite_t h hb100
          refine WE.seq ?_
          refine WE.reg ?_
          refine LE.p (v := (Value.pointer (some (x6.add 2)))) (Wn.no rfl) rfl (R.fld (off := 2) fa32_1 f97) ?_
          obtain ⟨w101, hww101, h102, h103, h⟩ := M.st_use h
          refine LE.s (Wn.no rfl) rfl (R.st (a := (x6.add 2)) (v := (Value.bool true)) sz4 rfl rfl rfl rfl h102 h103 hww101) ?_
          refine LE.nil ?_
          refine WE.seq ?_
          refine WE.reg ?_
          refine LE.p (v := (Value.pointer (some (b2.add 3)))) (Wn.no rfl) rfl (R.fld (off := 3) fa32_2 f95) ?_
          obtain ⟨t104, h105, h⟩ := h
          refine LE.r (v := (Value.int .i64 t104)) (Wn.no rfl) rfl (R.ld sc3 rfl h105) ?_
          refine LE.c (Wn.no rfl) rfl (R.call bd6 (Ls.cons rfl (Ls.cons rfl (Ls.cons rfl Ls.nil))) rfl) (Calls.mono h ?_)
          rintro _ w107 ⟨r106, rfl, h⟩
          refine ⟨_, rfl, ?_⟩
          refine LE.p (v := (Value.pointer (some (x6.add 3)))) (Wn.no rfl) rfl (R.fld (off := 3) fa32_2 f97) ?_
          obtain ⟨w108, hww108, h109, h110, h⟩ := M.st_use h
          refine LE.s (Wn.no rfl) rfl (R.st (a := (x6.add 3)) (v := (Value.int .i64 r106)) sz3 rfl rfl rfl rfl h109 h110 hww108) ?_
          refine LE.nil ?_
          refine WE.seq ?_
          refine WE.reg ?_
          obtain ⟨t111, t112, t113, t114, t115, t116, h117, h⟩ := h
          refine LE.r (v := (Value.agg #[(Value.int .u32 t111), (Value.int .i64 t112), (Value.bool t113), (Value.int .i64 t114), (Value.int .u32 t115), (Value.float .f64 t116)])) (Wn.no rfl) rfl (R.ldA ag32 sz32 f97 rfl h117) ?_
          obtain ⟨w118, hww118, h119, h⟩ := M.stA_use h
          refine LE.s (Wn.no rfl) rfl (R.stA (a := b4) [(Value.int .u32 t111), (Value.int .i64 t112), (Value.bool t113), (Value.int .i64 t114), (Value.int .u32 t115), (Value.float .f64 t116)] sz32 f96 rfl rfl (by simp [Value.oneCell']) h119 hww118) ?_
          refine LE.nil ?_
          refine WE.ret ?_
          obtain ⟨t120, t121, t122, t123, t124, t125, h126, h⟩ := h
          exact ⟨_, (Res.cell f96 (R.ldCellA ag32 sz32 rfl h126) Res.nil), _, _, _, _, _, _, rfl, h⟩
        · intro hb100
          replace h := M.ite_f h hb100
          refine WE.skip ?_
          refine WE.seq ?_
          refine WE.reg ?_
          refine LE.p (v := (Value.pointer (some (b2.add 4)))) (Wn.no rfl) rfl (R.fld (off := 4) fa32_3 f95) ?_
          obtain ⟨t127, h128, h⟩ := h
          refine LE.r (v := (Value.int .u32 t127)) (Wn.no rfl) rfl (R.ld sc26 rfl h128) ?_
          refine LE.p (v := (Value.int .u32 (Int.tmod t127 (4 : Int)))) (Wn.no rfl) rfl (R.rem rfl rfl (by decide)) ?_
          refine LE.p (v := (Value.int .u32 (bOr .u32 (3325256704 : Int) (Int.tmod t127 (4 : Int))))) (Wn.no rfl) rfl (R.or rfl rfl) ?_
          refine LE.p (v := (Value.pointer (some (x6.add 4)))) (Wn.no rfl) rfl (R.fld (off := 4) fa32_3 f97) ?_
          obtain ⟨w129, hww129, h130, h131, h⟩ := M.st_use h
          refine LE.s (Wn.no rfl) rfl (R.st (a := (x6.add 4)) (v := (Value.int .u32 (bOr .u32 (3325256704 : Int) (Int.tmod t127 (4 : Int))))) sz26 rfl rfl rfl rfl h130 h131 hww129) ?_
          refine LE.nil ?_
          obtain ⟨J132, hJ132, h⟩ := M.join_use h
          refine WE.join (fun e w => J132 w ∧ e 2 = (Value.pointer (some b4)) ∧ e 3 = (Value.pointer (some x6))) ?_ ?_
          · clear hJ132
            refine WE.seq ?_
            refine WE.reg ?_
            refine LE.p (v := (Value.pointer (some (b2.add 4)))) (Wn.no rfl) rfl (R.fld (off := 4) fa32_3 f95) ?_
            obtain ⟨t133, h134, h⟩ := h
            refine LE.r (v := (Value.int .u32 t133)) (Wn.no rfl) rfl (R.ld sc26 rfl h134) ?_
            refine LE.p (v := (Value.int .u32 (Int.tmod t133 (5 : Int)))) (Wn.no rfl) rfl (R.rem rfl rfl (by decide)) ?_
            refine LE.p (v := (Value.bool ((Int.tmod t133 (5 : Int)) == (0 : Int)))) (Wn.no rfl) rfl (R.eql rfl rfl) ?_
            refine LE.nil ?_
            refine WE.condT rfl (b := ((Int.tmod t133 (5 : Int)) == (0 : Int))) rfl ?_ ?_
            · intro hb135
              replace h := M.ite_t h hb135
              refine WE.reg ?_
              refine LE.p (v := (Value.pointer (some (b2.add 4)))) (Wn.no rfl) rfl (R.fld (off := 4) fa32_3 f95) ?_
              obtain ⟨t136, h137, h⟩ := h
              refine LE.r (v := (Value.int .u32 t136)) (Wn.no rfl) rfl (R.ld sc26 rfl h137) ?_
              refine LE.c (Wn.no rfl) rfl (R.call bd14 (Ls.cons rfl Ls.nil) rfl) (Calls.mono h ?_)
              rintro _ w139 ⟨r138, rfl, h⟩
              refine ⟨_, rfl, ?_⟩
              refine LE.p (v := (Value.pointer (some (x6.add 4)))) (Wn.no rfl) rfl (R.fld (off := 4) fa32_3 f97) ?_
              obtain ⟨w140, hww140, h141, h142, h⟩ := M.st_use h
              refine LE.s (Wn.no rfl) rfl (R.st (a := (x6.add 4)) (v := (Value.int .u32 r138)) sz26 rfl rfl rfl rfl h141 h142 hww140) ?_
              refine LE.nil ?_
              exact ⟨h, f96, f97⟩
            · intro hb135
              replace h := M.ite_f h hb135
              refine WE.skip ?_
              exact ⟨h, f96, f97⟩
          · rintro e143 w144 ⟨h, f145, f146⟩
            subst hJ132
            refine WE.seq ?_
            refine WE.reg ?_
            obtain ⟨t147, t148, t149, t150, t151, t152, h153, h⟩ := h
            refine LE.r (v := (Value.agg #[(Value.int .u32 t147), (Value.int .i64 t148), (Value.bool t149), (Value.int .i64 t150), (Value.int .u32 t151), (Value.float .f64 t152)])) (Wn.no rfl) rfl (R.ldA ag32 sz32 f146 rfl h153) ?_
            obtain ⟨w154, hww154, h155, h⟩ := M.stA_use h
            refine LE.s (Wn.no rfl) rfl (R.stA (a := b4) [(Value.int .u32 t147), (Value.int .i64 t148), (Value.bool t149), (Value.int .i64 t150), (Value.int .u32 t151), (Value.float .f64 t152)] sz32 f145 rfl rfl (by simp [Value.oneCell']) h155 hww154) ?_
            refine LE.nil ?_
            refine WE.ret ?_
            obtain ⟨t156, t157, t158, t159, t160, t161, h162, h⟩ := h
            exact ⟨_, (Res.cell f145 (R.ldCellA ag32 sz32 rfl h162) Res.nil), _, _, _, _, _, _, rfl, h⟩
/-- The formula of signpost.nexthop.Depends. -/
def F16 (p0 : Option Addr) (p1 : Int) (p2 : Int) (p3_0 : Int) (p3_1 : Int) (K : Bool → World → Prop) (w0 : World) : Prop :=
M.new (.cells #[(Value.int .u32 p3_0), (Value.int .i64 p3_1)] 28) w0 fun b2 w1 =>
Calls Try.prog 28 #[(Value.pointer p0), (Value.int .u32 p1), (Value.int .i64 p2)] w1 (R28 fun r3 r4 r5 r6 r7 w8 =>
M.new (.cells #[(Value.int .i64 (0 : Int)), (Value.float .f64 (0 : Nat)), (SV.v SV.nil), (SV.v SV.nil)] 70) w8 fun b10 w9 =>
M.stA b10 [(Value.int .i64 r3), (Value.float .f64 r4), (SV.v r5), (SV.v r6)] w9 fun w11 =>
M.join (fun (x14 : Bool) (w23 : World) => 
M.ite x14 (
K false w23) (
M.join (fun (x29 : Bool) (w44 : World) => 
K x29 w44) fun J28 => 
M.ld SV.v (b10.add 2) w23 fun t30 =>
M.ld (Value.int .u32) b2 w23 fun t32 =>
M.ld (Value.int .i64) (b2.add 1) w23 fun t34 =>
Calls Try.prog 31 #[(SV.v t30), (Value.agg #[(Value.int .u32 t32), (Value.int .i64 t34)])] w23 (R31 fun r36 w37 =>
M.ite r36 (
J28 true w37) (
M.ld SV.v (b10.add 3) w37 fun t39 =>
Calls Try.prog 32 #[(SV.v t39), (FV.v (FV.mk 33 [(Value.pointer (some b2))]))] w37 (R32 fun r41 w42 =>
J28 r41 w42))))) fun J13 => 
M.ite (r7 == (1 : Int)) (
J13 true w11) (
M.ld (Value.int .u32) b2 w11 fun t16 =>
M.ld (Value.int .i64) (b2.add 1) w11 fun t18 =>
Calls Try.prog 30 #[(Value.agg #[(Value.int .u32 t16), (Value.int .i64 t18)])] w11 (R30 fun r20 w21 =>
J13 (!r20) w21)))
theorem F16_ok {w0 : World} {p0 : Option Addr} {p1 : Int} {p2 : Int} {p3_0 : Int} {p3_1 : Int} {K : Bool → World → Prop} (h : F16 p0 p1 p2 p3_0 p3_1 K w0) : Calls Try.prog 16 #[(Value.pointer p0), (Value.int .u32 p1), (Value.int .i64 p2), (Value.agg #[(Value.int .u32 p3_0), (Value.int .i64 p3_1)])] w0 (R16 K) := by
  refine calls_of_WE (args := [(Value.pointer p0), (Value.int .u32 p1), (Value.int .i64 p2), (Value.agg #[(Value.int .u32 p3_0), (Value.int .i64 p3_1)])]) (rs := [.tmp 8]) Try.func16 rfl (N := 35) rfl rfl rfl rfl ?_
  refine WE.seq ?_
  refine WE.reg ?_
  obtain ⟨b2, hpb2, w1, hww1, h⟩ := M.new_use h
  refine LE.r (v := (Value.pointer (some b2))) (Wn.no rfl) rfl (R.box (cs := #[(Value.int .u32 p3_0), (Value.int .i64 p3_1)]) rfl rfl hpb2 hww1) ?_
  refine LE.p (v := (Value.bool false)) (Wn.no rfl) rfl (R.assign rfl) ?_
  refine LE.nil ?_
  refine WE.seq ?_
  refine WE.reg ?_
  refine LE.p (v := (Value.pointer p0)) (Wn.no rfl) rfl (R.move rfl) ?_
  refine LE.p (v := (Value.int .u32 p1)) (Wn.no rfl) rfl (R.move rfl) ?_
  refine LE.p (v := (Value.int .i64 p2)) (Wn.no rfl) rfl (R.move rfl) ?_
  refine LE.c (Wn.no rfl) rfl (R.call bd28 (Ls.cons rfl (Ls.cons rfl (Ls.cons rfl Ls.nil))) rfl) (Calls.mono h ?_)
  rintro _ w8 ⟨r3, r4, r5, r6, r7, rfl, h⟩
  refine ⟨_, rfl, ?_⟩
  refine LE.p (v := (Value.tuple #[(Value.agg #[(Value.int .i64 r3), (Value.float .f64 r4), (SV.v r5), (SV.v r6)]), (Value.int .i64 r7)])) (Wn.no rfl) rfl (R.move rfl) ?_
  refine LE.p (v := (Value.agg #[(Value.int .i64 r3), (Value.float .f64 r4), (SV.v r5), (SV.v r6)])) (Wn.no rfl) rfl (R.ext rfl rfl) ?_
  refine LE.p (v := (Value.int .i64 r7)) (Wn.no rfl) rfl (R.ext rfl rfl) ?_
  obtain ⟨b10, hpb10, w9, hww9, h⟩ := M.new_use h
  refine LE.r (v := (Value.pointer (some b10))) (Wn.no rfl) rfl (R.alloc (cs := #[(Value.int .i64 (0 : Int)), (Value.float .f64 (0 : Nat)), (SV.v SV.nil), (SV.v SV.nil)]) ze70 rfl hpb10 hww9) ?_
  obtain ⟨w11, hww11, h12, h⟩ := M.stA_use h
  refine LE.s (Wn.no rfl) rfl (R.stA (a := b10) [(Value.int .i64 r3), (Value.float .f64 r4), (SV.v r5), (SV.v r6)] sz70 rfl rfl rfl (by simp [Value.oneCell']) h12 hww11) ?_
  refine LE.p (v := (Value.int .i64 r7)) (Wn.no rfl) rfl (R.assign rfl) ?_
  refine LE.nil ?_
  refine WE.seq ?_
  refine WE.seq ?_
  obtain ⟨J13, hJ13, h⟩ := M.join_use h
  refine WE.regJ (fun e w => ∃ (x14 : Bool), J13 x14 w ∧ e 7 = (Value.pointer (some b2)) ∧ e 9 = (Value.pointer (some b10)) ∧ e 24 = (Value.bool x14)) ?_ ?_
  · clear hJ13
    refine LE.p (v := (Value.int .i64 r7)) (Wn.no rfl) rfl (R.move rfl) ?_
    refine LE.p (v := (Value.bool (r7 == (1 : Int)))) (Wn.no rfl) rfl (R.eql rfl rfl) ?_
    refine LE.p (v := (Value.bool (r7 == (1 : Int)))) (Wn.no rfl) rfl (R.move rfl) ?_
    rcases M.ite_use h with ⟨hb15, h⟩ | ⟨hb15, h⟩
    · refine LE.u (Un.no 2 20 false rfl rfl rfl (congrArg Value.bool hb15)) ?_
      refine LE.u (Un.no 2 20 false rfl rfl rfl (congrArg Value.bool hb15)) ?_
      refine LE.u (Un.no 2 20 false rfl rfl rfl (congrArg Value.bool hb15)) ?_
      refine LE.p (v := (Value.bool true)) (Wn.no rfl) rfl (R.pickT (congrArg Value.bool hb15) rfl) ?_
      refine LE.nil ?_
      exact ⟨_, h, rfl, rfl, rfl⟩
    · obtain ⟨t16, h17, h⟩ := h
      obtain ⟨t18, h19, h⟩ := h
      refine LE.r (v := (Value.agg #[(Value.int .u32 t16), (Value.int .i64 t18)])) (Wn.yes 2 20 false rfl rfl rfl (congrArg Value.bool hb15)) rfl (R.ldA ag28 sz28 rfl rfl (Cs.cons h17 (Cs.cons h19 Cs.nil))) ?_
      refine LE.c (Wn.yes 2 20 false rfl rfl rfl (congrArg Value.bool hb15)) rfl (R.call bd30 (Ls.cons rfl Ls.nil) rfl) (Calls.mono h ?_)
      rintro _ w21 ⟨r20, rfl, h⟩
      refine ⟨_, rfl, ?_⟩
      refine LE.p (v := (Value.bool (!r20))) (Wn.yes 2 20 false rfl rfl rfl (congrArg Value.bool hb15)) rfl (R.not rfl) ?_
      refine LE.p (v := (Value.bool (!r20))) (Wn.no rfl) rfl (R.pickF (congrArg Value.bool hb15) rfl) ?_
      refine LE.nil ?_
      exact ⟨_, h, rfl, rfl, rfl⟩
  · rintro e22 w23 ⟨x14, h, f24, f25, f26⟩
    subst hJ13
    refine WE.condT rfl (b := x14) f26 ?_ ?_
    · intro hb27
      replace h := M.ite_t h hb27
      refine WE.seq ?_
      refine WE.reg ?_
      refine LE.p (v := (Value.bool false)) (Wn.no rfl) rfl (R.assign rfl) ?_
      refine LE.nil ?_
      refine WE.ret ?_
      exact ⟨_, (Res.tmp rfl Res.nil), _, rfl, h⟩
    · intro hb27
      replace h := M.ite_f h hb27
      refine WE.skip ?_
      refine WE.seq ?_
      obtain ⟨J28, hJ28, h⟩ := M.join_use h
      refine WE.regJ (fun e w => ∃ (x29 : Bool), J28 x29 w ∧ e 8 = (Value.bool x29)) ?_ ?_
      · clear hJ28
        refine LE.p (v := (Value.pointer (some (b10.add 2)))) (Wn.no rfl) rfl (R.fld (off := 2) fa70_1 f25) ?_
        obtain ⟨t30, h31, h⟩ := h
        refine LE.r (v := (SV.v t30)) (Wn.no rfl) rfl (R.ld sc40 rfl h31) ?_
        obtain ⟨t32, h33, h⟩ := h
        obtain ⟨t34, h35, h⟩ := h
        refine LE.r (v := (Value.agg #[(Value.int .u32 t32), (Value.int .i64 t34)])) (Wn.no rfl) rfl (R.ldA ag28 sz28 f24 rfl (Cs.cons h33 (Cs.cons h35 Cs.nil))) ?_
        refine LE.c (Wn.no rfl) rfl (R.call bd31 (Ls.cons rfl (Ls.cons rfl Ls.nil)) rfl) (Calls.mono h ?_)
        rintro _ w37 ⟨r36, rfl, h⟩
        refine ⟨_, rfl, ?_⟩
        refine LE.p (v := (Value.bool r36)) (Wn.no rfl) rfl (R.move rfl) ?_
        rcases M.ite_use h with ⟨hb38, h⟩ | ⟨hb38, h⟩
        · refine LE.u (Un.no 4 29 false rfl rfl rfl (congrArg Value.bool hb38)) ?_
          refine LE.u (Un.no 4 29 false rfl rfl rfl (congrArg Value.bool hb38)) ?_
          refine LE.u (Un.no 4 29 false rfl rfl rfl (congrArg Value.bool hb38)) ?_
          refine LE.u (Un.no 4 29 false rfl rfl rfl (congrArg Value.bool hb38)) ?_
          refine LE.p (v := (Value.bool true)) (Wn.no rfl) rfl (R.pickT (congrArg Value.bool hb38) rfl) ?_
          refine LE.p (v := (Value.bool true)) (Wn.no rfl) rfl (R.assign rfl) ?_
          refine LE.nil ?_
          exact ⟨_, h, rfl⟩
        · refine LE.p (v := (Value.pointer (some (b10.add 3)))) (Wn.yes 4 29 false rfl rfl rfl (congrArg Value.bool hb38)) rfl (R.fld (off := 3) fa70_2 f25) ?_
          obtain ⟨t39, h40, h⟩ := h
          refine LE.r (v := (SV.v t39)) (Wn.yes 4 29 false rfl rfl rfl (congrArg Value.bool hb38)) rfl (R.ld sc68 rfl h40) ?_
          refine LE.p (v := (FV.v (FV.mk 33 [(Value.pointer (some b2))]))) (Wn.yes 4 29 false rfl rfl rfl (congrArg Value.bool hb38)) rfl (R.mkf (Ls.cons f24 Ls.nil)) ?_
          refine LE.c (Wn.yes 4 29 false rfl rfl rfl (congrArg Value.bool hb38)) rfl (R.call bd32 (Ls.cons rfl (Ls.cons rfl Ls.nil)) rfl) (Calls.mono h ?_)
          rintro _ w42 ⟨r41, rfl, h⟩
          refine ⟨_, rfl, ?_⟩
          refine LE.p (v := (Value.bool r41)) (Wn.no rfl) rfl (R.pickF (congrArg Value.bool hb38) rfl) ?_
          refine LE.p (v := (Value.bool r41)) (Wn.no rfl) rfl (R.assign rfl) ?_
          refine LE.nil ?_
          exact ⟨_, h, rfl⟩
      · rintro e43 w44 ⟨x29, h, f45⟩
        subst hJ28
        refine WE.ret ?_
        exact ⟨_, (Res.tmp f45 Res.nil), _, rfl, h⟩
/-- The formula of (*signpost.igp.Table).Cut. -/
def F17 (p0 : Option Addr) (p1_0 : Int) (p1_1 : Int) (K : Bool → World → Prop) (w0 : World) : Prop :=
M.new (.cells #[(Value.int .u32 p1_0), (Value.int .i64 p1_1)] 28) w0 fun b2 w1 =>
M.drew w1 fun w3 => 
M.nil p0 fun a4 =>
M.ld Value.map (a4.add 2) w3 fun t6 =>
M.ld (Value.int .u32) b2 w3 fun t8 =>
M.ld (Value.int .i64) (b2.add 1) w3 fun t10 =>
∃ (t12 : Int) (t13 : Int) (t14 : Bool) (t15 : Int) (t16 : Int) (t17 : Nat) (t19 : Bool), (Instr.lookup 59 (Value.map t6) (Value.agg #[(Value.int .u32 t8), (Value.int .i64 t10)]) true).run Try.prog w3 = .ok (Value.tuple #[(Value.agg #[(Value.int .u32 t12), (Value.int .i64 t13), (Value.bool t14), (Value.int .i64 t15), (Value.int .u32 t16), (Value.float .f64 t17)]), (Value.bool t19)]) w3 ∧
M.new (.cells #[(Value.int .u32 (0 : Int)), (Value.int .i64 (0 : Int)), (Value.bool false), (Value.int .i64 (0 : Int)), (Value.int .u32 (0 : Int)), (Value.float .f64 (0 : Nat))] 32) w3 fun b21 w20 =>
M.keep ((Instr.lookup 59 (Value.map t6) (Value.agg #[(Value.int .u32 t8), (Value.int .i64 t10)]) true).run Try.prog w20 = .ok (Value.tuple #[(Value.agg #[(Value.int .u32 t12), (Value.int .i64 t13), (Value.bool t14), (Value.int .i64 t15), (Value.int .u32 t16), (Value.float .f64 t17)]), (Value.bool t19)]) w20) <|
M.keep (w20.cell? b2 = some (Value.int .u32 t8)) <|
M.keep (w20.cell? (b2.add 1) = some (Value.int .i64 t10)) <|
M.keep (w20.cell? (a4.add 2) = some (Value.map t6)) <|
M.stA b21 [(Value.int .u32 t12), (Value.int .i64 t13), (Value.bool t14), (Value.int .i64 t15), (Value.int .u32 t16), (Value.float .f64 t17)] w20 fun w26 =>
M.ite (!t19) (
K false w26) (
M.drew w26 fun w29 => 
M.nil p0 fun a30 =>
M.ld Value.map (a30.add 2) w29 fun t32 =>
M.ld (Value.int .u32) b2 w29 fun t34 =>
M.ld (Value.int .i64) (b2.add 1) w29 fun t36 =>
∃ w38, (Builtin.delete_ #[59, 28] 0 #[(Value.map t32), (Value.agg #[(Value.int .u32 t34), (Value.int .i64 t36)])]).run Try.prog w29 = .ok (.tuple #[]) w38 ∧
M.drew w38 fun w40 => 
M.nil p0 fun a41 =>
M.ld Value.pointer a41 w40 fun t43 =>
M.ld (Value.int .u32) b2 w40 fun t45 =>
M.ld (Value.int .i64) (b2.add 1) w40 fun t47 =>
Calls Try.prog 26 #[(Value.pointer t43), (Value.agg #[(Value.int .u32 t45), (Value.int .i64 t47)])] w40 (R26 fun r49 w50 =>
M.drew w50 fun w51 => 
M.nil p0 fun a52 =>
M.ld Value.pointer (a52.add 1) w51 fun t54 =>
M.ld (Value.int .u32) b2 w51 fun t56 =>
M.ld (Value.int .i64) (b2.add 1) w51 fun t58 =>
Calls Try.prog 26 #[(Value.pointer t54), (Value.agg #[(Value.int .u32 t56), (Value.int .i64 t58)])] w51 (R26 fun r60 w61 =>
K true w61)))
theorem F17_ok {w0 : World} {p0 : Option Addr} {p1_0 : Int} {p1_1 : Int} {K : Bool → World → Prop} (h : F17 p0 p1_0 p1_1 K w0) : Calls Try.prog 17 #[(Value.pointer p0), (Value.agg #[(Value.int .u32 p1_0), (Value.int .i64 p1_1)])] w0 (R17 K) := by
  refine calls_of_WE (args := [(Value.pointer p0), (Value.agg #[(Value.int .u32 p1_0), (Value.int .i64 p1_1)])]) (rs := [.tmp 4]) Try.func17 rfl (N := 35) rfl rfl rfl rfl ?_
  refine WE.seq ?_
  refine WE.reg ?_
  obtain ⟨b2, hpb2, w1, hww1, h⟩ := M.new_use h
  refine LE.r (v := (Value.pointer (some b2))) (Wn.no rfl) rfl (R.box (cs := #[(Value.int .u32 p1_0), (Value.int .i64 p1_1)]) rfl rfl hpb2 hww1) ?_
  refine LE.p (v := (Value.bool false)) (Wn.no rfl) rfl (R.assign rfl) ?_
  refine LE.nil ?_
  refine WE.seq ?_
  refine WE.seq ?_
  refine WE.draw mix ?_
  obtain ⟨w3, hww3, h⟩ := M.drew_use h
  rw [← hww3]
  clear hww3
  refine DE.t 0 (v := (Value.pointer p0)) rfl (by kernel_rfl) (Wn.no rfl) rfl (R.move rfl) ?_
  obtain ⟨a4, h5, h⟩ := h
  refine DE.t 1 (v := (Value.pointer (some a4))) rfl (by kernel_rfl) (Wn.no rfl) rfl (R.nilC (congrArg Value.pointer h5)) ?_
  refine DE.t 2 (v := (Value.pointer (some (a4.add 2)))) rfl (by kernel_rfl) (Wn.no rfl) rfl (R.fld (off := 2) fa61_2 rfl) ?_
  obtain ⟨t6, h7, h⟩ := h
  refine DE.hold 3 (fun w => w.cell? (a4.add 2) = some (Value.map t6)) (v := (Value.map t6)) rfl (by kernel_rfl) (Wn.no rfl) rfl h7 (fun w hs => R.ld sc59 rfl hs) ?_
  obtain ⟨t8, h9, h⟩ := h
  obtain ⟨t10, h11, h⟩ := h
  refine DE.hold 4 (fun w => w.cell? b2 = some (Value.int .u32 t8) ∧ w.cell? (b2.add 1) = some (Value.int .i64 t10)) (v := (Value.agg #[(Value.int .u32 t8), (Value.int .i64 t10)])) rfl (by kernel_rfl) (Wn.no rfl) rfl ⟨h9, h11⟩ (fun w hs => R.ldA ag28 sz28 rfl rfl (Cs.cons hs.1 (Cs.cons hs.2 Cs.nil))) ?_
  obtain ⟨t12, t13, t14, t15, t16, t17, t19, h18, h⟩ := h
  refine DE.hold 5 (fun w => (Instr.lookup 59 (Value.map t6) (Value.agg #[(Value.int .u32 t8), (Value.int .i64 t10)]) true).run Try.prog w = .ok (Value.tuple #[(Value.agg #[(Value.int .u32 t12), (Value.int .i64 t13), (Value.bool t14), (Value.int .i64 t15), (Value.int .u32 t16), (Value.float .f64 t17)]), (Value.bool t19)]) w) (v := (Value.tuple #[(Value.agg #[(Value.int .u32 t12), (Value.int .i64 t13), (Value.bool t14), (Value.int .i64 t15), (Value.int .u32 t16), (Value.float .f64 t17)]), (Value.bool t19)])) rfl (by kernel_rfl) (Wn.no rfl) rfl h18 (fun w hs => R.look rfl rfl hs) ?_
  refine DE.t 6 (v := (Value.tuple #[(Value.agg #[(Value.int .u32 t12), (Value.int .i64 t13), (Value.bool t14), (Value.int .i64 t15), (Value.int .u32 t16), (Value.float .f64 t17)]), (Value.bool t19)])) rfl (by kernel_rfl) (Wn.no rfl) rfl (R.move rfl) ?_
  refine DE.t 7 (v := (Value.agg #[(Value.int .u32 t12), (Value.int .i64 t13), (Value.bool t14), (Value.int .i64 t15), (Value.int .u32 t16), (Value.float .f64 t17)])) rfl (by kernel_rfl) (Wn.no rfl) rfl (R.ext rfl rfl) ?_
  refine DE.t 8 (v := (Value.bool t19)) rfl (by kernel_rfl) (Wn.no rfl) rfl (R.ext rfl rfl) ?_
  obtain ⟨b21, hpb21, w20, hww20, h⟩ := M.new_use h
  obtain ⟨k22, h⟩ := h
  obtain ⟨k23, h⟩ := h
  obtain ⟨k24, h⟩ := h
  obtain ⟨k25, h⟩ := h
  refine DE.main 9 (by kernel_rfl) ?_
  refine One.r 9 (v := (Value.pointer (some b21))) rfl (Wn.no rfl) rfl (R.alloc (cs := #[(Value.int .u32 (0 : Int)), (Value.int .i64 (0 : Int)), (Value.bool false), (Value.int .i64 (0 : Int)), (Value.int .u32 (0 : Int)), (Value.float .f64 (0 : Nat))]) ze32 rfl hpb21 hww20) (.inr ⟨fun _ => k22, fun _ => ⟨k23, k24⟩, fun _ => k25, trivial⟩) ?_
  obtain ⟨w26, hww26, h27, h⟩ := M.stA_use h
  refine DE.main 10 (by kernel_rfl) ?_
  refine One.s 10 rfl (Wn.no rfl) rfl (R.stA (a := b21) [(Value.int .u32 t12), (Value.int .i64 t13), (Value.bool t14), (Value.int .i64 t15), (Value.int .u32 t16), (Value.float .f64 t17)] sz32 rfl rfl rfl (by simp [Value.oneCell']) h27 hww26) ⟨aftT (by kernel_rfl), aftT (by kernel_rfl), aftT (by kernel_rfl), trivial⟩ ?_
  refine DE.t 11 (v := (Value.bool t19)) rfl (by kernel_rfl) (Wn.no rfl) rfl (R.assign rfl) ?_
  refine DE.done (by kernel_rfl) ?_
  refine WE.seq ?_
  refine WE.reg ?_
  refine LE.p (v := (Value.bool t19)) (Wn.no rfl) rfl (R.move rfl) ?_
  refine LE.p (v := (Value.bool (!t19))) (Wn.no rfl) rfl (R.not rfl) ?_
  refine LE.nil ?_
  refine WE.condT rfl (b := (!t19)) rfl ?_ ?_
  · intro hb28
    replace h := M.ite_t h hb28
    refine WE.seq ?_
    refine WE.reg ?_
    refine LE.p (v := (Value.bool false)) (Wn.no rfl) rfl (R.assign rfl) ?_
    refine LE.nil ?_
    refine WE.ret ?_
    exact ⟨_, (Res.tmp rfl Res.nil), _, rfl, h⟩
  · intro hb28
    replace h := M.ite_f h hb28
    refine WE.skip ?_
    refine WE.seq ?_
    refine WE.draw mix ?_
    obtain ⟨w29, hww29, h⟩ := M.drew_use h
    rw [← hww29]
    clear hww29
    refine DE.t 0 (v := (Value.pointer p0)) rfl (by kernel_rfl) (Wn.no rfl) rfl (R.move rfl) ?_
    obtain ⟨a30, h31, h⟩ := h
    refine DE.t 1 (v := (Value.pointer (some a30))) rfl (by kernel_rfl) (Wn.no rfl) rfl (R.nilC (congrArg Value.pointer h31)) ?_
    refine DE.t 2 (v := (Value.pointer (some (a30.add 2)))) rfl (by kernel_rfl) (Wn.no rfl) rfl (R.fld (off := 2) fa61_2 rfl) ?_
    obtain ⟨t32, h33, h⟩ := h
    refine DE.hold 3 (fun w => w.cell? (a30.add 2) = some (Value.map t32)) (v := (Value.map t32)) rfl (by kernel_rfl) (Wn.no rfl) rfl h33 (fun w hs => R.ld sc59 rfl hs) ?_
    obtain ⟨t34, h35, h⟩ := h
    obtain ⟨t36, h37, h⟩ := h
    refine DE.main 4 (by kernel_rfl) ?_
    refine One.r 4 (v := (Value.agg #[(Value.int .u32 t34), (Value.int .i64 t36)])) rfl (Wn.no rfl) rfl (R.ldA ag28 sz28 rfl rfl (Cs.cons h35 (Cs.cons h37 Cs.nil))) (.inl rfl) ?_
    obtain ⟨w38, h39, h⟩ := h
    refine DE.main 5 (by kernel_rfl) ?_
    refine One.r 5 (v := (Value.tuple #[])) rfl (Wn.no rfl) rfl (R.del rfl rfl h39) (.inr ⟨aftT (by kernel_rfl), trivial⟩) ?_
    refine DE.done (by kernel_rfl) ?_
    refine WE.seq ?_
    refine WE.draw mix ?_
    obtain ⟨w40, hww40, h⟩ := M.drew_use h
    rw [← hww40]
    clear hww40
    refine DE.t 0 (v := (Value.pointer p0)) rfl (by kernel_rfl) (Wn.no rfl) rfl (R.move rfl) ?_
    obtain ⟨a41, h42, h⟩ := h
    refine DE.t 1 (v := (Value.pointer (some a41))) rfl (by kernel_rfl) (Wn.no rfl) rfl (R.nilC (congrArg Value.pointer h42)) ?_
    refine DE.t 2 (v := (Value.pointer (some a41))) rfl (by kernel_rfl) (Wn.no rfl) rfl (R.fld (off := 0) fa61_0 rfl) ?_
    obtain ⟨t43, h44, h⟩ := h
    refine DE.hold 3 (fun w => w.cell? a41 = some (Value.pointer t43)) (v := (Value.pointer t43)) rfl (by kernel_rfl) (Wn.no rfl) rfl h44 (fun w hs => R.ld sc57 rfl hs) ?_
    obtain ⟨t45, h46, h⟩ := h
    obtain ⟨t47, h48, h⟩ := h
    refine DE.main 4 (by kernel_rfl) ?_
    refine One.r 4 (v := (Value.agg #[(Value.int .u32 t45), (Value.int .i64 t47)])) rfl (Wn.no rfl) rfl (R.ldA ag28 sz28 rfl rfl (Cs.cons h46 (Cs.cons h48 Cs.nil))) (.inl rfl) ?_
    refine DE.main 5 (by kernel_rfl) ?_
    refine One.c 5 rfl (Wn.no rfl) rfl (R.call bd26 (Ls.cons rfl (Ls.cons rfl Ls.nil)) rfl) (Calls.mono h ?_)
    rintro _ w50 ⟨r49, rfl, h⟩
    refine ⟨_, rfl, ⟨aftT (by kernel_rfl), trivial⟩, ?_⟩
    refine DE.done (by kernel_rfl) ?_
    refine WE.seq ?_
    refine WE.draw mix ?_
    obtain ⟨w51, hww51, h⟩ := M.drew_use h
    rw [← hww51]
    clear hww51
    refine DE.t 0 (v := (Value.pointer p0)) rfl (by kernel_rfl) (Wn.no rfl) rfl (R.move rfl) ?_
    obtain ⟨a52, h53, h⟩ := h
    refine DE.t 1 (v := (Value.pointer (some a52))) rfl (by kernel_rfl) (Wn.no rfl) rfl (R.nilC (congrArg Value.pointer h53)) ?_
    refine DE.t 2 (v := (Value.pointer (some (a52.add 1)))) rfl (by kernel_rfl) (Wn.no rfl) rfl (R.fld (off := 1) fa61_1 rfl) ?_
    obtain ⟨t54, h55, h⟩ := h
    refine DE.hold 3 (fun w => w.cell? (a52.add 1) = some (Value.pointer t54)) (v := (Value.pointer t54)) rfl (by kernel_rfl) (Wn.no rfl) rfl h55 (fun w hs => R.ld sc57 rfl hs) ?_
    obtain ⟨t56, h57, h⟩ := h
    obtain ⟨t58, h59, h⟩ := h
    refine DE.main 4 (by kernel_rfl) ?_
    refine One.r 4 (v := (Value.agg #[(Value.int .u32 t56), (Value.int .i64 t58)])) rfl (Wn.no rfl) rfl (R.ldA ag28 sz28 rfl rfl (Cs.cons h57 (Cs.cons h59 Cs.nil))) (.inl rfl) ?_
    refine DE.main 5 (by kernel_rfl) ?_
    refine One.c 5 rfl (Wn.no rfl) rfl (R.call bd26 (Ls.cons rfl (Ls.cons rfl Ls.nil)) rfl) (Calls.mono h ?_)
    rintro _ w61 ⟨r60, rfl, h⟩
    refine ⟨_, rfl, ⟨aftT (by kernel_rfl), trivial⟩, ?_⟩
    refine DE.done (by kernel_rfl) ?_
    refine WE.seq ?_
    refine WE.reg ?_
    refine LE.p (v := (Value.bool true)) (Wn.no rfl) rfl (R.assign rfl) ?_
    refine LE.nil ?_
    refine WE.ret ?_
    exact ⟨_, (Res.tmp rfl Res.nil), _, rfl, h⟩
/-- The formula of signpost.signpostbook.Same[signpost.api.Prefix]. -/
def F19 (p0 : SV) (p1 : SV) (K : Bool → World → Prop) (w0 : World) : Prop :=
M.ite ((p0.len : Int) != (p1.len : Int)) (
K false w0) (
M.loop1 (fun (J3 : Int → World → Prop) (x2 : Int) (w4 : World) => 
M.ite (decide (x2 < (p0.len : Int))) (
M.drew w4 fun w15 => 
M.idx p0 x2 2 fun a16 =>
M.idx p1 x2 2 fun a20 =>
M.ld (Value.int .u32) (a16.add (x2.toNat * 2)) w15 fun t24 =>
M.ld (Value.int .i64) ((a16.add (x2.toNat * 2)).add 1) w15 fun t26 =>
M.ld (Value.int .u32) (a20.add (x2.toNat * 2)) w15 fun t28 =>
M.ld (Value.int .i64) ((a20.add (x2.toNat * 2)).add 1) w15 fun t30 =>
M.ite (!((t24 == t28) && (t26 == t30))) (
K false w15) (
J3 (IntKind.i64.wrap (x2 + (1 : Int))) w15)) (
K true w4)) (0 : Int) w0)
theorem F19_ok {w0 : World} {p0 : SV} {p1 : SV} {K : Bool → World → Prop} (h : F19 p0 p1 K w0) : Calls Try.prog 19 #[(SV.v p0), (SV.v p1)] w0 (R19 K) := by
  refine calls_of_WE (args := [(SV.v p0), (SV.v p1)]) (rs := [.tmp 4]) Try.func19 rfl (N := 26) rfl rfl rfl rfl ?_
  refine WE.seq ?_
  refine WE.reg ?_
  refine LE.p (v := (Value.bool false)) (Wn.no rfl) rfl (R.assign rfl) ?_
  refine LE.nil ?_
  refine WE.seq ?_
  refine WE.seq ?_
  refine WE.reg ?_
  refine LE.p (v := (SV.v p0)) (Wn.no rfl) rfl (R.move rfl) ?_
  refine LE.p (v := (Value.int .i64 (p0.len : Int))) (Wn.no rfl) rfl (R.len sl40 rfl) ?_
  refine LE.p (v := (SV.v p1)) (Wn.no rfl) rfl (R.move rfl) ?_
  refine LE.p (v := (Value.int .i64 (p1.len : Int))) (Wn.no rfl) rfl (R.len sl40 rfl) ?_
  refine LE.p (v := (Value.bool ((p0.len : Int) != (p1.len : Int)))) (Wn.no rfl) rfl (R.neq rfl rfl) ?_
  refine LE.nil ?_
  refine WE.condT rfl (b := ((p0.len : Int) != (p1.len : Int))) rfl ?_ ?_
  · intro hb1
    replace h := M.ite_t h hb1
    refine WE.seq ?_
    refine WE.reg ?_
    refine LE.p (v := (Value.bool false)) (Wn.no rfl) rfl (R.assign rfl) ?_
    refine LE.nil ?_
    refine WE.ret ?_
    exact ⟨_, (Res.tmp rfl Res.nil), _, rfl, h⟩
  · intro hb1
    replace h := M.ite_f h hb1
    refine WE.skip ?_
    refine WE.seq ?_
    refine WE.seq ?_
    refine WE.reg ?_
    refine LE.p (v := (Value.int .i64 (0 : Int))) (Wn.no rfl) rfl (R.assign rfl) ?_
    refine LE.nil ?_
    refine WE.block ?_
    obtain ⟨I7, ⟨n6, h⟩, hr8⟩ := h
    refine WE.loop (fun n e w => ∃ (x2 : Int), I7 n x2 w ∧ e 0 = (SV.v p0) ∧ e 1 = (SV.v p1) ∧ e 5 = (Value.int .i64 x2)) n6 ⟨_, h, rfl, rfl, rfl⟩ ?_
    clear h
    rintro n6 e5 w4 ⟨x2, h, f11, f12, f13⟩
    replace h := hr8 n6 x2 w4 h
    refine WE.seq ?_
    refine WE.seq ?_
    refine WE.reg ?_
    refine LE.p (v := (Value.int .i64 x2)) (Wn.no rfl) rfl (R.move f13) ?_
    refine LE.p (v := (SV.v p0)) (Wn.no rfl) rfl (R.move f11) ?_
    refine LE.p (v := (Value.int .i64 (p0.len : Int))) (Wn.no rfl) rfl (R.len sl40 rfl) ?_
    refine LE.p (v := (Value.bool (decide (x2 < (p0.len : Int))))) (Wn.no rfl) rfl (R.lss rfl rfl) ?_
    refine LE.nil ?_
    refine WE.condT rfl (b := (decide (x2 < (p0.len : Int)))) rfl ?_ ?_
    · intro hb14
      replace h := M.ite_t h hb14
      refine WE.skip ?_
      refine WE.seq ?_
      refine WE.block ?_
      refine WE.seq ?_
      refine WE.draw mix ?_
      obtain ⟨w15, hww15, h⟩ := M.drew_use h
      rw [← hww15]
      clear hww15
      refine DE.t 0 (v := (SV.v p0)) rfl (by kernel_rfl) (Wn.no rfl) rfl (R.move f11) ?_
      refine DE.t 1 (v := (Value.int .i64 x2)) rfl (by kernel_rfl) (Wn.no rfl) rfl (R.move f13) ?_
      obtain ⟨a16, h17, h18, h19, h⟩ := h
      refine DE.t 2 (v := (Value.pointer (some (a16.add (x2.toNat * 2))))) rfl (by kernel_rfl) (Wn.no rfl) rfl (R.idx (s := p0) sl40 rfl rfl h17 h18 h19) ?_
      refine DE.t 4 (v := (SV.v p1)) rfl (by kernel_rfl) (Wn.no rfl) rfl (R.move f12) ?_
      refine DE.t 5 (v := (Value.int .i64 x2)) rfl (by kernel_rfl) (Wn.no rfl) rfl (R.move f13) ?_
      obtain ⟨a20, h21, h22, h23, h⟩ := h
      refine DE.t 6 (v := (Value.pointer (some (a20.add (x2.toNat * 2))))) rfl (by kernel_rfl) (Wn.no rfl) rfl (R.idx (s := p1) sl40 rfl rfl h21 h22 h23) ?_
      obtain ⟨t24, h25, h⟩ := h
      obtain ⟨t26, h27, h⟩ := h
      refine DE.hold 3 (fun w => w.cell? (a16.add (x2.toNat * 2)) = some (Value.int .u32 t24) ∧ w.cell? ((a16.add (x2.toNat * 2)).add 1) = some (Value.int .i64 t26)) (v := (Value.agg #[(Value.int .u32 t24), (Value.int .i64 t26)])) rfl (by kernel_rfl) (Wn.no rfl) rfl ⟨h25, h27⟩ (fun w hs => R.ldA ag28 sz28 rfl rfl (Cs.cons hs.1 (Cs.cons hs.2 Cs.nil))) ?_
      obtain ⟨t28, h29, h⟩ := h
      obtain ⟨t30, h31, h⟩ := h
      refine DE.main 7 (by kernel_rfl) ?_
      refine One.r 7 (v := (Value.agg #[(Value.int .u32 t28), (Value.int .i64 t30)])) rfl (Wn.no rfl) rfl (R.ldA ag28 sz28 rfl rfl (Cs.cons h29 (Cs.cons h31 Cs.nil))) (.inl rfl) ?_
      refine DE.t 8 (v := (Value.bool (!((t24 == t28) && (t26 == t30))))) rfl (by kernel_rfl) (Wn.no rfl) rfl (R.neS (fun w => eq28 t24 t28 t26 t30 w) sg28 rfl rfl) ?_
      refine DE.done (by kernel_rfl) ?_
      refine WE.condT rfl (b := (!((t24 == t28) && (t26 == t30)))) rfl ?_ ?_
      · intro hb32
        replace h := M.ite_t h hb32
        refine WE.seq ?_
        refine WE.reg ?_
        refine LE.p (v := (Value.bool false)) (Wn.no rfl) rfl (R.assign rfl) ?_
        refine LE.nil ?_
        refine WE.ret ?_
        exact ⟨_, (Res.tmp rfl Res.nil), _, rfl, h⟩
      · intro hb32
        replace h := M.ite_f h hb32
        refine WE.skip ?_
        refine WE.reg ?_
        refine LE.p (v := (Value.int .i64 x2)) (Wn.no rfl) rfl (R.move f13) ?_
        refine LE.p (v := (Value.int .i64 (IntKind.i64.wrap (x2 + (1 : Int))))) (Wn.no rfl) rfl (R.add rfl rfl) ?_
        refine LE.p (v := (Value.int .i64 (IntKind.i64.wrap (x2 + (1 : Int))))) (Wn.no rfl) rfl (R.assign rfl) ?_
        refine LE.nil ?_
        obtain ⟨m9, hm10, h⟩ := h
        exact ⟨m9, hm10, _, h, f11, f12, rfl⟩
    · intro hb14
      replace h := M.ite_f h hb14
      refine WE.exit ?_
      refine WE.seq ?_
      refine WE.reg ?_
      refine LE.p (v := (Value.bool true)) (Wn.no rfl) rfl (R.assign rfl) ?_
      refine LE.nil ?_
      refine WE.ret ?_
      exact ⟨_, (Res.tmp rfl Res.nil), _, rfl, h⟩
/-- The formula of signpost.trie.New. -/
def F20  (K : Option Addr → World → Prop) (w0 : World) : Prop :=
M.new (.cells #[(Value.pointer (none : Option Addr)), (Value.pointer (none : Option Addr)), (Value.bool false), (Value.int .i64 (0 : Int)), (Value.int .i64 (0 : Int))] 86) w0 fun b2 w1 =>
K (some b2) w1
theorem F20_ok {w0 : World}  {K : Option Addr → World → Prop} (h : F20 K w0) : Calls Try.prog 20 #[] w0 (R20 K) := by
  refine calls_of_WE (args := []) (rs := [.tmp 0]) Try.func20 rfl (N := 3) rfl rfl rfl rfl ?_
  refine WE.seq ?_
  refine WE.reg ?_
  refine LE.p (v := (Value.pointer (none : Option Addr))) (Wn.no rfl) rfl (R.assign rfl) ?_
  refine LE.nil ?_
  refine WE.seq ?_
  refine WE.reg ?_
  refine LE.p (v := (Value.agg #[(Value.pointer (none : Option Addr)), (Value.pointer (none : Option Addr)), (Value.bool false), (Value.int .i64 (0 : Int)), (Value.int .i64 (0 : Int))])) (Wn.no rfl) rfl (R.bld (by exact Ls.nil) (fun w => bu86_  w)) ?_
  obtain ⟨b2, hpb2, w1, hww1, h⟩ := M.new_use h
  refine LE.r (v := (Value.pointer (some b2))) (Wn.no rfl) rfl (R.box (cs := #[(Value.pointer (none : Option Addr)), (Value.pointer (none : Option Addr)), (Value.bool false), (Value.int .i64 (0 : Int)), (Value.int .i64 (0 : Int))]) rfl rfl hpb2 hww1) ?_
  refine LE.p (v := (Value.pointer (some b2))) (Wn.no rfl) rfl (R.assign rfl) ?_
  refine LE.nil ?_
  refine WE.ret ?_
  exact ⟨_, (Res.tmp rfl Res.nil), _, rfl, h⟩
/-- The formula of signpost.signpostref1.Of. -/
def F21 (p0 : Int) (p1 : Int) (K : Int → Int → World → Prop) (w0 : World) : Prop :=
M.new (.cells #[(Value.int .u32 (0 : Int)), (Value.int .i64 (0 : Int))] 28) w0 fun b2 w1 =>
M.join (fun (x4 : Int) (w7 : World) => 
M.join (fun (x12 : Int) (w15 : World) => 
Calls Try.prog 35 #[(Value.int .i64 x12)] w15 (R35 fun r19 w20 =>
M.stA b2 [(Value.int .u32 (bAnd .u32 p0 r19)), (Value.int .i64 x12)] w20 fun w21 =>
M.ld (Value.int .u32) b2 w21 fun t23 =>
M.ld (Value.int .i64) (b2.add 1) w21 fun t25 =>
K t23 t25 w21)) fun J11 => 
M.ite (decide ((32 : Int) < x4)) (
J11 (32 : Int) w7) (
J11 x4 w7)) fun J3 => 
M.ite (decide (p1 < (0 : Int))) (
J3 (0 : Int) w1) (
J3 p1 w1)
theorem F21_ok {w0 : World} {p0 : Int} {p1 : Int} {K : Int → Int → World → Prop} (h : F21 p0 p1 K w0) : Calls Try.prog 21 #[(Value.int .u32 p0), (Value.int .i64 p1)] w0 (R21 K) := by
  refine calls_of_WE (args := [(Value.int .u32 p0), (Value.int .i64 p1)]) (rs := [.cell 4 28]) Try.func21 rfl (N := 15) rfl rfl rfl rfl ?_
  refine WE.seq ?_
  refine WE.reg ?_
  obtain ⟨b2, hpb2, w1, hww1, h⟩ := M.new_use h
  refine LE.r (v := (Value.pointer (some b2))) (Wn.no rfl) rfl (R.alloc (cs := #[(Value.int .u32 (0 : Int)), (Value.int .i64 (0 : Int))]) ze28 rfl hpb2 hww1) ?_
  refine LE.nil ?_
  obtain ⟨J3, hJ3, h⟩ := M.join_use h
  refine WE.join (fun e w => ∃ (x4 : Int), J3 x4 w ∧ e 0 = (Value.int .u32 p0) ∧ e 1 = (Value.int .i64 x4) ∧ e 4 = (Value.pointer (some b2))) ?_ ?_
  · clear hJ3
    refine WE.seq ?_
    refine WE.reg ?_
    refine LE.p (v := (Value.int .i64 p1)) (Wn.no rfl) rfl (R.move rfl) ?_
    refine LE.p (v := (Value.bool (decide (p1 < (0 : Int))))) (Wn.no rfl) rfl (R.lss rfl rfl) ?_
    refine LE.nil ?_
    refine WE.condT rfl (b := (decide (p1 < (0 : Int)))) rfl ?_ ?_
    · intro hb5
      replace h := M.ite_t h hb5
      refine WE.reg ?_
      refine LE.p (v := (Value.int .i64 (0 : Int))) (Wn.no rfl) rfl (R.assign rfl) ?_
      refine LE.nil ?_
      exact ⟨_, h, rfl, rfl, rfl⟩
    · intro hb5
      replace h := M.ite_f h hb5
      refine WE.skip ?_
      exact ⟨_, h, rfl, rfl, rfl⟩
  · rintro e6 w7 ⟨x4, h, f8, f9, f10⟩
    subst hJ3
    obtain ⟨J11, hJ11, h⟩ := M.join_use h
    refine WE.join (fun e w => ∃ (x12 : Int), J11 x12 w ∧ e 0 = (Value.int .u32 p0) ∧ e 1 = (Value.int .i64 x12) ∧ e 4 = (Value.pointer (some b2))) ?_ ?_
    · clear hJ11
      refine WE.seq ?_
      refine WE.reg ?_
      refine LE.p (v := (Value.int .i64 x4)) (Wn.no rfl) rfl (R.move f9) ?_
      refine LE.p (v := (Value.bool (decide ((32 : Int) < x4)))) (Wn.no rfl) rfl (R.gtr rfl rfl) ?_
      refine LE.nil ?_
      refine WE.condT rfl (b := (decide ((32 : Int) < x4))) rfl ?_ ?_
      · intro hb13
        replace h := M.ite_t h hb13
        refine WE.reg ?_
        refine LE.p (v := (Value.int .i64 (32 : Int))) (Wn.no rfl) rfl (R.assign rfl) ?_
        refine LE.nil ?_
        exact ⟨_, h, f8, rfl, f10⟩
      · intro hb13
        replace h := M.ite_f h hb13
        refine WE.skip ?_
        exact ⟨_, h, f8, f9, f10⟩
    · rintro e14 w15 ⟨x12, h, f16, f17, f18⟩
      subst hJ11
      refine WE.seq ?_
      refine WE.reg ?_
      refine LE.p (v := (Value.int .u32 p0)) (Wn.no rfl) rfl (R.move f16) ?_
      refine LE.p (v := (Value.int .i64 x12)) (Wn.no rfl) rfl (R.move f17) ?_
      refine LE.c (Wn.no rfl) rfl (R.call bd35 (Ls.cons rfl Ls.nil) rfl) (Calls.mono h ?_)
      rintro _ w20 ⟨r19, rfl, h⟩
      refine ⟨_, rfl, ?_⟩
      refine LE.p (v := (Value.int .u32 (bAnd .u32 p0 r19))) (Wn.no rfl) rfl (R.and rfl rfl) ?_
      refine LE.p (v := (Value.int .i64 x12)) (Wn.no rfl) rfl (R.move f17) ?_
      refine LE.p (v := (Value.agg #[(Value.int .u32 (bAnd .u32 p0 r19)), (Value.int .i64 x12)])) (Wn.no rfl) rfl (R.bld (by exact (Ls.cons (R.Pr rfl) (Ls.cons (R.Pr rfl) Ls.nil))) (fun w => bu28_0_1 (bAnd .u32 p0 r19) x12 w)) ?_
      obtain ⟨w21, hww21, h22, h⟩ := M.stA_use h
      refine LE.s (Wn.no rfl) rfl (R.stA (a := b2) [(Value.int .u32 (bAnd .u32 p0 r19)), (Value.int .i64 x12)] sz28 f18 rfl rfl (by simp [Value.oneCell']) h22 hww21) ?_
      refine LE.nil ?_
      refine WE.ret ?_
      obtain ⟨t23, h24, h⟩ := h
      obtain ⟨t25, h26, h⟩ := h
      exact ⟨_, (Res.cell f18 (R.ldCellA ag28 sz28 rfl (Cs.cons h24 (Cs.cons h26 Cs.nil))) Res.nil), _, _, rfl, h⟩
/-- The formula of signpost.igp.Right. -/
def F22 (p0_0 : Int) (p0_1 : Int) (p0_2 : Bool) (p0_3 : Int) (p0_4 : Int) (p0_5 : Nat) (K : Bool → World → Prop) (w0 : World) : Prop :=
M.new (.cells #[(Value.int .u32 p0_0), (Value.int .i64 p0_1), (Value.bool p0_2), (Value.int .i64 p0_3), (Value.int .u32 p0_4), (Value.float .f64 p0_5)] 32) w0 fun b2 w1 =>
M.join (fun (x4 : Bool) (w17 : World) => 
M.ite x4 (
K false w17) (
M.ld Value.bool (b2.add 2) w17 fun t21 =>
M.ite t21 (
M.join (fun (x25 : Bool) (w35 : World) => 
K x25 w35) fun J24 => 
M.ld (Value.int .i64) (b2.add 3) w17 fun t26 =>
M.ite (decide ((0 : Int) ≤ t26)) (
M.ld (Value.int .i64) (b2.add 3) w17 fun t29 =>
M.ite (decide (t29 ≤ (255 : Int))) (
M.ld (Value.int .u32) (b2.add 4) w17 fun t32 =>
J24 (t32 == (0 : Int)) w17) (
J24 false w17)) (
J24 false w17)) (
M.ld (Value.int .i64) (b2.add 3) w17 fun t37 =>
K (t37 == (0 : Int)) w17))) fun J3 => 
M.ld (Value.int .u32) b2 w1 fun t5 =>
M.ld (Value.int .i64) (b2.add 1) w1 fun t7 =>
Calls Try.prog 30 #[(Value.agg #[(Value.int .u32 t5), (Value.int .i64 t7)])] w1 (R30 fun r9 w10 =>
M.ite (!r9) (
J3 true w10) (
M.ld (Value.float .f64) (b2.add 5) w10 fun t12 =>
Calls Try.prog 36 #[(Value.float .f64 t12)] w10 (R36 fun r14 w15 =>
J3 (!r14) w15)))
theorem F22_ok {w0 : World} {p0_0 : Int} {p0_1 : Int} {p0_2 : Bool} {p0_3 : Int} {p0_4 : Int} {p0_5 : Nat} {K : Bool → World → Prop} (h : F22 p0_0 p0_1 p0_2 p0_3 p0_4 p0_5 K w0) : Calls Try.prog 22 #[(Value.agg #[(Value.int .u32 p0_0), (Value.int .i64 p0_1), (Value.bool p0_2), (Value.int .i64 p0_3), (Value.int .u32 p0_4), (Value.float .f64 p0_5)])] w0 (R22 K) := by
  refine calls_of_WE (args := [(Value.agg #[(Value.int .u32 p0_0), (Value.int .i64 p0_1), (Value.bool p0_2), (Value.int .i64 p0_3), (Value.int .u32 p0_4), (Value.float .f64 p0_5)])]) (rs := [.tmp 2]) Try.func22 rfl (N := 33) rfl rfl rfl rfl ?_
  refine WE.seq ?_
  refine WE.reg ?_
  obtain ⟨b2, hpb2, w1, hww1, h⟩ := M.new_use h
  refine LE.r (v := (Value.pointer (some b2))) (Wn.no rfl) rfl (R.box (cs := #[(Value.int .u32 p0_0), (Value.int .i64 p0_1), (Value.bool p0_2), (Value.int .i64 p0_3), (Value.int .u32 p0_4), (Value.float .f64 p0_5)]) rfl rfl hpb2 hww1) ?_
  refine LE.p (v := (Value.bool false)) (Wn.no rfl) rfl (R.assign rfl) ?_
  refine LE.nil ?_
  refine WE.seq ?_
  refine WE.block ?_
  refine WE.seq ?_
  obtain ⟨J3, hJ3, h⟩ := M.join_use h
  refine WE.regJ (fun e w => ∃ (x4 : Bool), J3 x4 w ∧ e 1 = (Value.pointer (some b2)) ∧ e 3 = (Value.bool x4)) ?_ ?_
  · clear hJ3
    refine LE.p (v := (Value.pointer (some b2))) (Wn.no rfl) rfl (R.fld (off := 0) fa32_0 rfl) ?_
    obtain ⟨t5, h6, h⟩ := h
    obtain ⟨t7, h8, h⟩ := h
    refine LE.r (v := (Value.agg #[(Value.int .u32 t5), (Value.int .i64 t7)])) (Wn.no rfl) rfl (R.ldA ag28 sz28 rfl rfl (Cs.cons h6 (Cs.cons h8 Cs.nil))) ?_
    refine LE.c (Wn.no rfl) rfl (R.call bd30 (Ls.cons rfl Ls.nil) rfl) (Calls.mono h ?_)
    rintro _ w10 ⟨r9, rfl, h⟩
    refine ⟨_, rfl, ?_⟩
    refine LE.p (v := (Value.bool (!r9))) (Wn.no rfl) rfl (R.not rfl) ?_
    refine LE.p (v := (Value.bool (!r9))) (Wn.no rfl) rfl (R.move rfl) ?_
    rcases M.ite_use h with ⟨hb11, h⟩ | ⟨hb11, h⟩
    · refine LE.u (Un.no 4 8 false rfl rfl rfl (congrArg Value.bool hb11)) ?_
      refine LE.u (Un.no 4 8 false rfl rfl rfl (congrArg Value.bool hb11)) ?_
      refine LE.u (Un.no 4 8 false rfl rfl rfl (congrArg Value.bool hb11)) ?_
      refine LE.u (Un.no 4 8 false rfl rfl rfl (congrArg Value.bool hb11)) ?_
      refine LE.p (v := (Value.bool true)) (Wn.no rfl) rfl (R.pickT (congrArg Value.bool hb11) rfl) ?_
      refine LE.p (v := (Value.bool true)) (Wn.no rfl) rfl (R.assign rfl) ?_
      refine LE.nil ?_
      exact ⟨_, h, rfl, rfl⟩
    · refine LE.p (v := (Value.pointer (some (b2.add 5)))) (Wn.yes 4 8 false rfl rfl rfl (congrArg Value.bool hb11)) rfl (R.fld (off := 5) fa32_4 rfl) ?_
      obtain ⟨t12, h13, h⟩ := h
      refine LE.r (v := (Value.float .f64 t12)) (Wn.yes 4 8 false rfl rfl rfl (congrArg Value.bool hb11)) rfl (R.ld sc22 rfl h13) ?_
      refine LE.c (Wn.yes 4 8 false rfl rfl rfl (congrArg Value.bool hb11)) rfl (R.call bd36 (Ls.cons rfl Ls.nil) rfl) (Calls.mono h ?_)
      rintro _ w15 ⟨r14, rfl, h⟩
      refine ⟨_, rfl, ?_⟩
      refine LE.p (v := (Value.bool (!r14))) (Wn.yes 4 8 false rfl rfl rfl (congrArg Value.bool hb11)) rfl (R.not rfl) ?_
      refine LE.p (v := (Value.bool (!r14))) (Wn.no rfl) rfl (R.pickF (congrArg Value.bool hb11) rfl) ?_
      refine LE.p (v := (Value.bool (!r14))) (Wn.no rfl) rfl (R.assign rfl) ?_
      refine LE.nil ?_
      exact ⟨_, h, rfl, rfl⟩
  · rintro e16 w17 ⟨x4, h, f18, f19⟩
    subst hJ3
    refine WE.condT rfl (b := x4) f19 ?_ ?_
    · intro hb20
      replace h := M.ite_t h hb20
      refine WE.seq ?_
      refine WE.reg ?_
      refine LE.p (v := (Value.bool false)) (Wn.no rfl) rfl (R.assign rfl) ?_
      refine LE.nil ?_
      refine WE.ret ?_
      exact ⟨_, (Res.tmp rfl Res.nil), _, rfl, h⟩
    · intro hb20
      replace h := M.ite_f h hb20
      refine WE.seq ?_
      refine WE.reg ?_
      refine LE.p (v := (Value.pointer (some (b2.add 2)))) (Wn.no rfl) rfl (R.fld (off := 2) fa32_1 f18) ?_
      obtain ⟨t21, h22, h⟩ := h
      refine LE.r (v := (Value.bool t21)) (Wn.no rfl) rfl (R.ld sc4 rfl h22) ?_
      refine LE.p (v := (Value.bool t21)) (Wn.no rfl) rfl (R.assign rfl) ?_
      refine LE.nil ?_
      refine WE.condT rfl (b := t21) rfl ?_ ?_
      · intro hb23
        replace h := M.ite_t h hb23
        refine WE.seq ?_
        obtain ⟨J24, hJ24, h⟩ := M.join_use h
        refine WE.regJ (fun e w => ∃ (x25 : Bool), J24 x25 w ∧ e 2 = (Value.bool x25)) ?_ ?_
        · clear hJ24
          refine LE.p (v := (Value.pointer (some (b2.add 3)))) (Wn.no rfl) rfl (R.fld (off := 3) fa32_2 f18) ?_
          obtain ⟨t26, h27, h⟩ := h
          refine LE.r (v := (Value.int .i64 t26)) (Wn.no rfl) rfl (R.ld sc3 rfl h27) ?_
          refine LE.p (v := (Value.bool (decide ((0 : Int) ≤ t26)))) (Wn.no rfl) rfl (R.geq rfl rfl) ?_
          refine LE.p (v := (Value.bool (decide ((0 : Int) ≤ t26)))) (Wn.no rfl) rfl (R.move rfl) ?_
          rcases M.ite_use h with ⟨hb28, h⟩ | ⟨hb28, h⟩
          · refine LE.p (v := (Value.pointer (some (b2.add 3)))) (Wn.yes 3 20 true rfl rfl rfl (congrArg Value.bool hb28)) rfl (R.fld (off := 3) fa32_2 f18) ?_
            obtain ⟨t29, h30, h⟩ := h
            refine LE.r (v := (Value.int .i64 t29)) (Wn.yes 3 20 true rfl rfl rfl (congrArg Value.bool hb28)) rfl (R.ld sc3 rfl h30) ?_
            refine LE.p (v := (Value.bool (decide (t29 ≤ (255 : Int))))) (Wn.yes 3 20 true rfl rfl rfl (congrArg Value.bool hb28)) rfl (R.leq rfl rfl) ?_
            refine LE.p (v := (Value.bool (decide (t29 ≤ (255 : Int))))) (Wn.no rfl) rfl (R.pickT (congrArg Value.bool hb28) rfl) ?_
            refine LE.p (v := (Value.bool (decide (t29 ≤ (255 : Int))))) (Wn.no rfl) rfl (R.move rfl) ?_
            rcases M.ite_use h with ⟨hb31, h⟩ | ⟨hb31, h⟩
            · refine LE.p (v := (Value.pointer (some (b2.add 4)))) (Wn.yes 8 25 true rfl rfl rfl (congrArg Value.bool hb31)) rfl (R.fld (off := 4) fa32_3 f18) ?_
              obtain ⟨t32, h33, h⟩ := h
              refine LE.r (v := (Value.int .u32 t32)) (Wn.yes 8 25 true rfl rfl rfl (congrArg Value.bool hb31)) rfl (R.ld sc26 rfl h33) ?_
              refine LE.p (v := (Value.bool (t32 == (0 : Int)))) (Wn.yes 8 25 true rfl rfl rfl (congrArg Value.bool hb31)) rfl (R.eql rfl rfl) ?_
              refine LE.p (v := (Value.bool (t32 == (0 : Int)))) (Wn.no rfl) rfl (R.pickT (congrArg Value.bool hb31) rfl) ?_
              refine LE.p (v := (Value.bool (t32 == (0 : Int)))) (Wn.no rfl) rfl (R.assign rfl) ?_
              refine LE.nil ?_
              exact ⟨_, h, rfl⟩
            · refine LE.u (Un.no 8 25 true rfl rfl rfl (congrArg Value.bool hb31)) ?_
              refine LE.u (Un.no 8 25 true rfl rfl rfl (congrArg Value.bool hb31)) ?_
              refine LE.u (Un.no 8 25 true rfl rfl rfl (congrArg Value.bool hb31)) ?_
              refine LE.p (v := (Value.bool false)) (Wn.no rfl) rfl (R.pickF (congrArg Value.bool hb31) rfl) ?_
              refine LE.p (v := (Value.bool false)) (Wn.no rfl) rfl (R.assign rfl) ?_
              refine LE.nil ?_
              exact ⟨_, h, rfl⟩
          · refine LE.u (Un.no 3 20 true rfl rfl rfl (congrArg Value.bool hb28)) ?_
            refine LE.u (Un.no 3 20 true rfl rfl rfl (congrArg Value.bool hb28)) ?_
            refine LE.u (Un.no 3 20 true rfl rfl rfl (congrArg Value.bool hb28)) ?_
            refine LE.p (v := (Value.bool false)) (Wn.no rfl) rfl (R.pickF (congrArg Value.bool hb28) rfl) ?_
            refine LE.p (v := (Value.bool false)) (Wn.no rfl) rfl (R.move rfl) ?_
            refine LE.u (Un.no 8 25 true rfl rfl rfl rfl) ?_
            refine LE.u (Un.no 8 25 true rfl rfl rfl rfl) ?_
            refine LE.u (Un.no 8 25 true rfl rfl rfl rfl) ?_
            refine LE.p (v := (Value.bool false)) (Wn.no rfl) rfl (R.pickF rfl rfl) ?_
            refine LE.p (v := (Value.bool false)) (Wn.no rfl) rfl (R.assign rfl) ?_
            refine LE.nil ?_
            exact ⟨_, h, rfl⟩
        · rintro e34 w35 ⟨x25, h, f36⟩
          subst hJ24
          refine WE.ret ?_
          exact ⟨_, (Res.tmp f36 Res.nil), _, rfl, h⟩
      · intro hb23
        replace h := M.ite_f h hb23
        refine WE.skip ?_
        refine WE.seq ?_
        refine WE.reg ?_
        refine LE.p (v := (Value.pointer (some (b2.add 3)))) (Wn.no rfl) rfl (R.fld (off := 3) fa32_2 f18) ?_
        obtain ⟨t37, h38, h⟩ := h
        refine LE.r (v := (Value.int .i64 t37)) (Wn.no rfl) rfl (R.ld sc3 rfl h38) ?_
        refine LE.p (v := (Value.bool (t37 == (0 : Int)))) (Wn.no rfl) rfl (R.eql rfl rfl) ?_
        refine LE.p (v := (Value.bool (t37 == (0 : Int)))) (Wn.no rfl) rfl (R.assign rfl) ?_
        refine LE.nil ?_
        refine WE.ret ?_
        exact ⟨_, (Res.tmp rfl Res.nil), _, rfl, h⟩
/-- The formula of signpost.metric.Clean. -/
def F23 (p0 : Nat) (K : Nat → World → Prop) (w0 : World) : Prop :=
Calls Try.prog 36 #[(Value.float .f64 p0)] w0 (R36 fun r1 w2 =>
M.ite (!r1) (
Calls Try.prog 37 #[(Value.int .i64 (1 : Int))] w2 (R37 fun r4 w5 =>
K r4 w5)) (
M.ite (fEql p0 (0 : Nat)) (
K (0 : Nat) w2) (
K p0 w2)))
theorem F23_ok {w0 : World} {p0 : Nat} {K : Nat → World → Prop} (h : F23 p0 K w0) : Calls Try.prog 23 #[(Value.float .f64 p0)] w0 (R23 K) := by
  refine calls_of_WE (args := [(Value.float .f64 p0)]) (rs := [.tmp 2]) Try.func23 rfl (N := 12) rfl rfl rfl rfl ?_
  refine WE.seq ?_
  refine WE.reg ?_
  refine LE.p (v := (Value.float .f64 (0 : Nat))) (Wn.no rfl) rfl (R.assign rfl) ?_
  refine LE.nil ?_
  refine WE.seq ?_
  refine WE.block ?_
  refine WE.seq ?_
  refine WE.reg ?_
  refine LE.p (v := (Value.float .f64 p0)) (Wn.no rfl) rfl (R.move rfl) ?_
  refine LE.c (Wn.no rfl) rfl (R.call bd36 (Ls.cons rfl Ls.nil) rfl) (Calls.mono h ?_)
  rintro _ w2 ⟨r1, rfl, h⟩
  refine ⟨_, rfl, ?_⟩
  refine LE.p (v := (Value.bool (!r1))) (Wn.no rfl) rfl (R.not rfl) ?_
  refine LE.p (v := (Value.bool (!r1))) (Wn.no rfl) rfl (R.assign rfl) ?_
  refine LE.nil ?_
  refine WE.condT rfl (b := (!r1)) rfl ?_ ?_
  · intro hb3
    replace h := M.ite_t h hb3
    refine WE.seq ?_
    refine WE.reg ?_
    refine LE.c (Wn.no rfl) rfl (R.call bd37 (Ls.cons rfl Ls.nil) rfl) (Calls.mono h ?_)
    rintro _ w5 ⟨r4, rfl, h⟩
    refine ⟨_, rfl, ?_⟩
    refine LE.p (v := (Value.float .f64 r4)) (Wn.no rfl) rfl (R.assign rfl) ?_
    refine LE.nil ?_
    refine WE.ret ?_
    exact ⟨_, (Res.tmp rfl Res.nil), _, rfl, h⟩
  · intro hb3
    replace h := M.ite_f h hb3
    refine WE.seq ?_
    refine WE.reg ?_
    refine LE.p (v := (Value.float .f64 p0)) (Wn.no rfl) rfl (R.move rfl) ?_
    refine LE.p (v := (Value.bool (fEql p0 (0 : Nat)))) (Wn.no rfl) rfl (R.feql rfl rfl) ?_
    refine LE.p (v := (Value.bool (fEql p0 (0 : Nat)))) (Wn.no rfl) rfl (R.assign rfl) ?_
    refine LE.nil ?_
    refine WE.condT rfl (b := (fEql p0 (0 : Nat))) rfl ?_ ?_
    · intro hb6
      replace h := M.ite_t h hb6
      refine WE.seq ?_
      refine WE.reg ?_
      refine LE.p (v := (Value.float .f64 (0 : Nat))) (Wn.no rfl) rfl (R.assign rfl) ?_
      refine LE.nil ?_
      refine WE.ret ?_
      exact ⟨_, (Res.tmp rfl Res.nil), _, rfl, h⟩
    · intro hb6
      replace h := M.ite_f h hb6
      refine WE.skip ?_
      refine WE.seq ?_
      refine WE.reg ?_
      refine LE.p (v := (Value.float .f64 p0)) (Wn.no rfl) rfl (R.move rfl) ?_
      refine LE.p (v := (Value.float .f64 p0)) (Wn.no rfl) rfl (R.assign rfl) ?_
      refine LE.nil ?_
      refine WE.ret ?_
      exact ⟨_, (Res.tmp rfl Res.nil), _, rfl, h⟩
/-- The formula of (*signpost.trie.Trie).Put. -/
def F24 (p0 : Option Addr) (p1_0 : Int) (p1_1 : Int) (p2 : Int) (K : Bool → World → Prop) (w0 : World) : Prop :=
M.new (.cells #[(Value.int .u32 p1_0), (Value.int .i64 p1_1)] 28) w0 fun b2 w1 =>
M.ld (Value.int .u32) b2 w1 fun t3 =>
M.ld (Value.int .i64) (b2.add 1) w1 fun t5 =>
Calls Try.prog 30 #[(Value.agg #[(Value.int .u32 t3), (Value.int .i64 t5)])] w1 (R30 fun r7 w8 =>
M.ite (!r7) (
K false w8) (
M.nil p0 fun a10 =>
M.ld (Value.int .i64) (b2.add 1) w8 fun t12 =>
M.loop2 (fun (J16 : Option Addr → Int → World → Prop) (x14 : Option Addr) (x15 : Int) (w17 : World) => 
M.ite (decide (x15 < t12)) (
M.ld (Value.int .u32) b2 w17 fun t31 =>
Calls Try.prog 38 #[(Value.int .u32 t31), (Value.int .i64 x15)] w17 (R38 fun r33 w34 =>
M.join (fun (w53 : World) => 
M.nil x14 fun a61 =>
M.inb r33 2 <|
M.ld Value.pointer (a61.add (r33.toNat * 1)) w53 fun t65 =>
J16 t65 (IntKind.i64.wrap (x15 + (1 : Int))) w53) fun J35 => 
M.nil x14 fun a36 =>
M.inb r33 2 <|
M.ld Value.pointer (a36.add (r33.toNat * 1)) w34 fun t40 =>
M.ite (Option.isNone t40) (
M.new (.cells #[(Value.pointer (none : Option Addr)), (Value.pointer (none : Option Addr)), (Value.bool false), (Value.int .i64 (0 : Int))] 84) w34 fun b44 w43 =>
M.nil x14 fun a45 =>
M.inb r33 2 <|
M.st (a45.add (r33.toNat * 1)) (Value.pointer (some b44)) w43 fun w49 =>
J35 w49) (
J35 w34))) (
M.nil x14 fun a67 =>
M.ld Value.bool (a67.add 2) w17 fun t69 =>
M.nil x14 fun a71 =>
M.st (a71.add 2) (Value.bool true) w17 fun w73 =>
M.nil x14 fun a76 =>
M.st (a76.add 3) (Value.int .i64 p2) w73 fun w78 =>
M.join (fun (w93 : World) => 
K (!t69) w93) fun J81 => 
M.ite (!t69) (
M.nil p0 fun a83 =>
M.ld (Value.int .i64) (a83.add 4) w78 fun t85 =>
M.nil p0 fun a87 =>
M.st (a87.add 4) (Value.int .i64 (IntKind.i64.wrap (t85 + (1 : Int)))) w78 fun w89 =>
J81 w89) (
J81 w78))) (some a10) (0 : Int) w8))
theorem F24_ok {w0 : World} {p0 : Option Addr} {p1_0 : Int} {p1_1 : Int} {p2 : Int} {K : Bool → World → Prop} (h : F24 p0 p1_0 p1_1 p2 K w0) : Calls Try.prog 24 #[(Value.pointer p0), (Value.agg #[(Value.int .u32 p1_0), (Value.int .i64 p1_1)]), (Value.int .i64 p2)] w0 (R24 K) := by
  refine calls_of_WE (args := [(Value.pointer p0), (Value.agg #[(Value.int .u32 p1_0), (Value.int .i64 p1_1)]), (Value.int .i64 p2)]) (rs := [.tmp 6]) Try.func24 rfl (N := 68) rfl rfl rfl rfl ?_
  refine WE.seq ?_
  refine WE.reg ?_
  obtain ⟨b2, hpb2, w1, hww1, h⟩ := M.new_use h
  refine LE.r (v := (Value.pointer (some b2))) (Wn.no rfl) rfl (R.box (cs := #[(Value.int .u32 p1_0), (Value.int .i64 p1_1)]) rfl rfl hpb2 hww1) ?_
  refine LE.p (v := (Value.bool false)) (Wn.no rfl) rfl (R.assign rfl) ?_
  refine LE.nil ?_
  refine WE.seq ?_
  refine WE.seq ?_
  refine WE.reg ?_
  obtain ⟨t3, h4, h⟩ := h
  obtain ⟨t5, h6, h⟩ := h
  refine LE.r (v := (Value.agg #[(Value.int .u32 t3), (Value.int .i64 t5)])) (Wn.no rfl) rfl (R.ldA ag28 sz28 rfl rfl (Cs.cons h4 (Cs.cons h6 Cs.nil))) ?_
  refine LE.c (Wn.no rfl) rfl (R.call bd30 (Ls.cons rfl Ls.nil) rfl) (Calls.mono h ?_)
  rintro _ w8 ⟨r7, rfl, h⟩
  refine ⟨_, rfl, ?_⟩
  refine LE.p (v := (Value.bool (!r7))) (Wn.no rfl) rfl (R.not rfl) ?_
  refine LE.nil ?_
  refine WE.condT rfl (b := (!r7)) rfl ?_ ?_
  · intro hb9
    replace h := M.ite_t h hb9
    refine WE.seq ?_
    refine WE.reg ?_
    refine LE.p (v := (Value.bool false)) (Wn.no rfl) rfl (R.assign rfl) ?_
    refine LE.nil ?_
    refine WE.ret ?_
    exact ⟨_, (Res.tmp rfl Res.nil), _, rfl, h⟩
  · intro hb9
    replace h := M.ite_f h hb9
    refine WE.skip ?_
    refine WE.seq ?_
    refine WE.reg ?_
    refine LE.p (v := (Value.pointer p0)) (Wn.no rfl) rfl (R.move rfl) ?_
    obtain ⟨a10, h11, h⟩ := h
    refine LE.p (v := (Value.pointer (some a10))) (Wn.no rfl) rfl (R.nilC (congrArg Value.pointer h11)) ?_
    refine LE.p (v := (Value.pointer (some a10))) (Wn.no rfl) rfl (R.fld (off := 0) fa86_0 rfl) ?_
    refine LE.p (v := (Value.pointer (some a10))) (Wn.no rfl) rfl (R.assign rfl) ?_
    refine LE.nil ?_
    refine WE.seq ?_
    refine WE.seq ?_
    refine WE.reg ?_
    refine LE.p (v := (Value.pointer (some (b2.add 1)))) (Wn.no rfl) rfl (R.fld (off := 1) fa28_1 rfl) ?_
    obtain ⟨t12, h13, h⟩ := h
    refine LE.r (v := (Value.int .i64 t12)) (Wn.no rfl) rfl (R.ld sc3 rfl h13) ?_
    refine LE.p (v := (Value.int .i64 (0 : Int))) (Wn.no rfl) rfl (R.move rfl) ?_
    refine LE.nil ?_
    refine WE.block ?_
    obtain ⟨I20, ⟨n19, h⟩, hr21⟩ := h
    refine WE.loop (fun n e w => ∃ (x14 : Option Addr) (x15 : Int), I20 n x14 x15 w ∧ e 0 = (Value.pointer p0) ∧ e 2 = (Value.int .i64 p2) ∧ e 4 = (Value.pointer (some b2)) ∧ e 7 = (Value.pointer x14) ∧ e 18 = (Value.int .i64 t12) ∧ e 19 = (Value.int .i64 x15)) n19 ⟨_, _, h, rfl, rfl, rfl, rfl, rfl, rfl⟩ ?_
    clear h
    rintro n19 e18 w17 ⟨x14, x15, h, f24, f25, f26, f27, f28, f29⟩
    replace h := hr21 n19 x14 x15 w17 h
    refine WE.seq ?_
    refine WE.reg ?_
    refine LE.p (v := (Value.bool (decide (x15 < t12)))) (Wn.no rfl) rfl (R.lss f29 f28) ?_
    refine LE.nil ?_
    refine WE.seq ?_
    refine WE.condT rfl (b := (decide (x15 < t12))) rfl ?_ ?_
    · intro hb30
      replace h := M.ite_t h hb30
      refine WE.skip ?_
      refine WE.seq ?_
      refine WE.block ?_
      refine WE.seq ?_
      refine WE.reg ?_
      refine LE.p (v := (Value.int .i64 x15)) (Wn.no rfl) rfl (R.move f29) ?_
      refine LE.p (v := (Value.int .i64 x15)) (Wn.no rfl) rfl (R.assign rfl) ?_
      refine LE.nil ?_
      refine WE.seq ?_
      refine WE.reg ?_
      refine LE.p (v := (Value.pointer (some b2))) (Wn.no rfl) rfl (R.fld (off := 0) fa28_0 f26) ?_
      obtain ⟨t31, h32, h⟩ := h
      refine LE.r (v := (Value.int .u32 t31)) (Wn.no rfl) rfl (R.ld sc26 rfl h32) ?_
      refine LE.p (v := (Value.int .i64 x15)) (Wn.no rfl) rfl (R.move rfl) ?_
      refine LE.c (Wn.no rfl) rfl (R.call bd38 (Ls.cons rfl (Ls.cons rfl Ls.nil)) rfl) (Calls.mono h ?_)
      rintro _ w34 ⟨r33, rfl, h⟩
      refine ⟨_, rfl, ?_⟩
      refine LE.p (v := (Value.int .i64 r33)) (Wn.no rfl) rfl (R.assign rfl) ?_
      refine LE.nil ?_
      obtain ⟨J35, hJ35, h⟩ := M.join_use h
      refine WE.join (fun e w => J35 w ∧ e 0 = (Value.pointer p0) ∧ e 2 = (Value.int .i64 p2) ∧ e 4 = (Value.pointer (some b2)) ∧ e 7 = (Value.pointer x14) ∧ e 9 = (Value.int .i64 r33) ∧ e 18 = (Value.int .i64 t12) ∧ e 19 = (Value.int .i64 x15)) ?_ ?_
      · clear hJ35
        refine WE.seq ?_
        refine WE.reg ?_
        refine LE.p (v := (Value.pointer x14)) (Wn.no rfl) rfl (R.move f27) ?_
        refine LE.p (v := (Value.int .i64 r33)) (Wn.no rfl) rfl (R.move rfl) ?_
        obtain ⟨a36, h37, h⟩ := h
        refine LE.p (v := (Value.pointer (some a36))) (Wn.no rfl) rfl (R.nilC (congrArg Value.pointer h37)) ?_
        refine LE.p (v := (Value.pointer (some a36))) (Wn.no rfl) rfl (R.fld (off := 0) fa84_0 rfl) ?_
        obtain ⟨h38, h39, h⟩ := h
        refine LE.p (v := (Value.pointer (some (a36.add (r33.toNat * 1))))) (Wn.no rfl) rfl (R.idxArr ar82 rfl rfl h38 h39) ?_
        obtain ⟨t40, h41, h⟩ := h
        refine LE.r (v := (Value.pointer t40)) (Wn.no rfl) rfl (R.ld sc81 rfl h41) ?_
        refine LE.p (v := (Value.bool (Option.isNone t40))) (Wn.no rfl) rfl (R.peqNil pt81 rfl rfl) ?_
        refine LE.nil ?_
        refine WE.condT rfl (b := (Option.isNone t40)) rfl ?_ ?_
        · intro hb42
          replace h := M.ite_t h hb42
          refine WE.reg ?_
          refine LE.p (v := (Value.pointer x14)) (Wn.no rfl) rfl (R.move f27) ?_
          refine LE.p (v := (Value.int .i64 r33)) (Wn.no rfl) rfl (R.move rfl) ?_
          refine LE.p (v := (Value.agg #[(Value.pointer (none : Option Addr)), (Value.pointer (none : Option Addr)), (Value.bool false), (Value.int .i64 (0 : Int))])) (Wn.no rfl) rfl (R.bld (by exact Ls.nil) (fun w => bu84_  w)) ?_
          obtain ⟨b44, hpb44, w43, hww43, h⟩ := M.new_use h
          refine LE.r (v := (Value.pointer (some b44))) (Wn.no rfl) rfl (R.box (cs := #[(Value.pointer (none : Option Addr)), (Value.pointer (none : Option Addr)), (Value.bool false), (Value.int .i64 (0 : Int))]) rfl rfl hpb44 hww43) ?_
          obtain ⟨a45, h46, h⟩ := h
          refine LE.p (v := (Value.pointer (some a45))) (Wn.no rfl) rfl (R.nilC (congrArg Value.pointer h46)) ?_
          refine LE.p (v := (Value.pointer (some a45))) (Wn.no rfl) rfl (R.fld (off := 0) fa84_0 rfl) ?_
          obtain ⟨h47, h48, h⟩ := h
          refine LE.p (v := (Value.pointer (some (a45.add (r33.toNat * 1))))) (Wn.no rfl) rfl (R.idxArr ar82 rfl rfl h47 h48) ?_
          obtain ⟨w49, hww49, h50, h51, h⟩ := M.st_use h
          refine LE.s (Wn.no rfl) rfl (R.st (a := (a45.add (r33.toNat * 1))) (v := (Value.pointer (some b44))) sz81 rfl rfl rfl rfl h50 h51 hww49) ?_
          refine LE.nil ?_
          exact ⟨h, f24, f25, f26, f27, rfl, f28, f29⟩
        · intro hb42
          replace h := M.ite_f h hb42
          refine WE.skip ?_
          exact ⟨h, f24, f25, f26, f27, rfl, f28, f29⟩
      · rintro e52 w53 ⟨h, f54, f55, f56, f57, f58, f59, f60⟩
        subst hJ35
        refine WE.reg ?_
        refine LE.p (v := (Value.pointer x14)) (Wn.no rfl) rfl (R.move f57) ?_
        refine LE.p (v := (Value.int .i64 r33)) (Wn.no rfl) rfl (R.move f58) ?_
        obtain ⟨a61, h62, h⟩ := h
        refine LE.p (v := (Value.pointer (some a61))) (Wn.no rfl) rfl (R.nilC (congrArg Value.pointer h62)) ?_
        refine LE.p (v := (Value.pointer (some a61))) (Wn.no rfl) rfl (R.fld (off := 0) fa84_0 rfl) ?_
        obtain ⟨h63, h64, h⟩ := h
        refine LE.p (v := (Value.pointer (some (a61.add (r33.toNat * 1))))) (Wn.no rfl) rfl (R.idxArr ar82 rfl rfl h63 h64) ?_
        obtain ⟨t65, h66, h⟩ := h
        refine LE.r (v := (Value.pointer t65)) (Wn.no rfl) rfl (R.ld sc81 rfl h66) ?_
        refine LE.p (v := (Value.pointer t65)) (Wn.no rfl) rfl (R.assign rfl) ?_
        refine LE.nil ?_
        refine WE.reg ?_
        refine LE.p (v := (Value.int .i64 (IntKind.i64.wrap (x15 + (1 : Int))))) (Wn.no rfl) rfl (R.add f60 rfl) ?_
        refine LE.p (v := (Value.int .i64 (IntKind.i64.wrap (x15 + (1 : Int))))) (Wn.no rfl) rfl (R.move rfl) ?_
        refine LE.nil ?_
        obtain ⟨m22, hm23, h⟩ := h
        exact ⟨m22, hm23, _, _, h, f54, f55, f56, rfl, f59, rfl⟩
    · intro hb30
      replace h := M.ite_f h hb30
      refine WE.exit ?_
      refine WE.seq ?_
      refine WE.reg ?_
      refine LE.p (v := (Value.pointer x14)) (Wn.no rfl) rfl (R.move f27) ?_
      obtain ⟨a67, h68, h⟩ := h
      refine LE.p (v := (Value.pointer (some a67))) (Wn.no rfl) rfl (R.nilC (congrArg Value.pointer h68)) ?_
      refine LE.p (v := (Value.pointer (some (a67.add 2)))) (Wn.no rfl) rfl (R.fld (off := 2) fa84_1 rfl) ?_
      obtain ⟨t69, h70, h⟩ := h
      refine LE.r (v := (Value.bool t69)) (Wn.no rfl) rfl (R.ld sc4 rfl h70) ?_
      refine LE.p (v := (Value.bool (!t69))) (Wn.no rfl) rfl (R.not rfl) ?_
      refine LE.p (v := (Value.bool (!t69))) (Wn.no rfl) rfl (R.assign rfl) ?_
      refine LE.nil ?_
      refine WE.seq ?_
      refine WE.reg ?_
      refine LE.p (v := (Value.pointer x14)) (Wn.no rfl) rfl (R.move f27) ?_
      refine LE.p (v := (Value.pointer x14)) (Wn.no rfl) rfl (R.move f27) ?_
      refine LE.p (v := (Value.int .i64 p2)) (Wn.no rfl) rfl (R.move f25) ?_
      obtain ⟨a71, h72, h⟩ := h
      refine LE.p (v := (Value.pointer (some a71))) (Wn.no rfl) rfl (R.nilC (congrArg Value.pointer h72)) ?_
      refine LE.p (v := (Value.pointer (some (a71.add 2)))) (Wn.no rfl) rfl (R.fld (off := 2) fa84_1 rfl) ?_
      obtain ⟨w73, hww73, h74, h75, h⟩ := M.st_use h
      refine LE.s (Wn.no rfl) rfl (R.st (a := (a71.add 2)) (v := (Value.bool true)) sz4 rfl rfl rfl rfl h74 h75 hww73) ?_
      obtain ⟨a76, h77, h⟩ := h
      refine LE.p (v := (Value.pointer (some a76))) (Wn.no rfl) rfl (R.nilC (congrArg Value.pointer h77)) ?_
      refine LE.p (v := (Value.pointer (some (a76.add 3)))) (Wn.no rfl) rfl (R.fld (off := 3) fa84_2 rfl) ?_
      obtain ⟨w78, hww78, h79, h80, h⟩ := M.st_use h
      refine LE.s (Wn.no rfl) rfl (R.st (a := (a76.add 3)) (v := (Value.int .i64 p2)) sz3 rfl rfl rfl rfl h79 h80 hww78) ?_
      refine LE.nil ?_
      obtain ⟨J81, hJ81, h⟩ := M.join_use h
      refine WE.join (fun e w => J81 w ∧ e 10 = (Value.bool (!t69))) ?_ ?_
      · clear hJ81
        refine WE.seq ?_
        refine WE.reg ?_
        refine LE.p (v := (Value.bool (!t69))) (Wn.no rfl) rfl (R.move rfl) ?_
        refine LE.nil ?_
        refine WE.condT rfl (b := (!t69)) rfl ?_ ?_
        · intro hb82
          replace h := M.ite_t h hb82
          refine WE.reg ?_
          refine LE.p (v := (Value.pointer p0)) (Wn.no rfl) rfl (R.move f24) ?_
          obtain ⟨a83, h84, h⟩ := h
          refine LE.p (v := (Value.pointer (some a83))) (Wn.no rfl) rfl (R.nilC (congrArg Value.pointer h84)) ?_
          refine LE.p (v := (Value.pointer (some (a83.add 4)))) (Wn.no rfl) rfl (R.fld (off := 4) fa86_1 rfl) ?_
          obtain ⟨t85, h86, h⟩ := h
          refine LE.r (v := (Value.int .i64 t85)) (Wn.no rfl) rfl (R.ld sc3 rfl h86) ?_
          refine LE.p (v := (Value.int .i64 (IntKind.i64.wrap (t85 + (1 : Int))))) (Wn.no rfl) rfl (R.add rfl rfl) ?_
          obtain ⟨a87, h88, h⟩ := h
          refine LE.p (v := (Value.pointer (some a87))) (Wn.no rfl) rfl (R.nilC (congrArg Value.pointer h88)) ?_
          refine LE.p (v := (Value.pointer (some (a87.add 4)))) (Wn.no rfl) rfl (R.fld (off := 4) fa86_1 rfl) ?_
          obtain ⟨w89, hww89, h90, h91, h⟩ := M.st_use h
          refine LE.s (Wn.no rfl) rfl (R.st (a := (a87.add 4)) (v := (Value.int .i64 (IntKind.i64.wrap (t85 + (1 : Int))))) sz3 rfl rfl rfl rfl h90 h91 hww89) ?_
          refine LE.nil ?_
          exact ⟨h, rfl⟩
        · intro hb82
          replace h := M.ite_f h hb82
          refine WE.skip ?_
          exact ⟨h, rfl⟩
      · rintro e92 w93 ⟨h, f94⟩
        subst hJ81
        refine WE.seq ?_
        refine WE.reg ?_
        refine LE.p (v := (Value.bool (!t69))) (Wn.no rfl) rfl (R.move f94) ?_
        refine LE.p (v := (Value.bool (!t69))) (Wn.no rfl) rfl (R.assign rfl) ?_
        refine LE.nil ?_
        refine WE.ret ?_
        exact ⟨_, (Res.tmp rfl Res.nil), _, rfl, h⟩
/-- The formula of math.IsInf. -/
def F25 (p0 : Nat) (p1 : Int) (K : Bool → World → Prop) (w0 : World) : Prop :=
M.join (fun (x2 : Nat) (w8 : World) => 
K (fGtr x2 (9218868437227405311 : Nat)) w8) fun J1 => 
M.ite (p1 == (0 : Int)) (
Calls Try.prog 39 #[(Value.float .f64 p0)] w0 (R39 fun r4 w5 =>
J1 r4 w5)) (
M.ite (decide (p1 < (0 : Int))) (
J1 (fNeg p0) w0) (
J1 p0 w0))
theorem F25_ok {w0 : World} {p0 : Nat} {p1 : Int} {K : Bool → World → Prop} (h : F25 p0 p1 K w0) : Calls Try.prog 25 #[(Value.float .f64 p0), (Value.int .i64 p1)] w0 (R25 K) := by
  refine calls_of_WE (args := [(Value.float .f64 p0), (Value.int .i64 p1)]) (rs := [.tmp 4]) Try.func25 rfl (N := 15) rfl rfl rfl rfl ?_
  refine WE.seq ?_
  refine WE.reg ?_
  refine LE.p (v := (Value.bool false)) (Wn.no rfl) rfl (R.assign rfl) ?_
  refine LE.nil ?_
  obtain ⟨J1, hJ1, h⟩ := M.join_use h
  refine WE.join (fun e w => ∃ (x2 : Nat), J1 x2 w ∧ e 0 = (Value.float .f64 x2)) ?_ ?_
  · clear hJ1
    refine WE.seq ?_
    refine WE.reg ?_
    refine LE.p (v := (Value.int .i64 p1)) (Wn.no rfl) rfl (R.move rfl) ?_
    refine LE.p (v := (Value.bool (p1 == (0 : Int)))) (Wn.no rfl) rfl (R.eql rfl rfl) ?_
    refine LE.nil ?_
    refine WE.condT rfl (b := (p1 == (0 : Int))) rfl ?_ ?_
    · intro hb3
      replace h := M.ite_t h hb3
      refine WE.reg ?_
      refine LE.p (v := (Value.float .f64 p0)) (Wn.no rfl) rfl (R.move rfl) ?_
      refine LE.c (Wn.no rfl) rfl (R.call bd39 (Ls.cons rfl Ls.nil) rfl) (Calls.mono h ?_)
      rintro _ w5 ⟨r4, rfl, h⟩
      refine ⟨_, rfl, ?_⟩
      refine LE.p (v := (Value.float .f64 r4)) (Wn.no rfl) rfl (R.assign rfl) ?_
      refine LE.nil ?_
      exact ⟨_, h, rfl⟩
    · intro hb3
      replace h := M.ite_f h hb3
      refine WE.seq ?_
      refine WE.reg ?_
      refine LE.p (v := (Value.int .i64 p1)) (Wn.no rfl) rfl (R.move rfl) ?_
      refine LE.p (v := (Value.bool (decide (p1 < (0 : Int))))) (Wn.no rfl) rfl (R.lss rfl rfl) ?_
      refine LE.nil ?_
      refine WE.condT rfl (b := (decide (p1 < (0 : Int)))) rfl ?_ ?_
      · intro hb6
        replace h := M.ite_t h hb6
        refine WE.reg ?_
        refine LE.p (v := (Value.float .f64 p0)) (Wn.no rfl) rfl (R.move rfl) ?_
        refine LE.p (v := (Value.float .f64 (fNeg p0))) (Wn.no rfl) rfl (R.fneg rfl) ?_
        refine LE.p (v := (Value.float .f64 (fNeg p0))) (Wn.no rfl) rfl (R.assign rfl) ?_
        refine LE.nil ?_
        exact ⟨_, h, rfl⟩
      · intro hb6
        replace h := M.ite_f h hb6
        refine WE.skip ?_
        exact ⟨_, h, rfl⟩
  · rintro e7 w8 ⟨x2, h, f9⟩
    subst hJ1
    refine WE.seq ?_
    refine WE.reg ?_
    refine LE.p (v := (Value.float .f64 x2)) (Wn.no rfl) rfl (R.move f9) ?_
    refine LE.p (v := (Value.bool (fGtr x2 (9218868437227405311 : Nat)))) (Wn.no rfl) rfl (R.fgtr rfl rfl) ?_
    refine LE.p (v := (Value.bool (fGtr x2 (9218868437227405311 : Nat)))) (Wn.no rfl) rfl (R.assign rfl) ?_
    refine LE.nil ?_
    refine WE.ret ?_
    exact ⟨_, (Res.tmp rfl Res.nil), _, rfl, h⟩
/-- The formula of (*signpost.trie.Trie).Cut. -/
def F26 (p0 : Option Addr) (p1_0 : Int) (p1_1 : Int) (K : Bool → World → Prop) (w0 : World) : Prop :=
M.new (.cells #[(Value.int .u32 p1_0), (Value.int .i64 p1_1)] 28) w0 fun b2 w1 =>
M.ld (Value.int .u32) b2 w1 fun t3 =>
M.ld (Value.int .i64) (b2.add 1) w1 fun t5 =>
Calls Try.prog 40 #[(Value.pointer p0), (Value.agg #[(Value.int .u32 t3), (Value.int .i64 t5)])] w1 (R40 fun r7 r8 w9 =>
M.ite (!r8) (
K false w9) (
M.nil p0 fun a11 =>
M.ld (Value.int .i64) (b2.add 1) w9 fun t13 =>
M.loop3 (fun (J18 : SV → Option Addr → Int → World → Prop) (x15 : SV) (x16 : Option Addr) (x17 : Int) (w19 : World) => 
M.ite (decide (x17 < t13)) (
M.new (.cells #[(Value.pointer x16)] 81) w19 fun b35 w33 =>
M.app Try.prog 93 93 93 x15 (SV.v (SV.mk (some b35) 1 1)) w33 fun s36 w37 =>
M.drew w37 fun w39 => 
M.nil x16 fun a40 =>
M.ld (Value.int .u32) b2 w39 fun t42 =>
Calls Try.prog 38 #[(Value.int .u32 t42), (Value.int .i64 x17)] w39 (R38 fun r44 w45 =>
M.inb r44 2 <|
M.ld Value.pointer (a40.add (r44.toNat * 1)) w45 fun t48 =>
J18 s36 t48 (IntKind.i64.wrap (x17 + (1 : Int))) w45)) (
M.nil x16 fun a50 =>
M.st (a50.add 2) (Value.bool false) w19 fun w52 =>
M.nil x16 fun a55 =>
M.st (a55.add 3) (Value.int .i64 (0 : Int)) w52 fun w57 =>
M.nil p0 fun a60 =>
M.ld (Value.int .i64) (a60.add 4) w57 fun t62 =>
M.nil p0 fun a64 =>
M.st (a64.add 4) (Value.int .i64 (IntKind.i64.wrap (t62 - (1 : Int)))) w57 fun w66 =>
M.ld (Value.int .i64) (b2.add 1) w66 fun t69 =>
M.join (fun (w118 : World) => 
K true w118) fun J71 => 
M.loop1 (fun (J73 : Int → World → Prop) (x72 : Int) (w74 : World) => 
M.ite (decide ((0 : Int) ≤ x72)) (
M.ld (Value.int .u32) b2 w74 fun t85 =>
Calls Try.prog 38 #[(Value.int .u32 t85), (Value.int .i64 x72)] w74 (R38 fun r87 w88 =>
M.idx x15 x72 1 fun a89 =>
M.ld Value.pointer (a89.add (x72.toNat * 1)) w88 fun t93 =>
M.nil t93 fun a95 =>
M.inb r87 2 <|
M.ld Value.pointer (a95.add (r87.toNat * 1)) w88 fun t99 =>
Calls Try.prog 41 #[(Value.pointer t99)] w88 (R41 fun r101 w102 =>
M.ite (!r101) (
J71 w102) (
M.idx x15 x72 1 fun a104 =>
M.ld Value.pointer (a104.add (x72.toNat * 1)) w102 fun t108 =>
M.nil t108 fun a110 =>
M.inb r87 2 <|
M.st (a110.add (r87.toNat * 1)) (Value.pointer (none : Option Addr)) w102 fun w114 =>
J73 (IntKind.i64.wrap (x72 - (1 : Int))) w114)))) (
J71 w74)) (IntKind.i64.wrap (t69 - (1 : Int))) w66)) SV.nil (some a11) (0 : Int) w9))
theorem F26_ok {w0 : World} {p0 : Option Addr} {p1_0 : Int} {p1_1 : Int} {K : Bool → World → Prop} (h : F26 p0 p1_0 p1_1 K w0) : Calls Try.prog 26 #[(Value.pointer p0), (Value.agg #[(Value.int .u32 p1_0), (Value.int .i64 p1_1)])] w0 (R26 K) := by
  refine calls_of_WE (args := [(Value.pointer p0), (Value.agg #[(Value.int .u32 p1_0), (Value.int .i64 p1_1)])]) (rs := [.tmp 4]) Try.func26 rfl (N := 85) rfl rfl rfl rfl ?_
  refine WE.seq ?_
  refine WE.reg ?_
  obtain ⟨b2, hpb2, w1, hww1, h⟩ := M.new_use h
  refine LE.r (v := (Value.pointer (some b2))) (Wn.no rfl) rfl (R.box (cs := #[(Value.int .u32 p1_0), (Value.int .i64 p1_1)]) rfl rfl hpb2 hww1) ?_
  refine LE.p (v := (Value.bool false)) (Wn.no rfl) rfl (R.assign rfl) ?_
  refine LE.nil ?_
  refine WE.scope ?_
  refine WE.seq ?_
  refine WE.seq ?_
  refine WE.reg ?_
  refine LE.p (v := (Value.pointer p0)) (Wn.no rfl) rfl (R.move rfl) ?_
  obtain ⟨t3, h4, h⟩ := h
  obtain ⟨t5, h6, h⟩ := h
  refine LE.r (v := (Value.agg #[(Value.int .u32 t3), (Value.int .i64 t5)])) (Wn.no rfl) rfl (R.ldA ag28 sz28 rfl rfl (Cs.cons h4 (Cs.cons h6 Cs.nil))) ?_
  refine LE.c (Wn.no rfl) rfl (R.call bd40 (Ls.cons rfl (Ls.cons rfl Ls.nil)) rfl) (Calls.mono h ?_)
  rintro _ w9 ⟨r7, r8, rfl, h⟩
  refine ⟨_, rfl, ?_⟩
  refine LE.p (v := (Value.tuple #[(Value.int .i64 r7), (Value.bool r8)])) (Wn.no rfl) rfl (R.move rfl) ?_
  refine LE.p (v := (Value.int .i64 r7)) (Wn.no rfl) rfl (R.ext rfl rfl) ?_
  refine LE.p (v := (Value.bool r8)) (Wn.no rfl) rfl (R.ext rfl rfl) ?_
  refine LE.p (v := (Value.int .i64 r7)) (Wn.no rfl) rfl (R.assign rfl) ?_
  refine LE.p (v := (Value.bool r8)) (Wn.no rfl) rfl (R.assign rfl) ?_
  refine LE.nil ?_
  refine WE.seq ?_
  refine WE.reg ?_
  refine LE.p (v := (Value.bool r8)) (Wn.no rfl) rfl (R.move rfl) ?_
  refine LE.p (v := (Value.bool (!r8))) (Wn.no rfl) rfl (R.not rfl) ?_
  refine LE.nil ?_
  refine WE.condT rfl (b := (!r8)) rfl ?_ ?_
  · intro hb10
    replace h := M.ite_t h hb10
    refine WE.seq ?_
    refine WE.reg ?_
    refine LE.p (v := (Value.bool false)) (Wn.no rfl) rfl (R.assign rfl) ?_
    refine LE.nil ?_
    refine WE.ret ?_
    exact ⟨_, (Res.tmp rfl Res.nil), _, rfl, h⟩
  · intro hb10
    replace h := M.ite_f h hb10
    refine WE.skip ?_
    refine WE.seq ?_
    refine WE.reg ?_
    refine LE.p (v := (SV.v SV.nil)) (Wn.no rfl) rfl (R.assign rfl) ?_
    refine LE.nil ?_
    refine WE.seq ?_
    refine WE.reg ?_
    refine LE.p (v := (Value.pointer p0)) (Wn.no rfl) rfl (R.move rfl) ?_
    obtain ⟨a11, h12, h⟩ := h
    refine LE.p (v := (Value.pointer (some a11))) (Wn.no rfl) rfl (R.nilC (congrArg Value.pointer h12)) ?_
    refine LE.p (v := (Value.pointer (some a11))) (Wn.no rfl) rfl (R.fld (off := 0) fa86_0 rfl) ?_
    refine LE.p (v := (Value.pointer (some a11))) (Wn.no rfl) rfl (R.assign rfl) ?_
    refine LE.nil ?_
    refine WE.seq ?_
    refine WE.seq ?_
    refine WE.reg ?_
    refine LE.p (v := (Value.pointer (some (b2.add 1)))) (Wn.no rfl) rfl (R.fld (off := 1) fa28_1 rfl) ?_
    obtain ⟨t13, h14, h⟩ := h
    refine LE.r (v := (Value.int .i64 t13)) (Wn.no rfl) rfl (R.ld sc3 rfl h14) ?_
    refine LE.p (v := (Value.int .i64 (0 : Int))) (Wn.no rfl) rfl (R.move rfl) ?_
    refine LE.nil ?_
    refine WE.block ?_
    obtain ⟨I22, ⟨n21, h⟩, hr23⟩ := h
    refine WE.loop (fun n e w => ∃ (x15 : SV) (x16 : Option Addr) (x17 : Int), I22 n x15 x16 x17 w ∧ e 0 = (Value.pointer p0) ∧ e 3 = (Value.pointer (some b2)) ∧ e 7 = (SV.v x15) ∧ e 8 = (Value.pointer x16) ∧ e 24 = (Value.int .i64 t13) ∧ e 25 = (Value.int .i64 x17)) n21 ⟨_, _, _, h, rfl, rfl, rfl, rfl, rfl, rfl⟩ ?_
    clear h
    rintro n21 e20 w19 ⟨x15, x16, x17, h, f26, f27, f28, f29, f30, f31⟩
    replace h := hr23 n21 x15 x16 x17 w19 h
    refine WE.seq ?_
    refine WE.reg ?_
    refine LE.p (v := (Value.bool (decide (x17 < t13)))) (Wn.no rfl) rfl (R.lss f31 f30) ?_
    refine LE.nil ?_
    refine WE.seq ?_
    refine WE.condT rfl (b := (decide (x17 < t13))) rfl ?_ ?_
    · intro hb32
      replace h := M.ite_t h hb32
      refine WE.skip ?_
      refine WE.seq ?_
      refine WE.block ?_
      refine WE.seq ?_
      refine WE.reg ?_
      refine LE.p (v := (Value.int .i64 x17)) (Wn.no rfl) rfl (R.move f31) ?_
      refine LE.p (v := (Value.int .i64 x17)) (Wn.no rfl) rfl (R.assign rfl) ?_
      refine LE.nil ?_
      refine WE.seq ?_
      refine WE.reg ?_
      refine LE.p (v := (SV.v x15)) (Wn.no rfl) rfl (R.move f28) ?_
      refine LE.p (v := (Value.pointer x16)) (Wn.no rfl) rfl (R.move f29) ?_
      obtain ⟨b35, hpb35, w33, hww33, h⟩ := M.new_use h
      refine LE.r (v := (SV.v (SV.mk (some b35) 1 1))) (Wn.no rfl) rfl (R.bsl (by exact (Ls.cons (R.Pr rfl) Ls.nil)) (fun w => bs93_1 x16 w) hpb35 hww33) ?_
      obtain ⟨s36, w37, h38, h⟩ := h
      refine LE.r (v := (SV.v s36)) (Wn.no rfl) rfl (R.app (s := x15) (r := s36) rfl rfl h38) ?_
      refine LE.p (v := (SV.v s36)) (Wn.no rfl) rfl (R.assign rfl) ?_
      refine LE.nil ?_
      refine WE.draw mix ?_
      obtain ⟨w39, hww39, h⟩ := M.drew_use h
      rw [← hww39]
      clear hww39
      refine DE.t 0 (v := (Value.pointer x16)) rfl (by kernel_rfl) (Wn.no rfl) rfl (R.move f29) ?_
      refine DE.t 1 (v := (Value.pointer (some b2))) rfl (by kernel_rfl) (Wn.no rfl) rfl (R.fld (off := 0) fa28_0 f27) ?_
      refine DE.t 3 (v := (Value.int .i64 x17)) rfl (by kernel_rfl) (Wn.no rfl) rfl (R.move rfl) ?_
      obtain ⟨a40, h41, h⟩ := h
      refine DE.t 5 (v := (Value.pointer (some a40))) rfl (by kernel_rfl) (Wn.no rfl) rfl (R.nilC (congrArg Value.pointer h41)) ?_
      refine DE.t 6 (v := (Value.pointer (some a40))) rfl (by kernel_rfl) (Wn.no rfl) rfl (R.fld (off := 0) fa84_0 rfl) ?_
      obtain ⟨t42, h43, h⟩ := h
      refine DE.main 2 (by kernel_rfl) ?_
      refine One.r 2 (v := (Value.int .u32 t42)) rfl (Wn.no rfl) rfl (R.ld sc26 rfl h43) (.inl rfl) ?_
      refine DE.main 4 (by kernel_rfl) ?_
      refine One.c 4 rfl (Wn.no rfl) rfl (R.call bd38 (Ls.cons rfl (Ls.cons rfl Ls.nil)) rfl) (Calls.mono h ?_)
      rintro _ w45 ⟨r44, rfl, h⟩
      refine ⟨_, rfl, trivial, ?_⟩
      obtain ⟨h46, h47, h⟩ := h
      refine DE.t 7 (v := (Value.pointer (some (a40.add (r44.toNat * 1))))) rfl (by kernel_rfl) (Wn.no rfl) rfl (R.idxArr ar82 rfl rfl h46 h47) ?_
      obtain ⟨t48, h49, h⟩ := h
      refine DE.main 8 (by kernel_rfl) ?_
      refine One.r 8 (v := (Value.pointer t48)) rfl (Wn.no rfl) rfl (R.ld sc81 rfl h49) (.inl rfl) ?_
      refine DE.t 9 (v := (Value.pointer t48)) rfl (by kernel_rfl) (Wn.no rfl) rfl (R.assign rfl) ?_
      refine DE.done (by kernel_rfl) ?_
      refine WE.reg ?_
      refine LE.p (v := (Value.int .i64 (IntKind.i64.wrap (x17 + (1 : Int))))) (Wn.no rfl) rfl (R.add f31 rfl) ?_
      refine LE.p (v := (Value.int .i64 (IntKind.i64.wrap (x17 + (1 : Int))))) (Wn.no rfl) rfl (R.move rfl) ?_
      refine LE.nil ?_
      obtain ⟨m24, hm25, h⟩ := h
      exact ⟨m24, hm25, _, _, _, h, f26, f27, rfl, rfl, f30, rfl⟩
    · intro hb32
      replace h := M.ite_f h hb32
      refine WE.exit ?_
      refine WE.seq ?_
      refine WE.reg ?_
      refine LE.p (v := (Value.pointer x16)) (Wn.no rfl) rfl (R.move f29) ?_
      refine LE.p (v := (Value.pointer x16)) (Wn.no rfl) rfl (R.move f29) ?_
      obtain ⟨a50, h51, h⟩ := h
      refine LE.p (v := (Value.pointer (some a50))) (Wn.no rfl) rfl (R.nilC (congrArg Value.pointer h51)) ?_
      refine LE.p (v := (Value.pointer (some (a50.add 2)))) (Wn.no rfl) rfl (R.fld (off := 2) fa84_1 rfl) ?_
      obtain ⟨w52, hww52, h53, h54, h⟩ := M.st_use h
      refine LE.s (Wn.no rfl) rfl (R.st (a := (a50.add 2)) (v := (Value.bool false)) sz4 rfl rfl rfl rfl h53 h54 hww52) ?_
      obtain ⟨a55, h56, h⟩ := h
      refine LE.p (v := (Value.pointer (some a55))) (Wn.no rfl) rfl (R.nilC (congrArg Value.pointer h56)) ?_
      refine LE.p (v := (Value.pointer (some (a55.add 3)))) (Wn.no rfl) rfl (R.fld (off := 3) fa84_2 rfl) ?_
      obtain ⟨w57, hww57, h58, h59, h⟩ := M.st_use h
      refine LE.s (Wn.no rfl) rfl (R.st (a := (a55.add 3)) (v := (Value.int .i64 (0 : Int))) sz3 rfl rfl rfl rfl h58 h59 hww57) ?_
      refine LE.nil ?_
      refine WE.seq ?_
      refine WE.reg ?_
      refine LE.p (v := (Value.pointer p0)) (Wn.no rfl) rfl (R.move f26) ?_
      obtain ⟨a60, h61, h⟩ := h
      refine LE.p (v := (Value.pointer (some a60))) (Wn.no rfl) rfl (R.nilC (congrArg Value.pointer h61)) ?_
      refine LE.p (v := (Value.pointer (some (a60.add 4)))) (Wn.no rfl) rfl (R.fld (off := 4) fa86_1 rfl) ?_
      obtain ⟨t62, h63, h⟩ := h
      refine LE.r (v := (Value.int .i64 t62)) (Wn.no rfl) rfl (R.ld sc3 rfl h63) ?_
      refine LE.p (v := (Value.int .i64 (IntKind.i64.wrap (t62 - (1 : Int))))) (Wn.no rfl) rfl (R.sub rfl rfl) ?_
      obtain ⟨a64, h65, h⟩ := h
      refine LE.p (v := (Value.pointer (some a64))) (Wn.no rfl) rfl (R.nilC (congrArg Value.pointer h65)) ?_
      refine LE.p (v := (Value.pointer (some (a64.add 4)))) (Wn.no rfl) rfl (R.fld (off := 4) fa86_1 rfl) ?_
      obtain ⟨w66, hww66, h67, h68, h⟩ := M.st_use h
      refine LE.s (Wn.no rfl) rfl (R.st (a := (a64.add 4)) (v := (Value.int .i64 (IntKind.i64.wrap (t62 - (1 : Int))))) sz3 rfl rfl rfl rfl h67 h68 hww66) ?_
      refine LE.nil ?_
      refine WE.seq ?_
      refine WE.label ?_
      refine WE.seq ?_
      refine WE.seq ?_
      refine WE.reg ?_
      refine LE.p (v := (Value.pointer (some (b2.add 1)))) (Wn.no rfl) rfl (R.fld (off := 1) fa28_1 f27) ?_
      obtain ⟨t69, h70, h⟩ := h
      refine LE.r (v := (Value.int .i64 t69)) (Wn.no rfl) rfl (R.ld sc3 rfl h70) ?_
      refine LE.p (v := (Value.int .i64 (IntKind.i64.wrap (t69 - (1 : Int))))) (Wn.no rfl) rfl (R.sub rfl rfl) ?_
      refine LE.p (v := (Value.int .i64 (IntKind.i64.wrap (t69 - (1 : Int))))) (Wn.no rfl) rfl (R.assign rfl) ?_
      refine LE.nil ?_
      obtain ⟨J71, hJ71, h⟩ := M.join_use h
      refine WE.blkJ (fun e w => J71 w) ?_ ?_
      · clear hJ71
        obtain ⟨I77, ⟨n76, h⟩, hr78⟩ := h
        refine WE.loop (fun n e w => ∃ (x72 : Int), I77 n x72 w ∧ e 3 = (Value.pointer (some b2)) ∧ e 7 = (SV.v x15) ∧ e 10 = (Value.int .i64 x72)) n76 ⟨_, h, f27, f28, rfl⟩ ?_
        clear h
        rintro n76 e75 w74 ⟨x72, h, f81, f82, f83⟩
        replace h := hr78 n76 x72 w74 h
        refine WE.seq ?_
        refine WE.seq ?_
        refine WE.reg ?_
        refine LE.p (v := (Value.int .i64 x72)) (Wn.no rfl) rfl (R.move f83) ?_
        refine LE.p (v := (Value.bool (decide ((0 : Int) ≤ x72)))) (Wn.no rfl) rfl (R.geq rfl rfl) ?_
        refine LE.nil ?_
        refine WE.condT rfl (b := (decide ((0 : Int) ≤ x72))) rfl ?_ ?_
        · intro hb84
          replace h := M.ite_t h hb84
          refine WE.skip ?_
          refine WE.seq ?_
          refine WE.block ?_
          refine WE.seq ?_
          refine WE.reg ?_
          refine LE.p (v := (Value.pointer (some b2))) (Wn.no rfl) rfl (R.fld (off := 0) fa28_0 f81) ?_
          obtain ⟨t85, h86, h⟩ := h
          refine LE.r (v := (Value.int .u32 t85)) (Wn.no rfl) rfl (R.ld sc26 rfl h86) ?_
          refine LE.p (v := (Value.int .i64 x72)) (Wn.no rfl) rfl (R.move f83) ?_
          refine LE.c (Wn.no rfl) rfl (R.call bd38 (Ls.cons rfl (Ls.cons rfl Ls.nil)) rfl) (Calls.mono h ?_)
          rintro _ w88 ⟨r87, rfl, h⟩
          refine ⟨_, rfl, ?_⟩
          refine LE.p (v := (Value.int .i64 r87)) (Wn.no rfl) rfl (R.assign rfl) ?_
          refine LE.nil ?_
          refine WE.seq ?_
          refine WE.seq ?_
          refine WE.reg ?_
          refine LE.p (v := (SV.v x15)) (Wn.no rfl) rfl (R.move f82) ?_
          refine LE.p (v := (Value.int .i64 x72)) (Wn.no rfl) rfl (R.move f83) ?_
          obtain ⟨a89, h90, h91, h92, h⟩ := h
          refine LE.p (v := (Value.pointer (some (a89.add (x72.toNat * 1))))) (Wn.no rfl) rfl (R.idx (s := x15) sl93 rfl rfl h90 h91 h92) ?_
          obtain ⟨t93, h94, h⟩ := h
          refine LE.r (v := (Value.pointer t93)) (Wn.no rfl) rfl (R.ld sc81 rfl h94) ?_
          refine LE.p (v := (Value.int .i64 r87)) (Wn.no rfl) rfl (R.move rfl) ?_
          obtain ⟨a95, h96, h⟩ := h
          refine LE.p (v := (Value.pointer (some a95))) (Wn.no rfl) rfl (R.nilC (congrArg Value.pointer h96)) ?_
          refine LE.p (v := (Value.pointer (some a95))) (Wn.no rfl) rfl (R.fld (off := 0) fa84_0 rfl) ?_
          obtain ⟨h97, h98, h⟩ := h
          refine LE.p (v := (Value.pointer (some (a95.add (r87.toNat * 1))))) (Wn.no rfl) rfl (R.idxArr ar82 rfl rfl h97 h98) ?_
          obtain ⟨t99, h100, h⟩ := h
          refine LE.r (v := (Value.pointer t99)) (Wn.no rfl) rfl (R.ld sc81 rfl h100) ?_
          refine LE.c (Wn.no rfl) rfl (R.call bd41 (Ls.cons rfl Ls.nil) rfl) (Calls.mono h ?_)
          rintro _ w102 ⟨r101, rfl, h⟩
          refine ⟨_, rfl, ?_⟩
          refine LE.p (v := (Value.bool (!r101))) (Wn.no rfl) rfl (R.not rfl) ?_
          refine LE.nil ?_
          refine WE.condT rfl (b := (!r101)) rfl ?_ ?_
          · intro hb103
            replace h := M.ite_t h hb103
            refine WE.exit ?_
            exact h
          · intro hb103
            replace h := M.ite_f h hb103
            refine WE.skip ?_
            refine WE.reg ?_
            refine LE.p (v := (SV.v x15)) (Wn.no rfl) rfl (R.move f82) ?_
            refine LE.p (v := (Value.int .i64 x72)) (Wn.no rfl) rfl (R.move f83) ?_
            obtain ⟨a104, h105, h106, h107, h⟩ := h
            refine LE.p (v := (Value.pointer (some (a104.add (x72.toNat * 1))))) (Wn.no rfl) rfl (R.idx (s := x15) sl93 rfl rfl h105 h106 h107) ?_
            obtain ⟨t108, h109, h⟩ := h
            refine LE.r (v := (Value.pointer t108)) (Wn.no rfl) rfl (R.ld sc81 rfl h109) ?_
            refine LE.p (v := (Value.int .i64 r87)) (Wn.no rfl) rfl (R.move rfl) ?_
            obtain ⟨a110, h111, h⟩ := h
            refine LE.p (v := (Value.pointer (some a110))) (Wn.no rfl) rfl (R.nilC (congrArg Value.pointer h111)) ?_
            refine LE.p (v := (Value.pointer (some a110))) (Wn.no rfl) rfl (R.fld (off := 0) fa84_0 rfl) ?_
            obtain ⟨h112, h113, h⟩ := h
            refine LE.p (v := (Value.pointer (some (a110.add (r87.toNat * 1))))) (Wn.no rfl) rfl (R.idxArr ar82 rfl rfl h112 h113) ?_
            obtain ⟨w114, hww114, h115, h116, h⟩ := M.st_use h
            refine LE.s (Wn.no rfl) rfl (R.st (a := (a110.add (r87.toNat * 1))) (v := (Value.pointer (none : Option Addr))) sz81 rfl rfl rfl rfl h115 h116 hww114) ?_
            refine LE.nil ?_
            refine WE.reg ?_
            refine LE.p (v := (Value.int .i64 x72)) (Wn.no rfl) rfl (R.move f83) ?_
            refine LE.p (v := (Value.int .i64 (IntKind.i64.wrap (x72 - (1 : Int))))) (Wn.no rfl) rfl (R.sub rfl rfl) ?_
            refine LE.p (v := (Value.int .i64 (IntKind.i64.wrap (x72 - (1 : Int))))) (Wn.no rfl) rfl (R.assign rfl) ?_
            refine LE.nil ?_
            obtain ⟨m79, hm80, h⟩ := h
            exact ⟨m79, hm80, _, h, f81, f82, rfl⟩
        · intro hb84
          replace h := M.ite_f h hb84
          refine WE.exit ?_
          exact h
      · rintro e117 w118 h
        subst hJ71
        refine WE.seq ?_
        refine WE.reg ?_
        refine LE.p (v := (Value.bool true)) (Wn.no rfl) rfl (R.assign rfl) ?_
        refine LE.nil ?_
        refine WE.ret ?_
        exact ⟨_, (Res.tmp rfl Res.nil), _, rfl, h⟩
/-- The formula of signpost.igp.Same. -/
def F27 (p0_0 : Int) (p0_1 : Int) (p0_2 : Bool) (p0_3 : Int) (p0_4 : Int) (p0_5 : Nat) (p1_0 : Int) (p1_1 : Int) (p1_2 : Bool) (p1_3 : Int) (p1_4 : Int) (p1_5 : Nat) (K : Bool → World → Prop) (w0 : World) : Prop :=
M.new (.cells #[(Value.int .u32 p0_0), (Value.int .i64 p0_1), (Value.bool p0_2), (Value.int .i64 p0_3), (Value.int .u32 p0_4), (Value.float .f64 p0_5)] 32) w0 fun b2 w1 =>
M.new (.cells #[(Value.int .u32 p1_0), (Value.int .i64 p1_1), (Value.bool p1_2), (Value.int .i64 p1_3), (Value.int .u32 p1_4), (Value.float .f64 p1_5)] 32) w1 fun b4 w3 =>
M.join (fun (x6 : Bool) (w38 : World) => 
K x6 w38) fun J5 => 
M.ld (Value.int .u32) b2 w3 fun t7 =>
M.ld (Value.int .i64) (b2.add 1) w3 fun t9 =>
M.ld (Value.int .u32) b4 w3 fun t11 =>
M.ld (Value.int .i64) (b4.add 1) w3 fun t13 =>
M.ite ((t7 == t11) && (t9 == t13)) (
M.ld Value.bool (b2.add 2) w3 fun t16 =>
M.ld Value.bool (b4.add 2) w3 fun t18 =>
M.ite (t16 == t18) (
M.ld (Value.int .i64) (b2.add 3) w3 fun t21 =>
M.ld (Value.int .i64) (b4.add 3) w3 fun t23 =>
M.ite (t21 == t23) (
M.ld (Value.int .u32) (b2.add 4) w3 fun t26 =>
M.ld (Value.int .u32) (b4.add 4) w3 fun t28 =>
M.ite (t26 == t28) (
M.ld (Value.float .f64) (b2.add 5) w3 fun t31 =>
M.ld (Value.float .f64) (b4.add 5) w3 fun t33 =>
Calls Try.prog 42 #[(Value.float .f64 t31), (Value.float .f64 t33)] w3 (R42 fun r35 w36 =>
J5 r35 w36)) (
J5 false w3)) (
J5 false w3)) (
J5 false w3)) (
J5 false w3)
theorem F27_ok {w0 : World} {p0_0 : Int} {p0_1 : Int} {p0_2 : Bool} {p0_3 : Int} {p0_4 : Int} {p0_5 : Nat} {p1_0 : Int} {p1_1 : Int} {p1_2 : Bool} {p1_3 : Int} {p1_4 : Int} {p1_5 : Nat} {K : Bool → World → Prop} (h : F27 p0_0 p0_1 p0_2 p0_3 p0_4 p0_5 p1_0 p1_1 p1_2 p1_3 p1_4 p1_5 K w0) : Calls Try.prog 27 #[(Value.agg #[(Value.int .u32 p0_0), (Value.int .i64 p0_1), (Value.bool p0_2), (Value.int .i64 p0_3), (Value.int .u32 p0_4), (Value.float .f64 p0_5)]), (Value.agg #[(Value.int .u32 p1_0), (Value.int .i64 p1_1), (Value.bool p1_2), (Value.int .i64 p1_3), (Value.int .u32 p1_4), (Value.float .f64 p1_5)])] w0 (R27 K) := by
  refine calls_of_WE (args := [(Value.agg #[(Value.int .u32 p0_0), (Value.int .i64 p0_1), (Value.bool p0_2), (Value.int .i64 p0_3), (Value.int .u32 p0_4), (Value.float .f64 p0_5)]), (Value.agg #[(Value.int .u32 p1_0), (Value.int .i64 p1_1), (Value.bool p1_2), (Value.int .i64 p1_3), (Value.int .u32 p1_4), (Value.float .f64 p1_5)])]) (rs := [.tmp 4]) Try.func27 rfl (N := 38) rfl rfl rfl rfl ?_
  refine WE.seq ?_
  refine WE.reg ?_
  obtain ⟨b2, hpb2, w1, hww1, h⟩ := M.new_use h
  refine LE.r (v := (Value.pointer (some b2))) (Wn.no rfl) rfl (R.box (cs := #[(Value.int .u32 p0_0), (Value.int .i64 p0_1), (Value.bool p0_2), (Value.int .i64 p0_3), (Value.int .u32 p0_4), (Value.float .f64 p0_5)]) rfl rfl hpb2 hww1) ?_
  obtain ⟨b4, hpb4, w3, hww3, h⟩ := M.new_use h
  refine LE.r (v := (Value.pointer (some b4))) (Wn.no rfl) rfl (R.box (cs := #[(Value.int .u32 p1_0), (Value.int .i64 p1_1), (Value.bool p1_2), (Value.int .i64 p1_3), (Value.int .u32 p1_4), (Value.float .f64 p1_5)]) rfl rfl hpb4 hww3) ?_
  refine LE.p (v := (Value.bool false)) (Wn.no rfl) rfl (R.assign rfl) ?_
  refine LE.nil ?_
  refine WE.seq ?_
  obtain ⟨J5, hJ5, h⟩ := M.join_use h
  refine WE.regJ (fun e w => ∃ (x6 : Bool), J5 x6 w ∧ e 4 = (Value.bool x6)) ?_ ?_
  · clear hJ5
    refine LE.p (v := (Value.pointer (some b2))) (Wn.no rfl) rfl (R.fld (off := 0) fa32_0 rfl) ?_
    obtain ⟨t7, h8, h⟩ := h
    obtain ⟨t9, h10, h⟩ := h
    refine LE.r (v := (Value.agg #[(Value.int .u32 t7), (Value.int .i64 t9)])) (Wn.no rfl) rfl (R.ldA ag28 sz28 rfl rfl (Cs.cons h8 (Cs.cons h10 Cs.nil))) ?_
    refine LE.p (v := (Value.pointer (some b4))) (Wn.no rfl) rfl (R.fld (off := 0) fa32_0 rfl) ?_
    obtain ⟨t11, h12, h⟩ := h
    obtain ⟨t13, h14, h⟩ := h
    refine LE.r (v := (Value.agg #[(Value.int .u32 t11), (Value.int .i64 t13)])) (Wn.no rfl) rfl (R.ldA ag28 sz28 rfl rfl (Cs.cons h12 (Cs.cons h14 Cs.nil))) ?_
    refine LE.p (v := (Value.bool ((t7 == t11) && (t9 == t13)))) (Wn.no rfl) rfl (R.eqS (fun w => eq28 t7 t11 t9 t13 w) sg28 rfl rfl) ?_
    refine LE.p (v := (Value.bool ((t7 == t11) && (t9 == t13)))) (Wn.no rfl) rfl (R.move rfl) ?_
    rcases M.ite_use h with ⟨hb15, h⟩ | ⟨hb15, h⟩
    · refine LE.p (v := (Value.pointer (some (b2.add 2)))) (Wn.yes 5 10 true rfl rfl rfl (congrArg Value.bool hb15)) rfl (R.fld (off := 2) fa32_1 rfl) ?_
      obtain ⟨t16, h17, h⟩ := h
      refine LE.r (v := (Value.bool t16)) (Wn.yes 5 10 true rfl rfl rfl (congrArg Value.bool hb15)) rfl (R.ld sc4 rfl h17) ?_
      refine LE.p (v := (Value.pointer (some (b4.add 2)))) (Wn.yes 5 10 true rfl rfl rfl (congrArg Value.bool hb15)) rfl (R.fld (off := 2) fa32_1 rfl) ?_
      obtain ⟨t18, h19, h⟩ := h
      refine LE.r (v := (Value.bool t18)) (Wn.yes 5 10 true rfl rfl rfl (congrArg Value.bool hb15)) rfl (R.ld sc4 rfl h19) ?_
      refine LE.p (v := (Value.bool (t16 == t18))) (Wn.yes 5 10 true rfl rfl rfl (congrArg Value.bool hb15)) rfl (R.beql bo4 rfl rfl) ?_
      refine LE.p (v := (Value.bool (t16 == t18))) (Wn.no rfl) rfl (R.pickT (congrArg Value.bool hb15) rfl) ?_
      refine LE.p (v := (Value.bool (t16 == t18))) (Wn.no rfl) rfl (R.move rfl) ?_
      rcases M.ite_use h with ⟨hb20, h⟩ | ⟨hb20, h⟩
      · refine LE.p (v := (Value.pointer (some (b2.add 3)))) (Wn.yes 12 17 true rfl rfl rfl (congrArg Value.bool hb20)) rfl (R.fld (off := 3) fa32_2 rfl) ?_
        obtain ⟨t21, h22, h⟩ := h
        refine LE.r (v := (Value.int .i64 t21)) (Wn.yes 12 17 true rfl rfl rfl (congrArg Value.bool hb20)) rfl (R.ld sc3 rfl h22) ?_
        refine LE.p (v := (Value.pointer (some (b4.add 3)))) (Wn.yes 12 17 true rfl rfl rfl (congrArg Value.bool hb20)) rfl (R.fld (off := 3) fa32_2 rfl) ?_
        obtain ⟨t23, h24, h⟩ := h
        refine LE.r (v := (Value.int .i64 t23)) (Wn.yes 12 17 true rfl rfl rfl (congrArg Value.bool hb20)) rfl (R.ld sc3 rfl h24) ?_
        refine LE.p (v := (Value.bool (t21 == t23))) (Wn.yes 12 17 true rfl rfl rfl (congrArg Value.bool hb20)) rfl (R.eql rfl rfl) ?_
        refine LE.p (v := (Value.bool (t21 == t23))) (Wn.no rfl) rfl (R.pickT (congrArg Value.bool hb20) rfl) ?_
        refine LE.p (v := (Value.bool (t21 == t23))) (Wn.no rfl) rfl (R.move rfl) ?_
        rcases M.ite_use h with ⟨hb25, h⟩ | ⟨hb25, h⟩
        · refine LE.p (v := (Value.pointer (some (b2.add 4)))) (Wn.yes 19 24 true rfl rfl rfl (congrArg Value.bool hb25)) rfl (R.fld (off := 4) fa32_3 rfl) ?_
          obtain ⟨t26, h27, h⟩ := h
          refine LE.r (v := (Value.int .u32 t26)) (Wn.yes 19 24 true rfl rfl rfl (congrArg Value.bool hb25)) rfl (R.ld sc26 rfl h27) ?_
          refine LE.p (v := (Value.pointer (some (b4.add 4)))) (Wn.yes 19 24 true rfl rfl rfl (congrArg Value.bool hb25)) rfl (R.fld (off := 4) fa32_3 rfl) ?_
          obtain ⟨t28, h29, h⟩ := h
          refine LE.r (v := (Value.int .u32 t28)) (Wn.yes 19 24 true rfl rfl rfl (congrArg Value.bool hb25)) rfl (R.ld sc26 rfl h29) ?_
          refine LE.p (v := (Value.bool (t26 == t28))) (Wn.yes 19 24 true rfl rfl rfl (congrArg Value.bool hb25)) rfl (R.eql rfl rfl) ?_
          refine LE.p (v := (Value.bool (t26 == t28))) (Wn.no rfl) rfl (R.pickT (congrArg Value.bool hb25) rfl) ?_
          refine LE.p (v := (Value.bool (t26 == t28))) (Wn.no rfl) rfl (R.move rfl) ?_
          rcases M.ite_use h with ⟨hb30, h⟩ | ⟨hb30, h⟩
          · refine LE.p (v := (Value.pointer (some (b2.add 5)))) (Wn.yes 26 31 true rfl rfl rfl (congrArg Value.bool hb30)) rfl (R.fld (off := 5) fa32_4 rfl) ?_
            obtain ⟨t31, h32, h⟩ := h
            refine LE.r (v := (Value.float .f64 t31)) (Wn.yes 26 31 true rfl rfl rfl (congrArg Value.bool hb30)) rfl (R.ld sc22 rfl h32) ?_
            refine LE.p (v := (Value.pointer (some (b4.add 5)))) (Wn.yes 26 31 true rfl rfl rfl (congrArg Value.bool hb30)) rfl (R.fld (off := 5) fa32_4 rfl) ?_
            obtain ⟨t33, h34, h⟩ := h
            refine LE.r (v := (Value.float .f64 t33)) (Wn.yes 26 31 true rfl rfl rfl (congrArg Value.bool hb30)) rfl (R.ld sc22 rfl h34) ?_
            refine LE.c (Wn.yes 26 31 true rfl rfl rfl (congrArg Value.bool hb30)) rfl (R.call bd42 (Ls.cons rfl (Ls.cons rfl Ls.nil)) rfl) (Calls.mono h ?_)
            rintro _ w36 ⟨r35, rfl, h⟩
            refine ⟨_, rfl, ?_⟩
            refine LE.p (v := (Value.bool r35)) (Wn.no rfl) rfl (R.pickT (congrArg Value.bool hb30) rfl) ?_
            refine LE.p (v := (Value.bool r35)) (Wn.no rfl) rfl (R.assign rfl) ?_
            refine LE.nil ?_
            exact ⟨_, h, rfl⟩
          · refine LE.u (Un.no 26 31 true rfl rfl rfl (congrArg Value.bool hb30)) ?_
            refine LE.u (Un.no 26 31 true rfl rfl rfl (congrArg Value.bool hb30)) ?_
            refine LE.u (Un.no 26 31 true rfl rfl rfl (congrArg Value.bool hb30)) ?_
            refine LE.u (Un.no 26 31 true rfl rfl rfl (congrArg Value.bool hb30)) ?_
            refine LE.u (Un.no 26 31 true rfl rfl rfl (congrArg Value.bool hb30)) ?_
            refine LE.p (v := (Value.bool false)) (Wn.no rfl) rfl (R.pickF (congrArg Value.bool hb30) rfl) ?_
            refine LE.p (v := (Value.bool false)) (Wn.no rfl) rfl (R.assign rfl) ?_
            refine LE.nil ?_
            exact ⟨_, h, rfl⟩
        · refine LE.u (Un.no 19 24 true rfl rfl rfl (congrArg Value.bool hb25)) ?_
          refine LE.u (Un.no 19 24 true rfl rfl rfl (congrArg Value.bool hb25)) ?_
          refine LE.u (Un.no 19 24 true rfl rfl rfl (congrArg Value.bool hb25)) ?_
          refine LE.u (Un.no 19 24 true rfl rfl rfl (congrArg Value.bool hb25)) ?_
          refine LE.u (Un.no 19 24 true rfl rfl rfl (congrArg Value.bool hb25)) ?_
          refine LE.p (v := (Value.bool false)) (Wn.no rfl) rfl (R.pickF (congrArg Value.bool hb25) rfl) ?_
          refine LE.p (v := (Value.bool false)) (Wn.no rfl) rfl (R.move rfl) ?_
          refine LE.u (Un.no 26 31 true rfl rfl rfl rfl) ?_
          refine LE.u (Un.no 26 31 true rfl rfl rfl rfl) ?_
          refine LE.u (Un.no 26 31 true rfl rfl rfl rfl) ?_
          refine LE.u (Un.no 26 31 true rfl rfl rfl rfl) ?_
          refine LE.u (Un.no 26 31 true rfl rfl rfl rfl) ?_
          refine LE.p (v := (Value.bool false)) (Wn.no rfl) rfl (R.pickF rfl rfl) ?_
          refine LE.p (v := (Value.bool false)) (Wn.no rfl) rfl (R.assign rfl) ?_
          refine LE.nil ?_
          exact ⟨_, h, rfl⟩
      · refine LE.u (Un.no 12 17 true rfl rfl rfl (congrArg Value.bool hb20)) ?_
        refine LE.u (Un.no 12 17 true rfl rfl rfl (congrArg Value.bool hb20)) ?_
        refine LE.u (Un.no 12 17 true rfl rfl rfl (congrArg Value.bool hb20)) ?_
        refine LE.u (Un.no 12 17 true rfl rfl rfl (congrArg Value.bool hb20)) ?_
        refine LE.u (Un.no 12 17 true rfl rfl rfl (congrArg Value.bool hb20)) ?_
        refine LE.p (v := (Value.bool false)) (Wn.no rfl) rfl (R.pickF (congrArg Value.bool hb20) rfl) ?_
        refine LE.p (v := (Value.bool false)) (Wn.no rfl) rfl (R.move rfl) ?_
        refine LE.u (Un.no 19 24 true rfl rfl rfl rfl) ?_
        refine LE.u (Un.no 19 24 true rfl rfl rfl rfl) ?_
        refine LE.u (Un.no 19 24 true rfl rfl rfl rfl) ?_
        refine LE.u (Un.no 19 24 true rfl rfl rfl rfl) ?_
        refine LE.u (Un.no 19 24 true rfl rfl rfl rfl) ?_
        refine LE.p (v := (Value.bool false)) (Wn.no rfl) rfl (R.pickF rfl rfl) ?_
        refine LE.p (v := (Value.bool false)) (Wn.no rfl) rfl (R.move rfl) ?_
        refine LE.u (Un.no 26 31 true rfl rfl rfl rfl) ?_
        refine LE.u (Un.no 26 31 true rfl rfl rfl rfl) ?_
        refine LE.u (Un.no 26 31 true rfl rfl rfl rfl) ?_
        refine LE.u (Un.no 26 31 true rfl rfl rfl rfl) ?_
        refine LE.u (Un.no 26 31 true rfl rfl rfl rfl) ?_
        refine LE.p (v := (Value.bool false)) (Wn.no rfl) rfl (R.pickF rfl rfl) ?_
        refine LE.p (v := (Value.bool false)) (Wn.no rfl) rfl (R.assign rfl) ?_
        refine LE.nil ?_
        exact ⟨_, h, rfl⟩
    · refine LE.u (Un.no 5 10 true rfl rfl rfl (congrArg Value.bool hb15)) ?_
      refine LE.u (Un.no 5 10 true rfl rfl rfl (congrArg Value.bool hb15)) ?_
      refine LE.u (Un.no 5 10 true rfl rfl rfl (congrArg Value.bool hb15)) ?_
      refine LE.u (Un.no 5 10 true rfl rfl rfl (congrArg Value.bool hb15)) ?_
      refine LE.u (Un.no 5 10 true rfl rfl rfl (congrArg Value.bool hb15)) ?_
      refine LE.p (v := (Value.bool false)) (Wn.no rfl) rfl (R.pickF (congrArg Value.bool hb15) rfl) ?_
      refine LE.p (v := (Value.bool false)) (Wn.no rfl) rfl (R.move rfl) ?_
      refine LE.u (Un.no 12 17 true rfl rfl rfl rfl) ?_
      refine LE.u (Un.no 12 17 true rfl rfl rfl rfl) ?_
      refine LE.u (Un.no 12 17 true rfl rfl rfl rfl) ?_
      refine LE.u (Un.no 12 17 true rfl rfl rfl rfl) ?_
      refine LE.u (Un.no 12 17 true rfl rfl rfl rfl) ?_
      refine LE.p (v := (Value.bool false)) (Wn.no rfl) rfl (R.pickF rfl rfl) ?_
      refine LE.p (v := (Value.bool false)) (Wn.no rfl) rfl (R.move rfl) ?_
      refine LE.u (Un.no 19 24 true rfl rfl rfl rfl) ?_
      refine LE.u (Un.no 19 24 true rfl rfl rfl rfl) ?_
      refine LE.u (Un.no 19 24 true rfl rfl rfl rfl) ?_
      refine LE.u (Un.no 19 24 true rfl rfl rfl rfl) ?_
      refine LE.u (Un.no 19 24 true rfl rfl rfl rfl) ?_
      refine LE.p (v := (Value.bool false)) (Wn.no rfl) rfl (R.pickF rfl rfl) ?_
      refine LE.p (v := (Value.bool false)) (Wn.no rfl) rfl (R.move rfl) ?_
      refine LE.u (Un.no 26 31 true rfl rfl rfl rfl) ?_
      refine LE.u (Un.no 26 31 true rfl rfl rfl rfl) ?_
      refine LE.u (Un.no 26 31 true rfl rfl rfl rfl) ?_
      refine LE.u (Un.no 26 31 true rfl rfl rfl rfl) ?_
      refine LE.u (Un.no 26 31 true rfl rfl rfl rfl) ?_
      refine LE.p (v := (Value.bool false)) (Wn.no rfl) rfl (R.pickF rfl rfl) ?_
      refine LE.p (v := (Value.bool false)) (Wn.no rfl) rfl (R.assign rfl) ?_
      refine LE.nil ?_
      exact ⟨_, h, rfl⟩
  · rintro e37 w38 ⟨x6, h, f39⟩
    subst hJ5
    refine WE.ret ?_
    exact ⟨_, (Res.tmp f39 Res.nil), _, rfl, h⟩
/-- The formula of signpost.nexthop.follow. -/
def F28 (p0 : Option Addr) (p1 : Int) (p2 : Int) (K : Int → Nat → SV → SV → Int → World → Prop) (w0 : World) : Prop :=
M.new (.cells #[(Value.int .i64 (0 : Int)), (Value.float .f64 (0 : Nat)), (SV.v SV.nil), (SV.v SV.nil)] 70) w0 fun b2 w1 =>
M.new (.cells #[(Value.int .i64 (0 : Int)), (Value.float .f64 (0 : Nat)), (SV.v SV.nil), (SV.v SV.nil)] 70) w1 fun b4 w3 =>
M.join (fun (x6 : Bool) (w10 : World) => 
M.ite x6 (
∃ (t18 : Int) (t19 : Nat) (t20 : SV) (t21 : SV), Cs w10 b4 0 [(Value.int .i64 t18), (Value.float .f64 t19), (SV.v t20), (SV.v t21)] ∧
M.stA b2 [(Value.int .i64 t18), (Value.float .f64 t19), (SV.v t20), (SV.v t21)] w10 fun w23 =>
∃ (t25 : Int) (t26 : Nat) (t27 : SV) (t28 : SV), Cs w23 b2 0 [(Value.int .i64 t25), (Value.float .f64 t26), (SV.v t27), (SV.v t28)] ∧
K t25 t26 t27 t28 (1 : Int) w23) (
M.loop1 (fun (J31 : Int → World → Prop) (x30 : Int) (w32 : World) => 
M.ld SV.v (b4.add 3) w32 fun t44 =>
M.new (.cells #[(Value.int .u32 x30)] 26) w32 fun b48 w46 =>
M.app Try.prog 68 68 68 t44 (SV.v (SV.mk (some b48) 1 1)) w46 fun s49 w50 =>
M.st (b4.add 3) (SV.v s49) w50 fun w52 =>
Calls Try.prog 43 #[(Value.pointer p0), (Value.int .u32 x30)] w52 (R43 fun r55 r56 r57 r58 r59 r60 r61 w62 =>
M.new (.cells #[(Value.int .u32 (0 : Int)), (Value.int .i64 (0 : Int)), (Value.bool false), (Value.int .i64 (0 : Int)), (Value.int .u32 (0 : Int)), (Value.float .f64 (0 : Nat))] 32) w62 fun b64 w63 =>
M.stA b64 [(Value.int .u32 r55), (Value.int .i64 r56), (Value.bool r57), (Value.int .i64 r58), (Value.int .u32 r59), (Value.float .f64 r60)] w63 fun w65 =>
M.ite (!r61) (
∃ (t68 : Int) (t69 : Nat) (t70 : SV) (t71 : SV), Cs w65 b4 0 [(Value.int .i64 t68), (Value.float .f64 t69), (SV.v t70), (SV.v t71)] ∧
M.stA b2 [(Value.int .i64 t68), (Value.float .f64 t69), (SV.v t70), (SV.v t71)] w65 fun w73 =>
∃ (t75 : Int) (t76 : Nat) (t77 : SV) (t78 : SV), Cs w73 b2 0 [(Value.int .i64 t75), (Value.float .f64 t76), (SV.v t77), (SV.v t78)] ∧
K t75 t76 t77 t78 (22 : Int) w73) (
M.ld SV.v (b4.add 2) w65 fun t80 =>
M.ld (Value.int .u32) b64 w65 fun t82 =>
M.ld (Value.int .i64) (b64.add 1) w65 fun t84 =>
Calls Try.prog 31 #[(SV.v t80), (Value.agg #[(Value.int .u32 t82), (Value.int .i64 t84)])] w65 (R31 fun r86 w87 =>
M.ite r86 (
∃ (t89 : Int) (t90 : Nat) (t91 : SV) (t92 : SV), Cs w87 b4 0 [(Value.int .i64 t89), (Value.float .f64 t90), (SV.v t91), (SV.v t92)] ∧
M.stA b2 [(Value.int .i64 t89), (Value.float .f64 t90), (SV.v t91), (SV.v t92)] w87 fun w94 =>
∃ (t96 : Int) (t97 : Nat) (t98 : SV) (t99 : SV), Cs w94 b2 0 [(Value.int .i64 t96), (Value.float .f64 t97), (SV.v t98), (SV.v t99)] ∧
K t96 t97 t98 t99 (26 : Int) w94) (
M.ld SV.v (b4.add 2) w87 fun t101 =>
M.ite ((t101.len : Int) == p2) (
∃ (t104 : Int) (t105 : Nat) (t106 : SV) (t107 : SV), Cs w87 b4 0 [(Value.int .i64 t104), (Value.float .f64 t105), (SV.v t106), (SV.v t107)] ∧
M.stA b2 [(Value.int .i64 t104), (Value.float .f64 t105), (SV.v t106), (SV.v t107)] w87 fun w109 =>
∃ (t111 : Int) (t112 : Nat) (t113 : SV) (t114 : SV), Cs w109 b2 0 [(Value.int .i64 t111), (Value.float .f64 t112), (SV.v t113), (SV.v t114)] ∧
K t111 t112 t113 t114 (27 : Int) w109) (
M.ld SV.v (b4.add 2) w87 fun t116 =>
M.ld (Value.int .u32) b64 w87 fun t118 =>
M.ld (Value.int .i64) (b64.add 1) w87 fun t120 =>
M.new (.cells #[(Value.int .u32 t118), (Value.int .i64 t120)] 28) w87 fun b124 w122 =>
M.app Try.prog 40 40 40 t116 (SV.v (SV.mk (some b124) 1 1)) w122 fun s125 w126 =>
M.st (b4.add 2) (SV.v s125) w126 fun w128 =>
M.ld (Value.float .f64) (b4.add 1) w128 fun t131 =>
M.ld (Value.float .f64) (b64.add 5) w128 fun t133 =>
Calls Try.prog 44 #[(Value.float .f64 t131), (Value.float .f64 t133)] w128 (R44 fun r135 w136 =>
M.st (b4.add 1) (Value.float .f64 r135) w136 fun w137 =>
M.ld Value.bool (b64.add 2) w137 fun t140 =>
M.ite t140 (
M.ld (Value.int .i64) (b64.add 3) w137 fun t143 =>
M.st b4 (Value.int .i64 t143) w137 fun w145 =>
M.ld (Value.float .f64) (b4.add 1) w145 fun t148 =>
Calls Try.prog 25 #[(Value.float .f64 t148), (Value.int .i64 (1 : Int))] w145 (R25 fun r150 w151 =>
M.ite r150 (
∃ (t153 : Int) (t154 : Nat) (t155 : SV) (t156 : SV), Cs w151 b4 0 [(Value.int .i64 t153), (Value.float .f64 t154), (SV.v t155), (SV.v t156)] ∧
M.stA b2 [(Value.int .i64 t153), (Value.float .f64 t154), (SV.v t155), (SV.v t156)] w151 fun w158 =>
∃ (t160 : Int) (t161 : Nat) (t162 : SV) (t163 : SV), Cs w158 b2 0 [(Value.int .i64 t160), (Value.float .f64 t161), (SV.v t162), (SV.v t163)] ∧
K t160 t161 t162 t163 (22 : Int) w158) (
∃ (t165 : Int) (t166 : Nat) (t167 : SV) (t168 : SV), Cs w151 b4 0 [(Value.int .i64 t165), (Value.float .f64 t166), (SV.v t167), (SV.v t168)] ∧
M.stA b2 [(Value.int .i64 t165), (Value.float .f64 t166), (SV.v t167), (SV.v t168)] w151 fun w170 =>
∃ (t172 : Int) (t173 : Nat) (t174 : SV) (t175 : SV), Cs w170 b2 0 [(Value.int .i64 t172), (Value.float .f64 t173), (SV.v t174), (SV.v t175)] ∧
K t172 t173 t174 t175 (0 : Int) w170))) (
M.ld (Value.int .u32) (b64.add 4) w137 fun t177 =>
J31 t177 w137)))))))) p1 w10)) fun J5 => 
M.ite (Option.isNone p0) (
J5 true w3) (
M.ite (decide (p2 < (1 : Int))) (
J5 true w3) (
J5 (decide ((8 : Int) < p2)) w3))
theorem F28_ok {w0 : World} {p0 : Option Addr} {p1 : Int} {p2 : Int} {K : Int → Nat → SV → SV → Int → World → Prop} (h : F28 p0 p1 p2 K w0) : Calls Try.prog 28 #[(Value.pointer p0), (Value.int .u32 p1), (Value.int .i64 p2)] w0 (R28 K) := by
  refine calls_of_WE (args := [(Value.pointer p0), (Value.int .u32 p1), (Value.int .i64 p2)]) (rs := [.cell 6 70, .tmp 7]) Try.func28 rfl (N := 81) rfl rfl rfl rfl ?_
  refine WE.seq ?_
  refine WE.reg ?_
  obtain ⟨b2, hpb2, w1, hww1, h⟩ := M.new_use h
  refine LE.r (v := (Value.pointer (some b2))) (Wn.no rfl) rfl (R.alloc (cs := #[(Value.int .i64 (0 : Int)), (Value.float .f64 (0 : Nat)), (SV.v SV.nil), (SV.v SV.nil)]) ze70 rfl hpb2 hww1) ?_
  refine LE.p (v := (Value.int .i64 (0 : Int))) (Wn.no rfl) rfl (R.assign rfl) ?_
  refine LE.nil ?_
  refine WE.scope ?_
  refine WE.seq ?_
  refine WE.reg ?_
  obtain ⟨b4, hpb4, w3, hww3, h⟩ := M.new_use h
  refine LE.r (v := (Value.pointer (some b4))) (Wn.no rfl) rfl (R.alloc (cs := #[(Value.int .i64 (0 : Int)), (Value.float .f64 (0 : Nat)), (SV.v SV.nil), (SV.v SV.nil)]) ze70 rfl hpb4 hww3) ?_
  refine LE.nil ?_
  refine WE.seq ?_
  refine WE.seq ?_
  obtain ⟨J5, hJ5, h⟩ := M.join_use h
  refine WE.regJ (fun e w => ∃ (x6 : Bool), J5 x6 w ∧ e 0 = (Value.pointer p0) ∧ e 1 = (Value.int .u32 p1) ∧ e 2 = (Value.int .i64 p2) ∧ e 6 = (Value.pointer (some b2)) ∧ e 8 = (Value.pointer (some b4)) ∧ e 20 = (Value.bool x6)) ?_ ?_
  · clear hJ5
    refine LE.p (v := (Value.pointer p0)) (Wn.no rfl) rfl (R.move rfl) ?_
    refine LE.p (v := (Value.bool (Option.isNone p0))) (Wn.no rfl) rfl (R.peqNil pt24 rfl rfl) ?_
    refine LE.p (v := (Value.bool (Option.isNone p0))) (Wn.no rfl) rfl (R.move rfl) ?_
    rcases M.ite_use h with ⟨hb7, h⟩ | ⟨hb7, h⟩
    · refine LE.u (Un.no 2 13 false rfl rfl rfl (congrArg Value.bool hb7)) ?_
      refine LE.u (Un.no 2 13 false rfl rfl rfl (congrArg Value.bool hb7)) ?_
      refine LE.p (v := (Value.bool true)) (Wn.no rfl) rfl (R.pickT (congrArg Value.bool hb7) rfl) ?_
      refine LE.p (v := (Value.bool true)) (Wn.no rfl) rfl (R.move rfl) ?_
      refine LE.u (Un.no 6 17 false rfl rfl rfl rfl) ?_
      refine LE.u (Un.no 6 17 false rfl rfl rfl rfl) ?_
      refine LE.p (v := (Value.bool true)) (Wn.no rfl) rfl (R.pickT rfl rfl) ?_
      refine LE.nil ?_
      exact ⟨_, h, rfl, rfl, rfl, rfl, rfl, rfl⟩
    · refine LE.p (v := (Value.int .i64 p2)) (Wn.yes 2 13 false rfl rfl rfl (congrArg Value.bool hb7)) rfl (R.move rfl) ?_
      refine LE.p (v := (Value.bool (decide (p2 < (1 : Int))))) (Wn.yes 2 13 false rfl rfl rfl (congrArg Value.bool hb7)) rfl (R.lss rfl rfl) ?_
      refine LE.p (v := (Value.bool (decide (p2 < (1 : Int))))) (Wn.no rfl) rfl (R.pickF (congrArg Value.bool hb7) rfl) ?_
      refine LE.p (v := (Value.bool (decide (p2 < (1 : Int))))) (Wn.no rfl) rfl (R.move rfl) ?_
      rcases M.ite_use h with ⟨hb8, h⟩ | ⟨hb8, h⟩
      · refine LE.u (Un.no 6 17 false rfl rfl rfl (congrArg Value.bool hb8)) ?_
        refine LE.u (Un.no 6 17 false rfl rfl rfl (congrArg Value.bool hb8)) ?_
        refine LE.p (v := (Value.bool true)) (Wn.no rfl) rfl (R.pickT (congrArg Value.bool hb8) rfl) ?_
        refine LE.nil ?_
        exact ⟨_, h, rfl, rfl, rfl, rfl, rfl, rfl⟩
      · refine LE.p (v := (Value.int .i64 p2)) (Wn.yes 6 17 false rfl rfl rfl (congrArg Value.bool hb8)) rfl (R.move rfl) ?_
        refine LE.p (v := (Value.bool (decide ((8 : Int) < p2)))) (Wn.yes 6 17 false rfl rfl rfl (congrArg Value.bool hb8)) rfl (R.gtr rfl rfl) ?_
        refine LE.p (v := (Value.bool (decide ((8 : Int) < p2)))) (Wn.no rfl) rfl (R.pickF (congrArg Value.bool hb8) rfl) ?_
        refine LE.nil ?_
        exact ⟨_, h, rfl, rfl, rfl, rfl, rfl, rfl⟩
  · rintro e9 w10 ⟨x6, h, f11, f12, f13, f14, f15, f16⟩
    subst hJ5
    refine WE.condT rfl (b := x6) f16 ?_ ?_
    · intro hb17
      replace h := M.ite_t h hb17
      refine WE.seq ?_
      refine WE.reg ?_
      obtain ⟨t18, t19, t20, t21, h22, h⟩ := h
      refine LE.r (v := (Value.agg #[(Value.int .i64 t18), (Value.float .f64 t19), (SV.v t20), (SV.v t21)])) (Wn.no rfl) rfl (R.ldA ag70 sz70 f15 rfl h22) ?_
      obtain ⟨w23, hww23, h24, h⟩ := M.stA_use h
      refine LE.s (Wn.no rfl) rfl (R.stA (a := b2) [(Value.int .i64 t18), (Value.float .f64 t19), (SV.v t20), (SV.v t21)] sz70 f14 rfl rfl (by simp [Value.oneCell']) h24 hww23) ?_
      refine LE.p (v := (Value.int .i64 (1 : Int))) (Wn.no rfl) rfl (R.assign rfl) ?_
      refine LE.nil ?_
      refine WE.ret ?_
      obtain ⟨t25, t26, t27, t28, h29, h⟩ := h
      exact ⟨_, (Res.cell f14 (R.ldCellA ag70 sz70 rfl h29) (Res.tmp rfl Res.nil)), _, _, _, _, _, rfl, h⟩
    · intro hb17
      replace h := M.ite_f h hb17
      refine WE.skip ?_
      refine WE.seq ?_
      refine WE.label ?_
      refine WE.seq ?_
      refine WE.block ?_
      obtain ⟨I35, ⟨n34, h⟩, hr36⟩ := h
      refine WE.loop (fun n e w => ∃ (x30 : Int), I35 n x30 w ∧ e 0 = (Value.pointer p0) ∧ e 1 = (Value.int .u32 x30) ∧ e 2 = (Value.int .i64 p2) ∧ e 6 = (Value.pointer (some b2)) ∧ e 8 = (Value.pointer (some b4))) n34 ⟨_, h, f11, f12, f13, f14, f15⟩ ?_
      clear h
      rintro n34 e33 w32 ⟨x30, h, f39, f40, f41, f42, f43⟩
      replace h := hr36 n34 x30 w32 h
      refine WE.block ?_
      refine WE.seq ?_
      refine WE.reg ?_
      refine LE.p (v := (Value.pointer (some (b4.add 3)))) (Wn.no rfl) rfl (R.fld (off := 3) fa70_2 f43) ?_
      obtain ⟨t44, h45, h⟩ := h
      refine LE.r (v := (SV.v t44)) (Wn.no rfl) rfl (R.ld sc68 rfl h45) ?_
      refine LE.p (v := (Value.int .u32 x30)) (Wn.no rfl) rfl (R.move f40) ?_
      obtain ⟨b48, hpb48, w46, hww46, h⟩ := M.new_use h
      refine LE.r (v := (SV.v (SV.mk (some b48) 1 1))) (Wn.no rfl) rfl (R.bsl (by exact (Ls.cons (R.Pr rfl) Ls.nil)) (fun w => bs68_1 x30 w) hpb48 hww46) ?_
      obtain ⟨s49, w50, h51, h⟩ := h
      refine LE.r (v := (SV.v s49)) (Wn.no rfl) rfl (R.app (s := t44) (r := s49) rfl rfl h51) ?_
      refine LE.p (v := (Value.pointer (some (b4.add 3)))) (Wn.no rfl) rfl (R.fld (off := 3) fa70_2 f43) ?_
      obtain ⟨w52, hww52, h53, h54, h⟩ := M.st_use h
      refine LE.s (Wn.no rfl) rfl (R.st (a := (b4.add 3)) (v := (SV.v s49)) sz68 rfl rfl rfl rfl h53 h54 hww52) ?_
      refine LE.nil ?_
      refine WE.seq ?_
      refine WE.reg ?_
      refine LE.p (v := (Value.pointer p0)) (Wn.no rfl) rfl (R.move f39) ?_
      refine LE.p (v := (Value.int .u32 x30)) (Wn.no rfl) rfl (R.move f40) ?_
      refine LE.c (Wn.no rfl) rfl (R.call bd43 (Ls.cons rfl (Ls.cons rfl Ls.nil)) rfl) (Calls.mono h ?_)
      rintro _ w62 ⟨r55, r56, r57, r58, r59, r60, r61, rfl, h⟩
      refine ⟨_, rfl, ?_⟩
      refine LE.p (v := (Value.tuple #[(Value.agg #[(Value.int .u32 r55), (Value.int .i64 r56), (Value.bool r57), (Value.int .i64 r58), (Value.int .u32 r59), (Value.float .f64 r60)]), (Value.bool r61)])) (Wn.no rfl) rfl (R.move rfl) ?_
      refine LE.p (v := (Value.agg #[(Value.int .u32 r55), (Value.int .i64 r56), (Value.bool r57), (Value.int .i64 r58), (Value.int .u32 r59), (Value.float .f64 r60)])) (Wn.no rfl) rfl (R.ext rfl rfl) ?_
      refine LE.p (v := (Value.bool r61)) (Wn.no rfl) rfl (R.ext rfl rfl) ?_
      obtain ⟨b64, hpb64, w63, hww63, h⟩ := M.new_use h
      refine LE.r (v := (Value.pointer (some b64))) (Wn.no rfl) rfl (R.alloc (cs := #[(Value.int .u32 (0 : Int)), (Value.int .i64 (0 : Int)), (Value.bool false), (Value.int .i64 (0 : Int)), (Value.int .u32 (0 : Int)), (Value.float .f64 (0 : Nat))]) ze32 rfl hpb64 hww63) ?_
      obtain ⟨w65, hww65, h66, h⟩ := M.stA_use h
      refine LE.s (Wn.no rfl) rfl (R.stA (a := b64) [(Value.int .u32 r55), (Value.int .i64 r56), (Value.bool r57), (Value.int .i64 r58), (Value.int .u32 r59), (Value.float .f64 r60)] sz32 rfl rfl rfl (by simp [Value.oneCell']) h66 hww65) ?_
      refine LE.p (v := (Value.bool r61)) (Wn.no rfl) rfl (R.assign rfl) ?_
      refine LE.nil ?_
      refine WE.seq ?_
      refine WE.block ?_
      refine WE.seq ?_
      refine WE.reg ?_
      refine LE.p (v := (Value.bool r61)) (Wn.no rfl) rfl (R.move rfl) ?_
      refine LE.p (v := (Value.bool (!r61))) (Wn.no rfl) rfl (R.not rfl) ?_
      refine LE.p (v := (Value.bool (!r61))) (Wn.no rfl) rfl (R.assign rfl) ?_
      refine LE.nil ?_
      refine WE.condT rfl (b := (!r61)) rfl ?_ ?_
      · intro hb67
        replace h := M.ite_t h hb67
        refine WE.seq ?_
        refine WE.reg ?_
        obtain ⟨t68, t69, t70, t71, h72, h⟩ := h
        refine LE.r (v := (Value.agg #[(Value.int .i64 t68), (Value.float .f64 t69), (SV.v t70), (SV.v t71)])) (Wn.no rfl) rfl (R.ldA ag70 sz70 f43 rfl h72) ?_
        obtain ⟨w73, hww73, h74, h⟩ := M.stA_use h
        refine LE.s (Wn.no rfl) rfl (R.stA (a := b2) [(Value.int .i64 t68), (Value.float .f64 t69), (SV.v t70), (SV.v t71)] sz70 f42 rfl rfl (by simp [Value.oneCell']) h74 hww73) ?_
        refine LE.p (v := (Value.int .i64 (22 : Int))) (Wn.no rfl) rfl (R.assign rfl) ?_
        refine LE.nil ?_
        refine WE.ret ?_
        obtain ⟨t75, t76, t77, t78, h79, h⟩ := h
        exact ⟨_, (Res.cell f42 (R.ldCellA ag70 sz70 rfl h79) (Res.tmp rfl Res.nil)), _, _, _, _, _, rfl, h⟩
      · intro hb67
        replace h := M.ite_f h hb67
        refine WE.seq ?_
        refine WE.reg ?_
        refine LE.p (v := (Value.pointer (some (b4.add 2)))) (Wn.no rfl) rfl (R.fld (off := 2) fa70_1 f43) ?_
        obtain ⟨t80, h81, h⟩ := h
        refine LE.r (v := (SV.v t80)) (Wn.no rfl) rfl (R.ld sc40 rfl h81) ?_
        refine LE.p (v := (Value.pointer (some b64))) (Wn.no rfl) rfl (R.fld (off := 0) fa32_0 rfl) ?_
        obtain ⟨t82, h83, h⟩ := h
        obtain ⟨t84, h85, h⟩ := h
        refine LE.r (v := (Value.agg #[(Value.int .u32 t82), (Value.int .i64 t84)])) (Wn.no rfl) rfl (R.ldA ag28 sz28 rfl rfl (Cs.cons h83 (Cs.cons h85 Cs.nil))) ?_
        refine LE.c (Wn.no rfl) rfl (R.call bd31 (Ls.cons rfl (Ls.cons rfl Ls.nil)) rfl) (Calls.mono h ?_)
        rintro _ w87 ⟨r86, rfl, h⟩
        refine ⟨_, rfl, ?_⟩
        refine LE.p (v := (Value.bool r86)) (Wn.no rfl) rfl (R.assign rfl) ?_
        refine LE.nil ?_
        refine WE.condT rfl (b := r86) rfl ?_ ?_
        · intro hb88
          replace h := M.ite_t h hb88
          refine WE.seq ?_
          refine WE.reg ?_
          obtain ⟨t89, t90, t91, t92, h93, h⟩ := h
          refine LE.r (v := (Value.agg #[(Value.int .i64 t89), (Value.float .f64 t90), (SV.v t91), (SV.v t92)])) (Wn.no rfl) rfl (R.ldA ag70 sz70 f43 rfl h93) ?_
          obtain ⟨w94, hww94, h95, h⟩ := M.stA_use h
          refine LE.s (Wn.no rfl) rfl (R.stA (a := b2) [(Value.int .i64 t89), (Value.float .f64 t90), (SV.v t91), (SV.v t92)] sz70 f42 rfl rfl (by simp [Value.oneCell']) h95 hww94) ?_
          refine LE.p (v := (Value.int .i64 (26 : Int))) (Wn.no rfl) rfl (R.assign rfl) ?_
          refine LE.nil ?_
          refine WE.ret ?_
          obtain ⟨t96, t97, t98, t99, h100, h⟩ := h
          exact ⟨_, (Res.cell f42 (R.ldCellA ag70 sz70 rfl h100) (Res.tmp rfl Res.nil)), _, _, _, _, _, rfl, h⟩
        · intro hb88
          replace h := M.ite_f h hb88
          refine WE.seq ?_
          refine WE.reg ?_
          refine LE.p (v := (Value.pointer (some (b4.add 2)))) (Wn.no rfl) rfl (R.fld (off := 2) fa70_1 f43) ?_
          obtain ⟨t101, h102, h⟩ := h
          refine LE.r (v := (SV.v t101)) (Wn.no rfl) rfl (R.ld sc40 rfl h102) ?_
          refine LE.p (v := (Value.int .i64 (t101.len : Int))) (Wn.no rfl) rfl (R.len sl40 rfl) ?_
          refine LE.p (v := (Value.int .i64 p2)) (Wn.no rfl) rfl (R.move f41) ?_
          refine LE.p (v := (Value.bool ((t101.len : Int) == p2))) (Wn.no rfl) rfl (R.eql rfl rfl) ?_
          refine LE.p (v := (Value.bool ((t101.len : Int) == p2))) (Wn.no rfl) rfl (R.assign rfl) ?_
          refine LE.nil ?_
          refine WE.condT rfl (b := ((t101.len : Int) == p2)) rfl ?_ ?_
          · intro hb103
            replace h := M.ite_t h hb103
            refine WE.seq ?_
            refine WE.reg ?_
            obtain ⟨t104, t105, t106, t107, h108, h⟩ := h
            refine LE.r (v := (Value.agg #[(Value.int .i64 t104), (Value.float .f64 t105), (SV.v t106), (SV.v t107)])) (Wn.no rfl) rfl (R.ldA ag70 sz70 f43 rfl h108) ?_
            obtain ⟨w109, hww109, h110, h⟩ := M.stA_use h
            refine LE.s (Wn.no rfl) rfl (R.stA (a := b2) [(Value.int .i64 t104), (Value.float .f64 t105), (SV.v t106), (SV.v t107)] sz70 f42 rfl rfl (by simp [Value.oneCell']) h110 hww109) ?_
            refine LE.p (v := (Value.int .i64 (27 : Int))) (Wn.no rfl) rfl (R.assign rfl) ?_
            refine LE.nil ?_
            refine WE.ret ?_
            obtain ⟨t111, t112, t113, t114, h115, h⟩ := h
            exact ⟨_, (Res.cell f42 (R.ldCellA ag70 sz70 rfl h115) (Res.tmp rfl Res.nil)), _, _, _, _, _, rfl, h⟩
          · intro hb103
            replace h := M.ite_f h hb103
            refine WE.skip ?_
            refine WE.seq ?_
            refine WE.reg ?_
            refine LE.p (v := (Value.pointer (some (b4.add 2)))) (Wn.no rfl) rfl (R.fld (off := 2) fa70_1 f43) ?_
            obtain ⟨t116, h117, h⟩ := h
            refine LE.r (v := (SV.v t116)) (Wn.no rfl) rfl (R.ld sc40 rfl h117) ?_
            refine LE.p (v := (Value.pointer (some b64))) (Wn.no rfl) rfl (R.fld (off := 0) fa32_0 rfl) ?_
            obtain ⟨t118, h119, h⟩ := h
            obtain ⟨t120, h121, h⟩ := h
            refine LE.r (v := (Value.agg #[(Value.int .u32 t118), (Value.int .i64 t120)])) (Wn.no rfl) rfl (R.ldA ag28 sz28 rfl rfl (Cs.cons h119 (Cs.cons h121 Cs.nil))) ?_
            obtain ⟨b124, hpb124, w122, hww122, h⟩ := M.new_use h
            refine LE.r (v := (SV.v (SV.mk (some b124) 1 1))) (Wn.no rfl) rfl (R.bsl (by exact (Ls.cons (R.Pr rfl) Ls.nil)) (fun w => bs40_1 t118 t120 w) hpb124 hww122) ?_
            obtain ⟨s125, w126, h127, h⟩ := h
            refine LE.r (v := (SV.v s125)) (Wn.no rfl) rfl (R.app (s := t116) (r := s125) rfl rfl h127) ?_
            refine LE.p (v := (Value.pointer (some (b4.add 2)))) (Wn.no rfl) rfl (R.fld (off := 2) fa70_1 f43) ?_
            obtain ⟨w128, hww128, h129, h130, h⟩ := M.st_use h
            refine LE.s (Wn.no rfl) rfl (R.st (a := (b4.add 2)) (v := (SV.v s125)) sz40 rfl rfl rfl rfl h129 h130 hww128) ?_
            refine LE.nil ?_
            refine WE.seq ?_
            refine WE.reg ?_
            refine LE.p (v := (Value.pointer (some b4))) (Wn.no rfl) rfl (R.fld (off := 0) fa70_0 f43) ?_
            refine LE.p (v := (Value.pointer (some (b4.add 1)))) (Wn.no rfl) rfl (R.fld (off := 1) fa37_1 rfl) ?_
            obtain ⟨t131, h132, h⟩ := h
            refine LE.r (v := (Value.float .f64 t131)) (Wn.no rfl) rfl (R.ld sc22 rfl h132) ?_
            refine LE.p (v := (Value.pointer (some (b64.add 5)))) (Wn.no rfl) rfl (R.fld (off := 5) fa32_4 rfl) ?_
            obtain ⟨t133, h134, h⟩ := h
            refine LE.r (v := (Value.float .f64 t133)) (Wn.no rfl) rfl (R.ld sc22 rfl h134) ?_
            refine LE.c (Wn.no rfl) rfl (R.call bd44 (Ls.cons rfl (Ls.cons rfl Ls.nil)) rfl) (Calls.mono h ?_)
            rintro _ w136 ⟨r135, rfl, h⟩
            refine ⟨_, rfl, ?_⟩
            refine LE.p (v := (Value.pointer (some b4))) (Wn.no rfl) rfl (R.fld (off := 0) fa70_0 f43) ?_
            refine LE.p (v := (Value.pointer (some (b4.add 1)))) (Wn.no rfl) rfl (R.fld (off := 1) fa37_1 rfl) ?_
            obtain ⟨w137, hww137, h138, h139, h⟩ := M.st_use h
            refine LE.s (Wn.no rfl) rfl (R.st (a := (b4.add 1)) (v := (Value.float .f64 r135)) sz22 rfl rfl rfl rfl h138 h139 hww137) ?_
            refine LE.nil ?_
            refine WE.seq ?_
            refine WE.seq ?_
            refine WE.reg ?_
            refine LE.p (v := (Value.pointer (some (b64.add 2)))) (Wn.no rfl) rfl (R.fld (off := 2) fa32_1 rfl) ?_
            obtain ⟨t140, h141, h⟩ := h
            refine LE.r (v := (Value.bool t140)) (Wn.no rfl) rfl (R.ld sc4 rfl h141) ?_
            refine LE.nil ?_
            refine WE.condT rfl (b := t140) rfl ?_ ?_
            · intro hb142
              replace h := M.ite_t h hb142
              refine WE.seq ?_
              refine WE.reg ?_
              refine LE.p (v := (Value.pointer (some (b64.add 3)))) (Wn.no rfl) rfl (R.fld (off := 3) fa32_2 rfl) ?_
              obtain ⟨t143, h144, h⟩ := h
              refine LE.r (v := (Value.int .i64 t143)) (Wn.no rfl) rfl (R.ld sc3 rfl h144) ?_
              refine LE.p (v := (Value.pointer (some b4))) (Wn.no rfl) rfl (R.fld (off := 0) fa70_0 f43) ?_
              refine LE.p (v := (Value.pointer (some b4))) (Wn.no rfl) rfl (R.fld (off := 0) fa37_0 rfl) ?_
              obtain ⟨w145, hww145, h146, h147, h⟩ := M.st_use h
              refine LE.s (Wn.no rfl) rfl (R.st (a := b4) (v := (Value.int .i64 t143)) sz3 rfl rfl rfl rfl h146 h147 hww145) ?_
              refine LE.nil ?_
              refine WE.exit ?_
              refine WE.seq ?_
              refine WE.seq ?_
              refine WE.reg ?_
              refine LE.p (v := (Value.pointer (some b4))) (Wn.no rfl) rfl (R.fld (off := 0) fa70_0 f43) ?_
              refine LE.p (v := (Value.pointer (some (b4.add 1)))) (Wn.no rfl) rfl (R.fld (off := 1) fa37_1 rfl) ?_
              obtain ⟨t148, h149, h⟩ := h
              refine LE.r (v := (Value.float .f64 t148)) (Wn.no rfl) rfl (R.ld sc22 rfl h149) ?_
              refine LE.c (Wn.no rfl) rfl (R.call bd25 (Ls.cons rfl (Ls.cons rfl Ls.nil)) rfl) (Calls.mono h ?_)
              rintro _ w151 ⟨r150, rfl, h⟩
              refine ⟨_, rfl, ?_⟩
              refine LE.nil ?_
              refine WE.condT rfl (b := r150) rfl ?_ ?_
              · intro hb152
                replace h := M.ite_t h hb152
                refine WE.seq ?_
                refine WE.reg ?_
                obtain ⟨t153, t154, t155, t156, h157, h⟩ := h
                refine LE.r (v := (Value.agg #[(Value.int .i64 t153), (Value.float .f64 t154), (SV.v t155), (SV.v t156)])) (Wn.no rfl) rfl (R.ldA ag70 sz70 f43 rfl h157) ?_
                obtain ⟨w158, hww158, h159, h⟩ := M.stA_use h
                refine LE.s (Wn.no rfl) rfl (R.stA (a := b2) [(Value.int .i64 t153), (Value.float .f64 t154), (SV.v t155), (SV.v t156)] sz70 f42 rfl rfl (by simp [Value.oneCell']) h159 hww158) ?_
                refine LE.p (v := (Value.int .i64 (22 : Int))) (Wn.no rfl) rfl (R.assign rfl) ?_
                refine LE.nil ?_
                refine WE.ret ?_
                obtain ⟨t160, t161, t162, t163, h164, h⟩ := h
                exact ⟨_, (Res.cell f42 (R.ldCellA ag70 sz70 rfl h164) (Res.tmp rfl Res.nil)), _, _, _, _, _, rfl, h⟩
              · intro hb152
                replace h := M.ite_f h hb152
                refine WE.skip ?_
                refine WE.seq ?_
                refine WE.reg ?_
                obtain ⟨t165, t166, t167, t168, h169, h⟩ := h
                refine LE.r (v := (Value.agg #[(Value.int .i64 t165), (Value.float .f64 t166), (SV.v t167), (SV.v t168)])) (Wn.no rfl) rfl (R.ldA ag70 sz70 f43 rfl h169) ?_
                obtain ⟨w170, hww170, h171, h⟩ := M.stA_use h
                refine LE.s (Wn.no rfl) rfl (R.stA (a := b2) [(Value.int .i64 t165), (Value.float .f64 t166), (SV.v t167), (SV.v t168)] sz70 f42 rfl rfl (by simp [Value.oneCell']) h171 hww170) ?_
                refine LE.p (v := (Value.int .i64 (0 : Int))) (Wn.no rfl) rfl (R.assign rfl) ?_
                refine LE.nil ?_
                refine WE.ret ?_
                obtain ⟨t172, t173, t174, t175, h176, h⟩ := h
                exact ⟨_, (Res.cell f42 (R.ldCellA ag70 sz70 rfl h176) (Res.tmp rfl Res.nil)), _, _, _, _, _, rfl, h⟩
            · intro hb142
              replace h := M.ite_f h hb142
              refine WE.skip ?_
              refine WE.reg ?_
              refine LE.p (v := (Value.pointer (some (b64.add 4)))) (Wn.no rfl) rfl (R.fld (off := 4) fa32_3 rfl) ?_
              obtain ⟨t177, h178, h⟩ := h
              refine LE.r (v := (Value.int .u32 t177)) (Wn.no rfl) rfl (R.ld sc26 rfl h178) ?_
              refine LE.p (v := (Value.int .u32 t177)) (Wn.no rfl) rfl (R.assign rfl) ?_
              refine LE.nil ?_
              obtain ⟨m37, hm38, h⟩ := h
              exact ⟨m37, hm38, _, h, f39, rfl, f41, f42, f43⟩
end Go.Proofs.Ytecegjimdohmeaa
