/-
  Printed by gen.py: the formula of each function, and that it holds of the function.
-/
import Derived.Test.YtnkpjlojijppiaaTy
namespace Go.Proofs.Ytnkpjlojijppiaa
set_option linter.unusedVariables false
set_option linter.unusedSimpArgs false
open Go.Sp
set_option linter.unusedVariables false
/-- The formula of signpost.signpostkeep.Way. -/
def F9 (p0_0 : Int) (p0_1 : Int) (p0_2 : Bool) (p0_3 : Int) (p0_4 : Int) (p0_5 : Nat) (K : Int → Int → Bool → Int → Int → Nat → World → Prop) (w0 : World) : Prop :=
M.new (.cells #[(Value.int .u32 p0_0), (Value.int .i64 p0_1), (Value.bool p0_2), (Value.int .i64 p0_3), (Value.int .u32 p0_4), (Value.float .f64 p0_5)] 33) w0 fun b2 w1 =>
M.new (.cells #[(Value.int .u32 (0 : Int)), (Value.int .i64 (0 : Int)), (Value.bool false), (Value.int .i64 (0 : Int)), (Value.int .u32 (0 : Int)), (Value.float .f64 (0 : Nat))] 33) w1 fun b4 w3 =>
M.join (fun (x6 : Addr) (w56 : World) => 
M.join (fun (w78 : World) => 
M.join (fun (w94 : World) => 
M.ld Value.bool (b2.add 2) w94 fun t98 =>
M.ite t98 (
M.st (x6.add 2) (Value.bool true) w94 fun w101 =>
M.ld (Value.int .i64) (b2.add 3) w101 fun t104 =>
Calls Try.prog 31 #[(Value.int .i64 t104), (Value.int .i64 (0 : Int)), (Value.int .i64 (5 : Int))] w101 (R31 fun r106 w107 =>
M.st (x6.add 3) (Value.int .i64 r106) w107 fun w108 =>
∃ (t111 : Int) (t112 : Int) (t113 : Bool) (t114 : Int) (t115 : Int) (t116 : Nat), Cs w108 x6 0 [(Value.int .u32 t111), (Value.int .i64 t112), (Value.bool t113), (Value.int .i64 t114), (Value.int .u32 t115), (Value.float .f64 t116)] ∧
M.stA b4 [(Value.int .u32 t111), (Value.int .i64 t112), (Value.bool t113), (Value.int .i64 t114), (Value.int .u32 t115), (Value.float .f64 t116)] w108 fun w118 =>
∃ (t120 : Int) (t121 : Int) (t122 : Bool) (t123 : Int) (t124 : Int) (t125 : Nat), Cs w118 b4 0 [(Value.int .u32 t120), (Value.int .i64 t121), (Value.bool t122), (Value.int .i64 t123), (Value.int .u32 t124), (Value.float .f64 t125)] ∧
K t120 t121 t122 t123 t124 t125 w118)) (
M.ld (Value.int .u32) (b2.add 4) w94 fun t127 =>
M.st (x6.add 4) (Value.int .u32 (bOr .u32 (3325256704 : Int) (Int.tmod t127 (4 : Int)))) w94 fun w129 =>
M.join (fun (w144 : World) => 
∃ (t147 : Int) (t148 : Int) (t149 : Bool) (t150 : Int) (t151 : Int) (t152 : Nat), Cs w144 x6 0 [(Value.int .u32 t147), (Value.int .i64 t148), (Value.bool t149), (Value.int .i64 t150), (Value.int .u32 t151), (Value.float .f64 t152)] ∧
M.stA b4 [(Value.int .u32 t147), (Value.int .i64 t148), (Value.bool t149), (Value.int .i64 t150), (Value.int .u32 t151), (Value.float .f64 t152)] w144 fun w154 =>
∃ (t156 : Int) (t157 : Int) (t158 : Bool) (t159 : Int) (t160 : Int) (t161 : Nat), Cs w154 b4 0 [(Value.int .u32 t156), (Value.int .i64 t157), (Value.bool t158), (Value.int .i64 t159), (Value.int .u32 t160), (Value.float .f64 t161)] ∧
K t156 t157 t158 t159 t160 t161 w154) fun J132 => 
M.ld (Value.int .u32) (b2.add 4) w129 fun t133 =>
M.ite ((Int.tmod t133 (5 : Int)) == (0 : Int)) (
M.ld (Value.int .u32) (b2.add 4) w129 fun t136 =>
Calls Try.prog 32 #[(Value.int .u32 t136)] w129 (R32 fun r138 w139 =>
M.st (x6.add 4) (Value.int .u32 r138) w139 fun w140 =>
J132 w140)) (
J132 w129))) fun J82 => 
M.ld (Value.float .f64) (b2.add 5) w78 fun t83 =>
M.ite (!(fGeq t83 (0 : Nat))) (
M.ld (Value.int .i64) (b2.add 3) w78 fun t86 =>
Calls Try.prog 31 #[(Value.int .i64 t86), (Value.int .i64 (0 : Int)), (Value.int .i64 (3 : Int))] w78 (R31 fun r88 w89 =>
M.st (x6.add 5) (Value.float .f64 (fOfInt r88)) w89 fun w90 =>
J82 w90)) (
J82 w78)) fun J60 => 
M.ld (Value.int .i64) (b2.add 1) w56 fun t61 =>
M.ite ((Int.tmod t61 (3 : Int)) == (0 : Int)) (
M.drew w56 fun w64 => 
M.ld (Value.int .u32) b2 w64 fun t65 =>
M.ld (Value.int .i64) (b2.add 1) w64 fun t67 =>
Calls Try.prog 31 #[(Value.int .i64 t67), (Value.int .i64 (0 : Int)), (Value.int .i64 (2 : Int))] w64 (R31 fun r69 w70 =>
M.keep (w70.cell? b2 = some (Value.int .u32 t65)) <|
Calls Try.prog 30 #[(Value.int .u32 (bOr .u32 (3325256704 : Int) (Int.tmod t65 (4 : Int)))), (Value.int .i64 (IntKind.i64.wrap ((30 : Int) + r69)))] w70 (R30 fun r72 r73 w74 =>
M.stA x6 [(Value.int .u32 r72), (Value.int .i64 r73)] w74 fun w75 =>
J60 w75))) (
J60 w56)) fun J5 => 
M.drew w3 fun w7 => 
M.ld (Value.int .u32) b2 w7 fun t8 =>
M.ld (Value.int .i64) (b2.add 1) w7 fun t10 =>
M.ld (Value.float .f64) (b2.add 5) w7 fun t12 =>
M.both (
Calls Try.prog 31 #[(Value.int .i64 t10), (Value.int .i64 (0 : Int)), (Value.int .i64 (3 : Int))] w7 (R31 fun r14 w15 =>
M.keep (w15.cell? (b2.add 5) = some (Value.float .f64 t12)) <|
M.keep (w15.cell? b2 = some (Value.int .u32 t8)) <|
M.both (
Calls Try.prog 30 #[(Value.int .u32 (bOr .u32 (3221225984 : Int) (Int.tmod t8 (8 : Int)))), (Value.int .i64 (IntKind.i64.wrap ((29 : Int) + r14)))] w15 (R30 fun r18 r19 w20 =>
M.keep (w20.cell? (b2.add 5) = some (Value.float .f64 t12)) <|
M.new (.cells #[(Value.int .u32 (0 : Int)), (Value.int .i64 (0 : Int)), (Value.bool false), (Value.int .i64 (0 : Int)), (Value.int .u32 (0 : Int)), (Value.float .f64 (0 : Nat))] 33) w20 fun b23 w22 =>
M.keep (w22.cell? (b2.add 5) = some (Value.float .f64 t12)) <|
M.keep (w22.cell? (b2.add 1) = some (Value.int .i64 t10)) <|
M.keep (w22.cell? b2 = some (Value.int .u32 t8)) <|
M.stA b23 [(Value.int .u32 r18), (Value.int .i64 r19), (Value.bool false), (Value.int .i64 (0 : Int)), (Value.int .u32 (0 : Int)), (Value.float .f64 t12)] w22 fun w27 =>
J5 b23 w27)) (
M.new (.cells #[(Value.int .u32 (0 : Int)), (Value.int .i64 (0 : Int)), (Value.bool false), (Value.int .i64 (0 : Int)), (Value.int .u32 (0 : Int)), (Value.float .f64 (0 : Nat))] 33) w15 fun b30 w29 =>
M.keep (w29.cell? (b2.add 5) = some (Value.float .f64 t12)) <|
M.keep (w29.cell? (b2.add 1) = some (Value.int .i64 t10)) <|
M.keep (w29.cell? b2 = some (Value.int .u32 t8)) <|
Calls Try.prog 30 #[(Value.int .u32 (bOr .u32 (3221225984 : Int) (Int.tmod t8 (8 : Int)))), (Value.int .i64 (IntKind.i64.wrap ((29 : Int) + r14)))] w29 (R30 fun r34 r35 w36 =>
M.keep (w36.cell? (b2.add 5) = some (Value.float .f64 t12)) <|
M.stA b30 [(Value.int .u32 r34), (Value.int .i64 r35), (Value.bool false), (Value.int .i64 (0 : Int)), (Value.int .u32 (0 : Int)), (Value.float .f64 t12)] w36 fun w38 =>
J5 b30 w38)))) (
M.new (.cells #[(Value.int .u32 (0 : Int)), (Value.int .i64 (0 : Int)), (Value.bool false), (Value.int .i64 (0 : Int)), (Value.int .u32 (0 : Int)), (Value.float .f64 (0 : Nat))] 33) w7 fun b41 w40 =>
M.keep (w40.cell? (b2.add 5) = some (Value.float .f64 t12)) <|
M.keep (w40.cell? (b2.add 1) = some (Value.int .i64 t10)) <|
M.keep (w40.cell? b2 = some (Value.int .u32 t8)) <|
Calls Try.prog 31 #[(Value.int .i64 t10), (Value.int .i64 (0 : Int)), (Value.int .i64 (3 : Int))] w40 (R31 fun r45 w46 =>
M.keep (w46.cell? (b2.add 5) = some (Value.float .f64 t12)) <|
M.keep (w46.cell? b2 = some (Value.int .u32 t8)) <|
Calls Try.prog 30 #[(Value.int .u32 (bOr .u32 (3221225984 : Int) (Int.tmod t8 (8 : Int)))), (Value.int .i64 (IntKind.i64.wrap ((29 : Int) + r45)))] w46 (R30 fun r49 r50 w51 =>
M.keep (w51.cell? (b2.add 5) = some (Value.float .f64 t12)) <|
M.stA b41 [(Value.int .u32 r49), (Value.int .i64 r50), (Value.bool false), (Value.int .i64 (0 : Int)), (Value.int .u32 (0 : Int)), (Value.float .f64 t12)] w51 fun w53 =>
J5 b41 w53)))
theorem F9_ok {w0 : World} {p0_0 : Int} {p0_1 : Int} {p0_2 : Bool} {p0_3 : Int} {p0_4 : Int} {p0_5 : Nat} {K : Int → Int → Bool → Int → Int → Nat → World → Prop} (h : F9 p0_0 p0_1 p0_2 p0_3 p0_4 p0_5 K w0) : Calls Try.prog 9 #[(Value.agg #[(Value.int .u32 p0_0), (Value.int .i64 p0_1), (Value.bool p0_2), (Value.int .i64 p0_3), (Value.int .u32 p0_4), (Value.float .f64 p0_5)])] w0 (R9 K) := by
  refine calls_of_WE (args := [(Value.agg #[(Value.int .u32 p0_0), (Value.int .i64 p0_1), (Value.bool p0_2), (Value.int .i64 p0_3), (Value.int .u32 p0_4), (Value.float .f64 p0_5)])]) (rs := [.cell 2 33]) Try.func9 rfl (N := 66) rfl rfl rfl rfl ?_
  refine WE.seq ?_
  refine WE.reg ?_
  obtain ⟨b2, hpb2, w1, hww1, h⟩ := M.new_use h
  refine LE.r (v := (Value.pointer (some b2))) (Wn.no rfl) rfl (R.box (cs := #[(Value.int .u32 p0_0), (Value.int .i64 p0_1), (Value.bool p0_2), (Value.int .i64 p0_3), (Value.int .u32 p0_4), (Value.float .f64 p0_5)]) rfl rfl hpb2 hww1) ?_
  obtain ⟨b4, hpb4, w3, hww3, h⟩ := M.new_use h
  refine LE.r (v := (Value.pointer (some b4))) (Wn.no rfl) rfl (R.alloc (cs := #[(Value.int .u32 (0 : Int)), (Value.int .i64 (0 : Int)), (Value.bool false), (Value.int .i64 (0 : Int)), (Value.int .u32 (0 : Int)), (Value.float .f64 (0 : Nat))]) ze33 rfl hpb4 hww3) ?_
  refine LE.nil ?_
  refine WE.seq ?_
  obtain ⟨J5, hJ5, h⟩ := M.join_use h
  refine WE.drawJ (fun e w => ∃ (x6 : Addr), J5 x6 w ∧ e 1 = (Value.pointer (some b2)) ∧ e 2 = (Value.pointer (some b4)) ∧ e 3 = (Value.pointer (some x6))) mix ?_ ?_
  · clear hJ5
    obtain ⟨w7, hww7, h⟩ := M.drew_use h
    rw [← hww7]
    clear hww7
    refine DE.t 0 (v := (Value.pointer (some b2))) rfl (by kernel_rfl) (Wn.no rfl) rfl (R.fld (off := 0) fa33_0 rfl) ?_
    refine DE.t 1 (v := (Value.pointer (some b2))) rfl (by kernel_rfl) (Wn.no rfl) rfl (R.fld (off := 0) fa30_0 rfl) ?_
    refine DE.t 5 (v := (Value.pointer (some b2))) rfl (by kernel_rfl) (Wn.no rfl) rfl (R.fld (off := 0) fa33_0 rfl) ?_
    refine DE.t 6 (v := (Value.pointer (some (b2.add 1)))) rfl (by kernel_rfl) (Wn.no rfl) rfl (R.fld (off := 1) fa30_1 rfl) ?_
    refine DE.t 11 (v := (Value.pointer (some (b2.add 5)))) rfl (by kernel_rfl) (Wn.no rfl) rfl (R.fld (off := 5) fa33_4 rfl) ?_
    obtain ⟨t8, h9, h⟩ := h
    refine DE.hold 2 (fun w => w.cell? b2 = some (Value.int .u32 t8)) (v := (Value.int .u32 t8)) rfl (by kernel_rfl) (Wn.no rfl) rfl h9 (fun w hs => R.ld sc23 rfl hs) ?_
    refine DE.t 3 (v := (Value.int .u32 (Int.tmod t8 (8 : Int)))) rfl (by kernel_rfl) (Wn.no rfl) rfl (R.rem rfl rfl (by decide)) ?_
    refine DE.t 4 (v := (Value.int .u32 (bOr .u32 (3221225984 : Int) (Int.tmod t8 (8 : Int))))) rfl (by kernel_rfl) (Wn.no rfl) rfl (R.or rfl rfl) ?_
    obtain ⟨t10, h11, h⟩ := h
    refine DE.hold 7 (fun w => w.cell? (b2.add 1) = some (Value.int .i64 t10)) (v := (Value.int .i64 t10)) rfl (by kernel_rfl) (Wn.no rfl) rfl h11 (fun w hs => R.ld sc3 rfl hs) ?_
    obtain ⟨t12, h13, h⟩ := h
    refine DE.hold 12 (fun w => w.cell? (b2.add 5) = some (Value.float .f64 t12)) (v := (Value.float .f64 t12)) rfl (by kernel_rfl) (Wn.no rfl) rfl h13 (fun w hs => R.ld sc31 rfl hs) ?_
    refine DE.main2 8 14 (by kernel_rfl) ?_ ?_
    · replace h := h.1
      refine One.c 8 rfl (Wn.no rfl) rfl (R.call bd31 (Ls.cons rfl (Ls.cons rfl (Ls.cons rfl Ls.nil))) rfl) (Calls.mono h ?_)
      rintro _ w15 ⟨r14, rfl, h⟩
      obtain ⟨k16, h⟩ := h
      obtain ⟨k17, h⟩ := h
      refine ⟨_, rfl, ⟨fun _ => k16, aftT (by kernel_rfl), fun _ => k17, trivial⟩, ?_⟩
      refine DE.t 9 (v := (Value.int .i64 (IntKind.i64.wrap ((29 : Int) + r14)))) rfl (by kernel_rfl) (Wn.no rfl) rfl (R.add rfl rfl) ?_
      refine DE.main2 10 14 (by kernel_rfl) ?_ ?_
      · replace h := h.1
        refine One.c 10 rfl (Wn.no rfl) rfl (R.call bd30 (Ls.cons rfl (Ls.cons rfl Ls.nil)) rfl) (Calls.mono h ?_)
        rintro _ w20 ⟨r18, r19, rfl, h⟩
        obtain ⟨k21, h⟩ := h
        refine ⟨_, rfl, ⟨fun _ => k21, aftT (by kernel_rfl), aftT (by kernel_rfl), trivial⟩, ?_⟩
        refine DE.t 13 (v := (Value.agg #[(Value.int .u32 r18), (Value.int .i64 r19), (Value.bool false), (Value.int .i64 (0 : Int)), (Value.int .u32 (0 : Int)), (Value.float .f64 t12)])) rfl (by kernel_rfl) (Wn.no rfl) rfl (R.bld (by exact (Ls.cons (R.Pr rfl) (Ls.cons (R.Pr rfl) Ls.nil))) (fun w => bu33_0_4 r18 r19 t12 w)) ?_
        obtain ⟨b23, hpb23, w22, hww22, h⟩ := M.new_use h
        obtain ⟨k24, h⟩ := h
        obtain ⟨k25, h⟩ := h
        obtain ⟨k26, h⟩ := h
        refine DE.main 14 (by kernel_rfl) ?_
        refine One.r 14 (v := (Value.pointer (some b23))) rfl (Wn.no rfl) rfl (R.alloc (cs := #[(Value.int .u32 (0 : Int)), (Value.int .i64 (0 : Int)), (Value.bool false), (Value.int .i64 (0 : Int)), (Value.int .u32 (0 : Int)), (Value.float .f64 (0 : Nat))]) ze33 rfl hpb23 hww22) (.inr ⟨fun _ => k24, fun _ => k25, fun _ => k26, trivial⟩) ?_
        obtain ⟨w27, hww27, h28, h⟩ := M.stA_use h
        refine DE.main 15 (by kernel_rfl) ?_
        refine One.s 15 rfl (Wn.no rfl) rfl (R.stA (a := b23) [(Value.int .u32 r18), (Value.int .i64 r19), (Value.bool false), (Value.int .i64 (0 : Int)), (Value.int .u32 (0 : Int)), (Value.float .f64 t12)] sz33 rfl rfl rfl (by simp [Value.oneCell']) h28 hww27) ⟨aftT (by kernel_rfl), aftT (by kernel_rfl), aftT (by kernel_rfl), trivial⟩ ?_
        refine DE.done (by kernel_rfl) ?_
        exact ⟨_, h, rfl, rfl, rfl⟩
      · replace h := h.2
        obtain ⟨b30, hpb30, w29, hww29, h⟩ := M.new_use h
        obtain ⟨k31, h⟩ := h
        obtain ⟨k32, h⟩ := h
        obtain ⟨k33, h⟩ := h
        refine One.r 14 (v := (Value.pointer (some b30))) rfl (Wn.no rfl) rfl (R.alloc (cs := #[(Value.int .u32 (0 : Int)), (Value.int .i64 (0 : Int)), (Value.bool false), (Value.int .i64 (0 : Int)), (Value.int .u32 (0 : Int)), (Value.float .f64 (0 : Nat))]) ze33 rfl hpb30 hww29) (.inr ⟨fun _ => k31, fun _ => k32, fun _ => k33, trivial⟩) ?_
        refine DE.main 10 (by kernel_rfl) ?_
        refine One.c 10 rfl (Wn.no rfl) rfl (R.call bd30 (Ls.cons rfl (Ls.cons rfl Ls.nil)) rfl) (Calls.mono h ?_)
        rintro _ w36 ⟨r34, r35, rfl, h⟩
        obtain ⟨k37, h⟩ := h
        refine ⟨_, rfl, ⟨fun _ => k37, aftT (by kernel_rfl), aftT (by kernel_rfl), trivial⟩, ?_⟩
        refine DE.t 13 (v := (Value.agg #[(Value.int .u32 r34), (Value.int .i64 r35), (Value.bool false), (Value.int .i64 (0 : Int)), (Value.int .u32 (0 : Int)), (Value.float .f64 t12)])) rfl (by kernel_rfl) (Wn.no rfl) rfl (R.bld (by exact (Ls.cons (R.Pr rfl) (Ls.cons (R.Pr rfl) Ls.nil))) (fun w => bu33_0_4 r34 r35 t12 w)) ?_
        obtain ⟨w38, hww38, h39, h⟩ := M.stA_use h
        refine DE.main 15 (by kernel_rfl) ?_
        refine One.s 15 rfl (Wn.no rfl) rfl (R.stA (a := b30) [(Value.int .u32 r34), (Value.int .i64 r35), (Value.bool false), (Value.int .i64 (0 : Int)), (Value.int .u32 (0 : Int)), (Value.float .f64 t12)] sz33 rfl rfl rfl (by simp [Value.oneCell']) h39 hww38) ⟨aftT (by kernel_rfl), aftT (by kernel_rfl), aftT (by kernel_rfl), trivial⟩ ?_
        refine DE.done (by kernel_rfl) ?_
        exact ⟨_, h, rfl, rfl, rfl⟩
    · replace h := h.2
      obtain ⟨b41, hpb41, w40, hww40, h⟩ := M.new_use h
      obtain ⟨k42, h⟩ := h
      obtain ⟨k43, h⟩ := h
      obtain ⟨k44, h⟩ := h
      refine One.r 14 (v := (Value.pointer (some b41))) rfl (Wn.no rfl) rfl (R.alloc (cs := #[(Value.int .u32 (0 : Int)), (Value.int .i64 (0 : Int)), (Value.bool false), (Value.int .i64 (0 : Int)), (Value.int .u32 (0 : Int)), (Value.float .f64 (0 : Nat))]) ze33 rfl hpb41 hww40) (.inr ⟨fun _ => k42, fun _ => k43, fun _ => k44, trivial⟩) ?_
      refine DE.main 8 (by kernel_rfl) ?_
      refine One.c 8 rfl (Wn.no rfl) rfl (R.call bd31 (Ls.cons rfl (Ls.cons rfl (Ls.cons rfl Ls.nil))) rfl) (Calls.mono h ?_)
      rintro _ w46 ⟨r45, rfl, h⟩
      obtain ⟨k47, h⟩ := h
      obtain ⟨k48, h⟩ := h
      refine ⟨_, rfl, ⟨fun _ => k47, aftT (by kernel_rfl), fun _ => k48, trivial⟩, ?_⟩
      refine DE.t 9 (v := (Value.int .i64 (IntKind.i64.wrap ((29 : Int) + r45)))) rfl (by kernel_rfl) (Wn.no rfl) rfl (R.add rfl rfl) ?_
      refine DE.main 10 (by kernel_rfl) ?_
      refine One.c 10 rfl (Wn.no rfl) rfl (R.call bd30 (Ls.cons rfl (Ls.cons rfl Ls.nil)) rfl) (Calls.mono h ?_)
      rintro _ w51 ⟨r49, r50, rfl, h⟩
      obtain ⟨k52, h⟩ := h
      refine ⟨_, rfl, ⟨fun _ => k52, aftT (by kernel_rfl), aftT (by kernel_rfl), trivial⟩, ?_⟩
      refine DE.t 13 (v := (Value.agg #[(Value.int .u32 r49), (Value.int .i64 r50), (Value.bool false), (Value.int .i64 (0 : Int)), (Value.int .u32 (0 : Int)), (Value.float .f64 t12)])) rfl (by kernel_rfl) (Wn.no rfl) rfl (R.bld (by exact (Ls.cons (R.Pr rfl) (Ls.cons (R.Pr rfl) Ls.nil))) (fun w => bu33_0_4 r49 r50 t12 w)) ?_
      obtain ⟨w53, hww53, h54, h⟩ := M.stA_use h
      refine DE.main 15 (by kernel_rfl) ?_
      refine One.s 15 rfl (Wn.no rfl) rfl (R.stA (a := b41) [(Value.int .u32 r49), (Value.int .i64 r50), (Value.bool false), (Value.int .i64 (0 : Int)), (Value.int .u32 (0 : Int)), (Value.float .f64 t12)] sz33 rfl rfl rfl (by simp [Value.oneCell']) h54 hww53) ⟨aftT (by kernel_rfl), aftT (by kernel_rfl), aftT (by kernel_rfl), trivial⟩ ?_
      refine DE.done (by kernel_rfl) ?_
      exact ⟨_, h, rfl, rfl, rfl⟩
  · rintro e55 w56 ⟨x6, h, f57, f58, f59⟩
    subst hJ5
    obtain ⟨J60, hJ60, h⟩ := M.join_use h
    refine WE.join (fun e w => J60 w ∧ e 1 = (Value.pointer (some b2)) ∧ e 2 = (Value.pointer (some b4)) ∧ e 3 = (Value.pointer (some x6))) ?_ ?_
    · clear hJ60
      refine WE.seq ?_
      refine WE.reg ?_
      refine LE.p (v := (Value.pointer (some b2))) (Wn.no rfl) rfl (R.fld (off := 0) fa33_0 f57) ?_
      refine LE.p (v := (Value.pointer (some (b2.add 1)))) (Wn.no rfl) rfl (R.fld (off := 1) fa30_1 rfl) ?_
      obtain ⟨t61, h62, h⟩ := h
      refine LE.r (v := (Value.int .i64 t61)) (Wn.no rfl) rfl (R.ld sc3 rfl h62) ?_
      refine LE.p (v := (Value.int .i64 (Int.tmod t61 (3 : Int)))) (Wn.no rfl) rfl (R.rem rfl rfl (by decide)) ?_
      refine LE.p (v := (Value.bool ((Int.tmod t61 (3 : Int)) == (0 : Int)))) (Wn.no rfl) rfl (R.eql rfl rfl) ?_
      refine LE.nil ?_
      refine WE.condT rfl (b := ((Int.tmod t61 (3 : Int)) == (0 : Int))) rfl ?_ ?_
      · intro hb63
        replace h := M.ite_t h hb63
        refine WE.draw mix ?_
        obtain ⟨w64, hww64, h⟩ := M.drew_use h
        rw [← hww64]
        clear hww64
        refine DE.t 0 (v := (Value.pointer (some b2))) rfl (by kernel_rfl) (Wn.no rfl) rfl (R.fld (off := 0) fa33_0 f57) ?_
        refine DE.t 1 (v := (Value.pointer (some b2))) rfl (by kernel_rfl) (Wn.no rfl) rfl (R.fld (off := 0) fa30_0 rfl) ?_
        refine DE.t 5 (v := (Value.pointer (some b2))) rfl (by kernel_rfl) (Wn.no rfl) rfl (R.fld (off := 0) fa33_0 f57) ?_
        refine DE.t 6 (v := (Value.pointer (some (b2.add 1)))) rfl (by kernel_rfl) (Wn.no rfl) rfl (R.fld (off := 1) fa30_1 rfl) ?_
        obtain ⟨t65, h66, h⟩ := h
        refine DE.hold 2 (fun w => w.cell? b2 = some (Value.int .u32 t65)) (v := (Value.int .u32 t65)) rfl (by kernel_rfl) (Wn.no rfl) rfl h66 (fun w hs => R.ld sc23 rfl hs) ?_
        refine DE.t 3 (v := (Value.int .u32 (Int.tmod t65 (4 : Int)))) rfl (by kernel_rfl) (Wn.no rfl) rfl (R.rem rfl rfl (by decide)) ?_
        refine DE.t 4 (v := (Value.int .u32 (bOr .u32 (3325256704 : Int) (Int.tmod t65 (4 : Int))))) rfl (by kernel_rfl) (Wn.no rfl) rfl (R.or rfl rfl) ?_
        obtain ⟨t67, h68, h⟩ := h
        refine DE.main 7 (by kernel_rfl) ?_
        refine One.r 7 (v := (Value.int .i64 t67)) rfl (Wn.no rfl) rfl (R.ld sc3 rfl h68) (.inl rfl) ?_
        refine DE.main 8 (by kernel_rfl) ?_
        refine One.c 8 rfl (Wn.no rfl) rfl (R.call bd31 (Ls.cons rfl (Ls.cons rfl (Ls.cons rfl Ls.nil))) rfl) (Calls.mono h ?_)
        rintro _ w70 ⟨r69, rfl, h⟩
        obtain ⟨k71, h⟩ := h
        refine ⟨_, rfl, ⟨fun _ => k71, trivial⟩, ?_⟩
        refine DE.t 9 (v := (Value.int .i64 (IntKind.i64.wrap ((30 : Int) + r69)))) rfl (by kernel_rfl) (Wn.no rfl) rfl (R.add rfl rfl) ?_
        refine DE.main 10 (by kernel_rfl) ?_
        refine One.c 10 rfl (Wn.no rfl) rfl (R.call bd30 (Ls.cons rfl (Ls.cons rfl Ls.nil)) rfl) (Calls.mono h ?_)
        rintro _ w74 ⟨r72, r73, rfl, h⟩
        refine ⟨_, rfl, ⟨aftT (by kernel_rfl), trivial⟩, ?_⟩
        refine DE.t 11 (v := (Value.pointer (some x6))) rfl (by kernel_rfl) (Wn.no rfl) rfl (R.fld (off := 0) fa33_0 f59) ?_
        obtain ⟨w75, hww75, h76, h⟩ := M.stA_use h
        refine DE.main 12 (by kernel_rfl) ?_
        refine One.s 12 rfl (Wn.no rfl) rfl (R.stA (a := x6) [(Value.int .u32 r72), (Value.int .i64 r73)] sz30 rfl rfl rfl (by simp [Value.oneCell']) h76 hww75) ⟨aftT (by kernel_rfl), trivial⟩ ?_
        refine DE.done (by kernel_rfl) ?_
        exact ⟨h, f57, f58, f59⟩
      · intro hb63
        replace h := M.ite_f h hb63
        refine WE.skip ?_
        exact ⟨h, f57, f58, f59⟩
    · rintro e77 w78 ⟨h, f79, f80, f81⟩
      subst hJ60
      obtain ⟨J82, hJ82, h⟩ := M.join_use h
      refine WE.join (fun e w => J82 w ∧ e 1 = (Value.pointer (some b2)) ∧ e 2 = (Value.pointer (some b4)) ∧ e 3 = (Value.pointer (some x6))) ?_ ?_
      · clear hJ82
        refine WE.seq ?_
        refine WE.reg ?_
        refine LE.p (v := (Value.pointer (some (b2.add 5)))) (Wn.no rfl) rfl (R.fld (off := 5) fa33_4 f79) ?_
        obtain ⟨t83, h84, h⟩ := h
        refine LE.r (v := (Value.float .f64 t83)) (Wn.no rfl) rfl (R.ld sc31 rfl h84) ?_
        refine LE.p (v := (Value.bool (fGeq t83 (0 : Nat)))) (Wn.no rfl) rfl (R.fgeq rfl rfl) ?_
        refine LE.p (v := (Value.bool (!(fGeq t83 (0 : Nat))))) (Wn.no rfl) rfl (R.not rfl) ?_
        refine LE.nil ?_
        refine WE.condT rfl (b := (!(fGeq t83 (0 : Nat)))) rfl ?_ ?_
        · intro hb85
          replace h := M.ite_t h hb85
          refine WE.reg ?_
          refine LE.p (v := (Value.pointer (some (b2.add 3)))) (Wn.no rfl) rfl (R.fld (off := 3) fa33_2 f79) ?_
          obtain ⟨t86, h87, h⟩ := h
          refine LE.r (v := (Value.int .i64 t86)) (Wn.no rfl) rfl (R.ld sc3 rfl h87) ?_
          refine LE.c (Wn.no rfl) rfl (R.call bd31 (Ls.cons rfl (Ls.cons rfl (Ls.cons rfl Ls.nil))) rfl) (Calls.mono h ?_)
          rintro _ w89 ⟨r88, rfl, h⟩
          refine ⟨_, rfl, ?_⟩
          refine LE.p (v := (Value.float .f64 (fOfInt r88))) (Wn.no rfl) rfl (R.i2f fo31 in3 rfl) ?_
          refine LE.p (v := (Value.pointer (some (x6.add 5)))) (Wn.no rfl) rfl (R.fld (off := 5) fa33_4 f81) ?_
          obtain ⟨w90, hww90, h91, h92, h⟩ := M.st_use h
          refine LE.s (Wn.no rfl) rfl (R.st (a := (x6.add 5)) (v := (Value.float .f64 (fOfInt r88))) sz31 rfl rfl rfl rfl h91 h92 hww90) ?_
          refine LE.nil ?_
          exact ⟨h, f79, f80, f81⟩
        · intro hb85
          replace h := M.ite_f h hb85
          refine WE.skip ?_
          exact ⟨h, f79, f80, f81⟩
      · rintro e93 w94 ⟨h, f95, f96, f97⟩
        subst hJ82
        refine WE.seq ?_
        refine WE.seq ?_
        refine WE.reg ?_
        refine LE.p (v := (Value.pointer (some (b2.add 2)))) (Wn.no rfl) rfl (R.fld (off := 2) fa33_1 f95) ?_
        obtain ⟨t98, h99, h⟩ := h
        refine LE.r (v := (Value.bool t98)) (Wn.no rfl) rfl (R.ld sc4 rfl h99) ?_
        refine LE.nil ?_
        refine WE.condT rfl (b := t98) rfl ?_ ?_
        · intro hb100
          replace h := M.ite_t h hb100
          refine WE.seq ?_
          refine WE.reg ?_
          refine LE.p (v := (Value.pointer (some (x6.add 2)))) (Wn.no rfl) rfl (R.fld (off := 2) fa33_1 f97) ?_
          obtain ⟨w101, hww101, h102, h103, h⟩ := M.st_use h
          refine LE.s (Wn.no rfl) rfl (R.st (a := (x6.add 2)) (v := (Value.bool true)) sz4 rfl rfl rfl rfl h102 h103 hww101) ?_
          refine LE.nil ?_
          refine WE.seq ?_
          refine WE.reg ?_
          refine LE.p (v := (Value.pointer (some (b2.add 3)))) (Wn.no rfl) rfl (R.fld (off := 3) fa33_2 f95) ?_
          obtain ⟨t104, h105, h⟩ := h
          refine LE.r (v := (Value.int .i64 t104)) (Wn.no rfl) rfl (R.ld sc3 rfl h105) ?_
          refine LE.c (Wn.no rfl) rfl (R.call bd31 (Ls.cons rfl (Ls.cons rfl (Ls.cons rfl Ls.nil))) rfl) (Calls.mono h ?_)
          rintro _ w107 ⟨r106, rfl, h⟩
          refine ⟨_, rfl, ?_⟩
          refine LE.p (v := (Value.pointer (some (x6.add 3)))) (Wn.no rfl) rfl (R.fld (off := 3) fa33_2 f97) ?_
          obtain ⟨w108, hww108, h109, h110, h⟩ := M.st_use h
          refine LE.s (Wn.no rfl) rfl (R.st (a := (x6.add 3)) (v := (Value.int .i64 r106)) sz3 rfl rfl rfl rfl h109 h110 hww108) ?_
          refine LE.nil ?_
          refine WE.seq ?_
          refine WE.reg ?_
          obtain ⟨t111, t112, t113, t114, t115, t116, h117, h⟩ := h
          refine LE.r (v := (Value.agg #[(Value.int .u32 t111), (Value.int .i64 t112), (Value.bool t113), (Value.int .i64 t114), (Value.int .u32 t115), (Value.float .f64 t116)])) (Wn.no rfl) rfl (R.ldA ag33 sz33 f97 rfl h117) ?_
          obtain ⟨w118, hww118, h119, h⟩ := M.stA_use h
          refine LE.s (Wn.no rfl) rfl (R.stA (a := b4) [(Value.int .u32 t111), (Value.int .i64 t112), (Value.bool t113), (Value.int .i64 t114), (Value.int .u32 t115), (Value.float .f64 t116)] sz33 f96 rfl rfl (by simp [Value.oneCell']) h119 hww118) ?_
          refine LE.nil ?_
          refine WE.ret ?_
          obtain ⟨t120, t121, t122, t123, t124, t125, h126, h⟩ := h
          exact ⟨_, (Res.cell f96 (R.ldCellA ag33 sz33 rfl h126) Res.nil), _, _, _, _, _, _, rfl, h⟩
        · intro hb100
          replace h := M.ite_f h hb100
          refine WE.skip ?_
          refine WE.seq ?_
          refine WE.reg ?_
          refine LE.p (v := (Value.pointer (some (b2.add 4)))) (Wn.no rfl) rfl (R.fld (off := 4) fa33_3 f95) ?_
          obtain ⟨t127, h128, h⟩ := h
          refine LE.r (v := (Value.int .u32 t127)) (Wn.no rfl) rfl (R.ld sc23 rfl h128) ?_
          refine LE.p (v := (Value.int .u32 (Int.tmod t127 (4 : Int)))) (Wn.no rfl) rfl (R.rem rfl rfl (by decide)) ?_
          refine LE.p (v := (Value.int .u32 (bOr .u32 (3325256704 : Int) (Int.tmod t127 (4 : Int))))) (Wn.no rfl) rfl (R.or rfl rfl) ?_
          refine LE.p (v := (Value.pointer (some (x6.add 4)))) (Wn.no rfl) rfl (R.fld (off := 4) fa33_3 f97) ?_
          obtain ⟨w129, hww129, h130, h131, h⟩ := M.st_use h
          refine LE.s (Wn.no rfl) rfl (R.st (a := (x6.add 4)) (v := (Value.int .u32 (bOr .u32 (3325256704 : Int) (Int.tmod t127 (4 : Int))))) sz23 rfl rfl rfl rfl h130 h131 hww129) ?_
          refine LE.nil ?_
          obtain ⟨J132, hJ132, h⟩ := M.join_use h
          refine WE.join (fun e w => J132 w ∧ e 2 = (Value.pointer (some b4)) ∧ e 3 = (Value.pointer (some x6))) ?_ ?_
          · clear hJ132
            refine WE.seq ?_
            refine WE.reg ?_
            refine LE.p (v := (Value.pointer (some (b2.add 4)))) (Wn.no rfl) rfl (R.fld (off := 4) fa33_3 f95) ?_
            obtain ⟨t133, h134, h⟩ := h
            refine LE.r (v := (Value.int .u32 t133)) (Wn.no rfl) rfl (R.ld sc23 rfl h134) ?_
            refine LE.p (v := (Value.int .u32 (Int.tmod t133 (5 : Int)))) (Wn.no rfl) rfl (R.rem rfl rfl (by decide)) ?_
            refine LE.p (v := (Value.bool ((Int.tmod t133 (5 : Int)) == (0 : Int)))) (Wn.no rfl) rfl (R.eql rfl rfl) ?_
            refine LE.nil ?_
            refine WE.condT rfl (b := ((Int.tmod t133 (5 : Int)) == (0 : Int))) rfl ?_ ?_
            · intro hb135
              replace h := M.ite_t h hb135
              refine WE.reg ?_
              refine LE.p (v := (Value.pointer (some (b2.add 4)))) (Wn.no rfl) rfl (R.fld (off := 4) fa33_3 f95) ?_
              obtain ⟨t136, h137, h⟩ := h
              refine LE.r (v := (Value.int .u32 t136)) (Wn.no rfl) rfl (R.ld sc23 rfl h137) ?_
              refine LE.c (Wn.no rfl) rfl (R.call bd32 (Ls.cons rfl Ls.nil) rfl) (Calls.mono h ?_)
              rintro _ w139 ⟨r138, rfl, h⟩
              refine ⟨_, rfl, ?_⟩
              refine LE.p (v := (Value.pointer (some (x6.add 4)))) (Wn.no rfl) rfl (R.fld (off := 4) fa33_3 f97) ?_
              obtain ⟨w140, hww140, h141, h142, h⟩ := M.st_use h
              refine LE.s (Wn.no rfl) rfl (R.st (a := (x6.add 4)) (v := (Value.int .u32 r138)) sz23 rfl rfl rfl rfl h141 h142 hww140) ?_
              refine LE.nil ?_
              exact ⟨h, f96, f97⟩
            · intro hb135
              replace h := M.ite_f h hb135
              refine WE.skip ?_
              exact ⟨h, f96, f97⟩
          · rintro e143 w144 ⟨h, f145, f146⟩
            subst hJ132
            refine WE.seq ?_
            refine WE.reg ?_
            obtain ⟨t147, t148, t149, t150, t151, t152, h153, h⟩ := h
            refine LE.r (v := (Value.agg #[(Value.int .u32 t147), (Value.int .i64 t148), (Value.bool t149), (Value.int .i64 t150), (Value.int .u32 t151), (Value.float .f64 t152)])) (Wn.no rfl) rfl (R.ldA ag33 sz33 f146 rfl h153) ?_
            obtain ⟨w154, hww154, h155, h⟩ := M.stA_use h
            refine LE.s (Wn.no rfl) rfl (R.stA (a := b4) [(Value.int .u32 t147), (Value.int .i64 t148), (Value.bool t149), (Value.int .i64 t150), (Value.int .u32 t151), (Value.float .f64 t152)] sz33 f145 rfl rfl (by simp [Value.oneCell']) h155 hww154) ?_
            refine LE.nil ?_
            refine WE.ret ?_
            obtain ⟨t156, t157, t158, t159, t160, t161, h162, h⟩ := h
            exact ⟨_, (Res.cell f145 (R.ldCellA ag33 sz33 rfl h162) Res.nil), _, _, _, _, _, _, rfl, h⟩
/-- The formula of (*signpost.igp.Table).Match. -/
def F10 (p0 : Option Addr) (p1 : Int) (K : Int → Int → Bool → Int → Int → Nat → Bool → World → Prop) (w0 : World) : Prop :=
M.new (.cells #[(Value.int .u32 (0 : Int)), (Value.int .i64 (0 : Int)), (Value.bool false), (Value.int .i64 (0 : Int)), (Value.int .u32 (0 : Int)), (Value.float .f64 (0 : Nat))] 33) w0 fun b2 w1 =>
M.nil p0 fun a3 =>
M.ld Value.pointer (a3.add 1) w1 fun t5 =>
Calls Try.prog 33 #[(Value.pointer t5), (Value.int .u32 p1)] w1 (R33 fun r7 r8 r9 r10 w11 =>
M.new (.cells #[(Value.int .u32 (0 : Int)), (Value.int .i64 (0 : Int))] 30) w11 fun b13 w12 =>
M.stA b13 [(Value.int .u32 r7), (Value.int .i64 r8)] w12 fun w14 =>
M.ite (!r10) (
M.stA b2 [(Value.int .u32 (0 : Int)), (Value.int .i64 (0 : Int)), (Value.bool false), (Value.int .i64 (0 : Int)), (Value.int .u32 (0 : Int)), (Value.float .f64 (0 : Nat))] w14 fun w17 =>
∃ (t19 : Int) (t20 : Int) (t21 : Bool) (t22 : Int) (t23 : Int) (t24 : Nat), Cs w17 b2 0 [(Value.int .u32 t19), (Value.int .i64 t20), (Value.bool t21), (Value.int .i64 t22), (Value.int .u32 t23), (Value.float .f64 t24)] ∧
K t19 t20 t21 t22 t23 t24 false w17) (
M.drew w14 fun w26 => 
M.nil p0 fun a27 =>
M.ld Value.map (a27.add 2) w26 fun t29 =>
M.ld (Value.int .u32) b13 w26 fun t31 =>
M.ld (Value.int .i64) (b13.add 1) w26 fun t33 =>
∃ (t35 : Int) (t36 : Int) (t37 : Bool) (t38 : Int) (t39 : Int) (t40 : Nat), (Instr.lookup 63 (Value.map t29) (Value.agg #[(Value.int .u32 t31), (Value.int .i64 t33)]) false).run Try.prog w26 = .ok (Value.agg #[(Value.int .u32 t35), (Value.int .i64 t36), (Value.bool t37), (Value.int .i64 t38), (Value.int .u32 t39), (Value.float .f64 t40)]) w26 ∧
M.stA b2 [(Value.int .u32 t35), (Value.int .i64 t36), (Value.bool t37), (Value.int .i64 t38), (Value.int .u32 t39), (Value.float .f64 t40)] w26 fun w42 =>
∃ (t44 : Int) (t45 : Int) (t46 : Bool) (t47 : Int) (t48 : Int) (t49 : Nat), Cs w42 b2 0 [(Value.int .u32 t44), (Value.int .i64 t45), (Value.bool t46), (Value.int .i64 t47), (Value.int .u32 t48), (Value.float .f64 t49)] ∧
K t44 t45 t46 t47 t48 t49 true w42))
theorem F10_ok {w0 : World} {p0 : Option Addr} {p1 : Int} {K : Int → Int → Bool → Int → Int → Nat → Bool → World → Prop} (h : F10 p0 p1 K w0) : Calls Try.prog 10 #[(Value.pointer p0), (Value.int .u32 p1)] w0 (R10 K) := by
  refine calls_of_WE (args := [(Value.pointer p0), (Value.int .u32 p1)]) (rs := [.cell 4 33, .tmp 5]) Try.func10 rfl (N := 28) rfl rfl rfl rfl ?_
  refine WE.seq ?_
  refine WE.reg ?_
  obtain ⟨b2, hpb2, w1, hww1, h⟩ := M.new_use h
  refine LE.r (v := (Value.pointer (some b2))) (Wn.no rfl) rfl (R.alloc (cs := #[(Value.int .u32 (0 : Int)), (Value.int .i64 (0 : Int)), (Value.bool false), (Value.int .i64 (0 : Int)), (Value.int .u32 (0 : Int)), (Value.float .f64 (0 : Nat))]) ze33 rfl hpb2 hww1) ?_
  refine LE.p (v := (Value.bool false)) (Wn.no rfl) rfl (R.assign rfl) ?_
  refine LE.nil ?_
  refine WE.seq ?_
  refine WE.reg ?_
  refine LE.p (v := (Value.pointer p0)) (Wn.no rfl) rfl (R.move rfl) ?_
  obtain ⟨a3, h4, h⟩ := h
  refine LE.p (v := (Value.pointer (some a3))) (Wn.no rfl) rfl (R.nilC (congrArg Value.pointer h4)) ?_
  refine LE.p (v := (Value.pointer (some (a3.add 1)))) (Wn.no rfl) rfl (R.fld (off := 1) fa65_1 rfl) ?_
  obtain ⟨t5, h6, h⟩ := h
  refine LE.r (v := (Value.pointer t5)) (Wn.no rfl) rfl (R.ld sc61 rfl h6) ?_
  refine LE.p (v := (Value.int .u32 p1)) (Wn.no rfl) rfl (R.move rfl) ?_
  refine LE.c (Wn.no rfl) rfl (R.call bd33 (Ls.cons rfl (Ls.cons rfl Ls.nil)) rfl) (Calls.mono h ?_)
  rintro _ w11 ⟨r7, r8, r9, r10, rfl, h⟩
  refine ⟨_, rfl, ?_⟩
  refine LE.p (v := (Value.tuple #[(Value.agg #[(Value.int .u32 r7), (Value.int .i64 r8)]), (Value.int .i64 r9), (Value.bool r10)])) (Wn.no rfl) rfl (R.move rfl) ?_
  refine LE.p (v := (Value.agg #[(Value.int .u32 r7), (Value.int .i64 r8)])) (Wn.no rfl) rfl (R.ext rfl rfl) ?_
  refine LE.p (v := (Value.int .i64 r9)) (Wn.no rfl) rfl (R.ext rfl rfl) ?_
  refine LE.p (v := (Value.bool r10)) (Wn.no rfl) rfl (R.ext rfl rfl) ?_
  obtain ⟨b13, hpb13, w12, hww12, h⟩ := M.new_use h
  refine LE.r (v := (Value.pointer (some b13))) (Wn.no rfl) rfl (R.alloc (cs := #[(Value.int .u32 (0 : Int)), (Value.int .i64 (0 : Int))]) ze30 rfl hpb13 hww12) ?_
  obtain ⟨w14, hww14, h15, h⟩ := M.stA_use h
  refine LE.s (Wn.no rfl) rfl (R.stA (a := b13) [(Value.int .u32 r7), (Value.int .i64 r8)] sz30 rfl rfl rfl (by simp [Value.oneCell']) h15 hww14) ?_
  refine LE.p (v := (Value.int .i64 r9)) (Wn.no rfl) rfl (R.assign rfl) ?_
  refine LE.p (v := (Value.bool r10)) (Wn.no rfl) rfl (R.assign rfl) ?_
  refine LE.nil ?_
  refine WE.seq ?_
  refine WE.seq ?_
  refine WE.reg ?_
  refine LE.p (v := (Value.bool r10)) (Wn.no rfl) rfl (R.move rfl) ?_
  refine LE.p (v := (Value.bool (!r10))) (Wn.no rfl) rfl (R.not rfl) ?_
  refine LE.nil ?_
  refine WE.condT rfl (b := (!r10)) rfl ?_ ?_
  · intro hb16
    replace h := M.ite_t h hb16
    refine WE.seq ?_
    refine WE.reg ?_
    refine LE.p (v := (Value.agg #[(Value.int .u32 (0 : Int)), (Value.int .i64 (0 : Int)), (Value.bool false), (Value.int .i64 (0 : Int)), (Value.int .u32 (0 : Int)), (Value.float .f64 (0 : Nat))])) (Wn.no rfl) rfl (R.bld (by exact Ls.nil) (fun w => bu33_  w)) ?_
    obtain ⟨w17, hww17, h18, h⟩ := M.stA_use h
    refine LE.s (Wn.no rfl) rfl (R.stA (a := b2) [(Value.int .u32 (0 : Int)), (Value.int .i64 (0 : Int)), (Value.bool false), (Value.int .i64 (0 : Int)), (Value.int .u32 (0 : Int)), (Value.float .f64 (0 : Nat))] sz33 rfl rfl rfl (by simp [Value.oneCell']) h18 hww17) ?_
    refine LE.p (v := (Value.bool false)) (Wn.no rfl) rfl (R.assign rfl) ?_
    refine LE.nil ?_
    refine WE.ret ?_
    obtain ⟨t19, t20, t21, t22, t23, t24, h25, h⟩ := h
    exact ⟨_, (Res.cell rfl (R.ldCellA ag33 sz33 rfl h25) (Res.tmp rfl Res.nil)), _, _, _, _, _, _, _, rfl, h⟩
  · intro hb16
    replace h := M.ite_f h hb16
    refine WE.skip ?_
    refine WE.seq ?_
    refine WE.draw mix ?_
    obtain ⟨w26, hww26, h⟩ := M.drew_use h
    rw [← hww26]
    clear hww26
    refine DE.t 0 (v := (Value.pointer p0)) rfl (by kernel_rfl) (Wn.no rfl) rfl (R.move rfl) ?_
    obtain ⟨a27, h28, h⟩ := h
    refine DE.t 1 (v := (Value.pointer (some a27))) rfl (by kernel_rfl) (Wn.no rfl) rfl (R.nilC (congrArg Value.pointer h28)) ?_
    refine DE.t 2 (v := (Value.pointer (some (a27.add 2)))) rfl (by kernel_rfl) (Wn.no rfl) rfl (R.fld (off := 2) fa65_2 rfl) ?_
    obtain ⟨t29, h30, h⟩ := h
    refine DE.hold 3 (fun w => w.cell? (a27.add 2) = some (Value.map t29)) (v := (Value.map t29)) rfl (by kernel_rfl) (Wn.no rfl) rfl h30 (fun w hs => R.ld sc63 rfl hs) ?_
    obtain ⟨t31, h32, h⟩ := h
    obtain ⟨t33, h34, h⟩ := h
    refine DE.main 4 (by kernel_rfl) ?_
    refine One.r 4 (v := (Value.agg #[(Value.int .u32 t31), (Value.int .i64 t33)])) rfl (Wn.no rfl) rfl (R.ldA ag30 sz30 rfl rfl (Cs.cons h32 (Cs.cons h34 Cs.nil))) (.inl rfl) ?_
    obtain ⟨t35, t36, t37, t38, t39, t40, h41, h⟩ := h
    refine DE.main 5 (by kernel_rfl) ?_
    refine One.r 5 (v := (Value.agg #[(Value.int .u32 t35), (Value.int .i64 t36), (Value.bool t37), (Value.int .i64 t38), (Value.int .u32 t39), (Value.float .f64 t40)])) rfl (Wn.no rfl) rfl (R.look rfl rfl h41) (.inl rfl) ?_
    obtain ⟨w42, hww42, h43, h⟩ := M.stA_use h
    refine DE.main 6 (by kernel_rfl) ?_
    refine One.s 6 rfl (Wn.no rfl) rfl (R.stA (a := b2) [(Value.int .u32 t35), (Value.int .i64 t36), (Value.bool t37), (Value.int .i64 t38), (Value.int .u32 t39), (Value.float .f64 t40)] sz33 rfl rfl rfl (by simp [Value.oneCell']) h43 hww42) ⟨aftT (by kernel_rfl), trivial⟩ ?_
    refine DE.t 7 (v := (Value.bool true)) rfl (by kernel_rfl) (Wn.no rfl) rfl (R.assign rfl) ?_
    refine DE.done (by kernel_rfl) ?_
    refine WE.ret ?_
    obtain ⟨t44, t45, t46, t47, t48, t49, h50, h⟩ := h
    exact ⟨_, (Res.cell rfl (R.ldCellA ag33 sz33 rfl h50) (Res.tmp rfl Res.nil)), _, _, _, _, _, _, _, rfl, h⟩
/-- The formula of (*signpost.igp.Table).All. -/
def F11 (p0 : Option Addr) (K : SV → World → Prop) (w0 : World) : Prop :=
M.nil p0 fun a1 =>
M.ld Value.pointer a1 w0 fun t3 =>
Calls Try.prog 34 #[(Value.pointer t3)] w0 (R34 fun r5 w6 =>
M.loop2 (fun (J9 : SV → Int → World → Prop) (x7 : SV) (x8 : Int) (w10 : World) => 
M.ite (decide (x8 < (r5.len : Int))) (
M.idx r5 x8 2 fun a23 =>
M.ld (Value.int .u32) (a23.add (x8.toNat * 2)) w10 fun t27 =>
M.ld (Value.int .i64) ((a23.add (x8.toNat * 2)).add 1) w10 fun t29 =>
M.new (.cells #[(Value.int .u32 (0 : Int)), (Value.int .i64 (0 : Int))] 30) w10 fun b32 w31 =>
M.stA b32 [(Value.int .u32 t27), (Value.int .i64 t29)] w31 fun w33 =>
M.drew w33 fun w35 => 
M.nil p0 fun a36 =>
M.ld Value.map (a36.add 2) w35 fun t38 =>
M.ld (Value.int .u32) b32 w35 fun t40 =>
M.ld (Value.int .i64) (b32.add 1) w35 fun t42 =>
∃ (t44 : Int) (t45 : Int) (t46 : Bool) (t47 : Int) (t48 : Int) (t49 : Nat), (Instr.lookup 63 (Value.map t38) (Value.agg #[(Value.int .u32 t40), (Value.int .i64 t42)]) false).run Try.prog w35 = .ok (Value.agg #[(Value.int .u32 t44), (Value.int .i64 t45), (Value.bool t46), (Value.int .i64 t47), (Value.int .u32 t48), (Value.float .f64 t49)]) w35 ∧
M.new (.cells #[(Value.int .u32 t44), (Value.int .i64 t45), (Value.bool t46), (Value.int .i64 t47), (Value.int .u32 t48), (Value.float .f64 t49)] 33) w35 fun b53 w51 =>
M.app Try.prog 39 39 39 x7 (SV.v (SV.mk (some b53) 1 1)) w51 fun s54 w55 =>
J9 s54 (IntKind.i64.wrap (x8 + (1 : Int))) w55) (
K x7 w10)) SV.nil (0 : Int) w6)
theorem F11_ok {w0 : World} {p0 : Option Addr} {K : SV → World → Prop} (h : F11 p0 K w0) : Calls Try.prog 11 #[(Value.pointer p0)] w0 (R11 K) := by
  refine calls_of_WE (args := [(Value.pointer p0)]) (rs := [.tmp 2]) Try.func11 rfl (N := 27) rfl rfl rfl rfl ?_
  refine WE.seq ?_
  refine WE.reg ?_
  refine LE.p (v := (SV.v SV.nil)) (Wn.no rfl) rfl (R.assign rfl) ?_
  refine LE.nil ?_
  refine WE.seq ?_
  refine WE.reg ?_
  refine LE.p (v := (SV.v SV.nil)) (Wn.no rfl) rfl (R.assign rfl) ?_
  refine LE.nil ?_
  refine WE.seq ?_
  refine WE.seq ?_
  refine WE.reg ?_
  refine LE.p (v := (Value.pointer p0)) (Wn.no rfl) rfl (R.move rfl) ?_
  obtain ⟨a1, h2, h⟩ := h
  refine LE.p (v := (Value.pointer (some a1))) (Wn.no rfl) rfl (R.nilC (congrArg Value.pointer h2)) ?_
  refine LE.p (v := (Value.pointer (some a1))) (Wn.no rfl) rfl (R.fld (off := 0) fa65_0 rfl) ?_
  obtain ⟨t3, h4, h⟩ := h
  refine LE.r (v := (Value.pointer t3)) (Wn.no rfl) rfl (R.ld sc61 rfl h4) ?_
  refine LE.c (Wn.no rfl) rfl (R.call bd34 (Ls.cons rfl Ls.nil) rfl) (Calls.mono h ?_)
  rintro _ w6 ⟨r5, rfl, h⟩
  refine ⟨_, rfl, ?_⟩
  refine LE.p (v := (Value.int .i64 (r5.len : Int))) (Wn.no rfl) rfl (R.len sl74 rfl) ?_
  refine LE.p (v := (Value.int .i64 (0 : Int))) (Wn.no rfl) rfl (R.move rfl) ?_
  refine LE.nil ?_
  refine WE.block ?_
  obtain ⟨I13, ⟨n12, h⟩, hr14⟩ := h
  refine WE.loop (fun n e w => ∃ (x7 : SV) (x8 : Int), I13 n x7 x8 w ∧ e 0 = (Value.pointer p0) ∧ e 3 = (SV.v x7) ∧ e 10 = (SV.v r5) ∧ e 11 = (Value.int .i64 (r5.len : Int)) ∧ e 12 = (Value.int .i64 x8)) n12 ⟨_, _, h, rfl, rfl, rfl, rfl, rfl⟩ ?_
  clear h
  rintro n12 e11 w10 ⟨x7, x8, h, f17, f18, f19, f20, f21⟩
  replace h := hr14 n12 x7 x8 w10 h
  refine WE.seq ?_
  refine WE.reg ?_
  refine LE.p (v := (Value.bool (decide (x8 < (r5.len : Int))))) (Wn.no rfl) rfl (R.lss f21 f20) ?_
  refine LE.nil ?_
  refine WE.seq ?_
  refine WE.condT rfl (b := (decide (x8 < (r5.len : Int)))) rfl ?_ ?_
  · intro hb22
    replace h := M.ite_t h hb22
    refine WE.skip ?_
    refine WE.seq ?_
    refine WE.block ?_
    refine WE.seq ?_
    refine WE.reg ?_
    obtain ⟨a23, h24, h25, h26, h⟩ := h
    refine LE.p (v := (Value.pointer (some (a23.add (x8.toNat * 2))))) (Wn.no rfl) rfl (R.idx (s := r5) sl74 f19 f21 h24 h25 h26) ?_
    obtain ⟨t27, h28, h⟩ := h
    obtain ⟨t29, h30, h⟩ := h
    refine LE.r (v := (Value.agg #[(Value.int .u32 t27), (Value.int .i64 t29)])) (Wn.no rfl) rfl (R.ldA ag30 sz30 rfl rfl (Cs.cons h28 (Cs.cons h30 Cs.nil))) ?_
    obtain ⟨b32, hpb32, w31, hww31, h⟩ := M.new_use h
    refine LE.r (v := (Value.pointer (some b32))) (Wn.no rfl) rfl (R.alloc (cs := #[(Value.int .u32 (0 : Int)), (Value.int .i64 (0 : Int))]) ze30 rfl hpb32 hww31) ?_
    obtain ⟨w33, hww33, h34, h⟩ := M.stA_use h
    refine LE.s (Wn.no rfl) rfl (R.stA (a := b32) [(Value.int .u32 t27), (Value.int .i64 t29)] sz30 rfl rfl rfl (by simp [Value.oneCell']) h34 hww33) ?_
    refine LE.nil ?_
    refine WE.draw mix ?_
    obtain ⟨w35, hww35, h⟩ := M.drew_use h
    rw [← hww35]
    clear hww35
    refine DE.t 0 (v := (SV.v x7)) rfl (by kernel_rfl) (Wn.no rfl) rfl (R.move f18) ?_
    refine DE.t 1 (v := (Value.pointer p0)) rfl (by kernel_rfl) (Wn.no rfl) rfl (R.move f17) ?_
    obtain ⟨a36, h37, h⟩ := h
    refine DE.t 2 (v := (Value.pointer (some a36))) rfl (by kernel_rfl) (Wn.no rfl) rfl (R.nilC (congrArg Value.pointer h37)) ?_
    refine DE.t 3 (v := (Value.pointer (some (a36.add 2)))) rfl (by kernel_rfl) (Wn.no rfl) rfl (R.fld (off := 2) fa65_2 rfl) ?_
    obtain ⟨t38, h39, h⟩ := h
    refine DE.hold 4 (fun w => w.cell? (a36.add 2) = some (Value.map t38)) (v := (Value.map t38)) rfl (by kernel_rfl) (Wn.no rfl) rfl h39 (fun w hs => R.ld sc63 rfl hs) ?_
    obtain ⟨t40, h41, h⟩ := h
    obtain ⟨t42, h43, h⟩ := h
    refine DE.main 5 (by kernel_rfl) ?_
    refine One.r 5 (v := (Value.agg #[(Value.int .u32 t40), (Value.int .i64 t42)])) rfl (Wn.no rfl) rfl (R.ldA ag30 sz30 rfl rfl (Cs.cons h41 (Cs.cons h43 Cs.nil))) (.inl rfl) ?_
    obtain ⟨t44, t45, t46, t47, t48, t49, h50, h⟩ := h
    refine DE.main 6 (by kernel_rfl) ?_
    refine One.r 6 (v := (Value.agg #[(Value.int .u32 t44), (Value.int .i64 t45), (Value.bool t46), (Value.int .i64 t47), (Value.int .u32 t48), (Value.float .f64 t49)])) rfl (Wn.no rfl) rfl (R.look rfl rfl h50) (.inl rfl) ?_
    obtain ⟨b53, hpb53, w51, hww51, h⟩ := M.new_use h
    refine DE.main 7 (by kernel_rfl) ?_
    refine One.r 7 (v := (SV.v (SV.mk (some b53) 1 1))) rfl (Wn.no rfl) rfl (R.bsl (by exact (Ls.cons (R.Pr rfl) Ls.nil)) (fun w => bs39_1 t44 t45 t46 t47 t48 t49 w) hpb53 hww51) (.inr ⟨aftT (by kernel_rfl), trivial⟩) ?_
    obtain ⟨s54, w55, h56, h⟩ := h
    refine DE.main 8 (by kernel_rfl) ?_
    refine One.r 8 (v := (SV.v s54)) rfl (Wn.no rfl) rfl (R.app (s := x7) (r := s54) rfl rfl h56) (.inr ⟨aftT (by kernel_rfl), trivial⟩) ?_
    refine DE.t 9 (v := (SV.v s54)) rfl (by kernel_rfl) (Wn.no rfl) rfl (R.assign rfl) ?_
    refine DE.done (by kernel_rfl) ?_
    refine WE.reg ?_
    refine LE.p (v := (Value.int .i64 (IntKind.i64.wrap (x8 + (1 : Int))))) (Wn.no rfl) rfl (R.add f21 rfl) ?_
    refine LE.p (v := (Value.int .i64 (IntKind.i64.wrap (x8 + (1 : Int))))) (Wn.no rfl) rfl (R.move rfl) ?_
    refine LE.nil ?_
    obtain ⟨m15, hm16, h⟩ := h
    exact ⟨m15, hm16, _, _, h, f17, rfl, f19, f20, rfl⟩
  · intro hb22
    replace h := M.ite_f h hb22
    refine WE.exit ?_
    refine WE.seq ?_
    refine WE.reg ?_
    refine LE.p (v := (SV.v x7)) (Wn.no rfl) rfl (R.move f18) ?_
    refine LE.p (v := (SV.v x7)) (Wn.no rfl) rfl (R.assign rfl) ?_
    refine LE.nil ?_
    refine WE.ret ?_
    exact ⟨_, (Res.tmp rfl Res.nil), _, rfl, h⟩
/-- The formula of signpost.signpostref1.Less. -/
def F12 (p0_0 : Int) (p0_1 : Int) (p1_0 : Int) (p1_1 : Int) (K : Bool → World → Prop) (w0 : World) : Prop :=
M.new (.cells #[(Value.int .u32 p0_0), (Value.int .i64 p0_1)] 30) w0 fun b2 w1 =>
M.new (.cells #[(Value.int .u32 p1_0), (Value.int .i64 p1_1)] 30) w1 fun b4 w3 =>
M.join (fun (x6 : Bool) (w21 : World) => 
M.ite x6 (
K false w21) (
M.join (fun (x27 : Bool) (w43 : World) => 
K x27 w43) fun J26 => 
M.ld (Value.int .u32) b2 w21 fun t28 =>
M.ld (Value.int .u32) b4 w21 fun t30 =>
M.ite (decide (t28 < t30)) (
J26 true w21) (
M.ld (Value.int .u32) b2 w21 fun t33 =>
M.ld (Value.int .u32) b4 w21 fun t35 =>
M.ite (t33 == t35) (
M.ld (Value.int .i64) (b2.add 1) w21 fun t38 =>
M.ld (Value.int .i64) (b4.add 1) w21 fun t40 =>
J26 (decide (t38 < t40)) w21) (
J26 false w21)))) fun J5 => 
M.ld (Value.int .u32) b2 w3 fun t7 =>
M.ld (Value.int .i64) (b2.add 1) w3 fun t9 =>
Calls Try.prog 35 #[(Value.agg #[(Value.int .u32 t7), (Value.int .i64 t9)])] w3 (R35 fun r11 w12 =>
M.ite (!r11) (
J5 true w12) (
M.ld (Value.int .u32) b4 w12 fun t14 =>
M.ld (Value.int .i64) (b4.add 1) w12 fun t16 =>
Calls Try.prog 35 #[(Value.agg #[(Value.int .u32 t14), (Value.int .i64 t16)])] w12 (R35 fun r18 w19 =>
J5 (!r18) w19)))
theorem F12_ok {w0 : World} {p0_0 : Int} {p0_1 : Int} {p1_0 : Int} {p1_1 : Int} {K : Bool → World → Prop} (h : F12 p0_0 p0_1 p1_0 p1_1 K w0) : Calls Try.prog 12 #[(Value.agg #[(Value.int .u32 p0_0), (Value.int .i64 p0_1)]), (Value.agg #[(Value.int .u32 p1_0), (Value.int .i64 p1_1)])] w0 (R12 K) := by
  refine calls_of_WE (args := [(Value.agg #[(Value.int .u32 p0_0), (Value.int .i64 p0_1)]), (Value.agg #[(Value.int .u32 p1_0), (Value.int .i64 p1_1)])]) (rs := [.tmp 4]) Try.func12 rfl (N := 32) rfl rfl rfl rfl ?_
  refine WE.seq ?_
  refine WE.reg ?_
  obtain ⟨b2, hpb2, w1, hww1, h⟩ := M.new_use h
  refine LE.r (v := (Value.pointer (some b2))) (Wn.no rfl) rfl (R.box (cs := #[(Value.int .u32 p0_0), (Value.int .i64 p0_1)]) rfl rfl hpb2 hww1) ?_
  obtain ⟨b4, hpb4, w3, hww3, h⟩ := M.new_use h
  refine LE.r (v := (Value.pointer (some b4))) (Wn.no rfl) rfl (R.box (cs := #[(Value.int .u32 p1_0), (Value.int .i64 p1_1)]) rfl rfl hpb4 hww3) ?_
  refine LE.p (v := (Value.bool false)) (Wn.no rfl) rfl (R.assign rfl) ?_
  refine LE.nil ?_
  refine WE.seq ?_
  refine WE.seq ?_
  obtain ⟨J5, hJ5, h⟩ := M.join_use h
  refine WE.regJ (fun e w => ∃ (x6 : Bool), J5 x6 w ∧ e 2 = (Value.pointer (some b2)) ∧ e 3 = (Value.pointer (some b4)) ∧ e 12 = (Value.bool x6)) ?_ ?_
  · clear hJ5
    obtain ⟨t7, h8, h⟩ := h
    obtain ⟨t9, h10, h⟩ := h
    refine LE.r (v := (Value.agg #[(Value.int .u32 t7), (Value.int .i64 t9)])) (Wn.no rfl) rfl (R.ldA ag30 sz30 rfl rfl (Cs.cons h8 (Cs.cons h10 Cs.nil))) ?_
    refine LE.c (Wn.no rfl) rfl (R.call bd35 (Ls.cons rfl Ls.nil) rfl) (Calls.mono h ?_)
    rintro _ w12 ⟨r11, rfl, h⟩
    refine ⟨_, rfl, ?_⟩
    refine LE.p (v := (Value.bool (!r11))) (Wn.no rfl) rfl (R.not rfl) ?_
    refine LE.p (v := (Value.bool (!r11))) (Wn.no rfl) rfl (R.move rfl) ?_
    rcases M.ite_use h with ⟨hb13, h⟩ | ⟨hb13, h⟩
    · refine LE.u (Un.no 3 8 false rfl rfl rfl (congrArg Value.bool hb13)) ?_
      refine LE.u (Un.no 3 8 false rfl rfl rfl (congrArg Value.bool hb13)) ?_
      refine LE.u (Un.no 3 8 false rfl rfl rfl (congrArg Value.bool hb13)) ?_
      refine LE.p (v := (Value.bool true)) (Wn.no rfl) rfl (R.pickT (congrArg Value.bool hb13) rfl) ?_
      refine LE.nil ?_
      exact ⟨_, h, rfl, rfl, rfl⟩
    · obtain ⟨t14, h15, h⟩ := h
      obtain ⟨t16, h17, h⟩ := h
      refine LE.r (v := (Value.agg #[(Value.int .u32 t14), (Value.int .i64 t16)])) (Wn.yes 3 8 false rfl rfl rfl (congrArg Value.bool hb13)) rfl (R.ldA ag30 sz30 rfl rfl (Cs.cons h15 (Cs.cons h17 Cs.nil))) ?_
      refine LE.c (Wn.yes 3 8 false rfl rfl rfl (congrArg Value.bool hb13)) rfl (R.call bd35 (Ls.cons rfl Ls.nil) rfl) (Calls.mono h ?_)
      rintro _ w19 ⟨r18, rfl, h⟩
      refine ⟨_, rfl, ?_⟩
      refine LE.p (v := (Value.bool (!r18))) (Wn.yes 3 8 false rfl rfl rfl (congrArg Value.bool hb13)) rfl (R.not rfl) ?_
      refine LE.p (v := (Value.bool (!r18))) (Wn.no rfl) rfl (R.pickF (congrArg Value.bool hb13) rfl) ?_
      refine LE.nil ?_
      exact ⟨_, h, rfl, rfl, rfl⟩
  · rintro e20 w21 ⟨x6, h, f22, f23, f24⟩
    subst hJ5
    refine WE.condT rfl (b := x6) f24 ?_ ?_
    · intro hb25
      replace h := M.ite_t h hb25
      refine WE.seq ?_
      refine WE.reg ?_
      refine LE.p (v := (Value.bool false)) (Wn.no rfl) rfl (R.assign rfl) ?_
      refine LE.nil ?_
      refine WE.ret ?_
      exact ⟨_, (Res.tmp rfl Res.nil), _, rfl, h⟩
    · intro hb25
      replace h := M.ite_f h hb25
      refine WE.skip ?_
      refine WE.seq ?_
      obtain ⟨J26, hJ26, h⟩ := M.join_use h
      refine WE.regJ (fun e w => ∃ (x27 : Bool), J26 x27 w ∧ e 4 = (Value.bool x27)) ?_ ?_
      · clear hJ26
        refine LE.p (v := (Value.pointer (some b2))) (Wn.no rfl) rfl (R.fld (off := 0) fa30_0 f22) ?_
        obtain ⟨t28, h29, h⟩ := h
        refine LE.r (v := (Value.int .u32 t28)) (Wn.no rfl) rfl (R.ld sc23 rfl h29) ?_
        refine LE.p (v := (Value.pointer (some b4))) (Wn.no rfl) rfl (R.fld (off := 0) fa30_0 f23) ?_
        obtain ⟨t30, h31, h⟩ := h
        refine LE.r (v := (Value.int .u32 t30)) (Wn.no rfl) rfl (R.ld sc23 rfl h31) ?_
        refine LE.p (v := (Value.bool (decide (t28 < t30)))) (Wn.no rfl) rfl (R.lss rfl rfl) ?_
        refine LE.p (v := (Value.bool (decide (t28 < t30)))) (Wn.no rfl) rfl (R.move rfl) ?_
        rcases M.ite_use h with ⟨hb32, h⟩ | ⟨hb32, h⟩
        · refine LE.u (Un.no 5 18 false rfl rfl rfl (congrArg Value.bool hb32)) ?_
          refine LE.u (Un.no 5 18 false rfl rfl rfl (congrArg Value.bool hb32)) ?_
          refine LE.u (Un.no 5 18 false rfl rfl rfl (congrArg Value.bool hb32)) ?_
          refine LE.u (Un.no 5 18 false rfl rfl rfl (congrArg Value.bool hb32)) ?_
          refine LE.u (Un.no 5 18 false rfl rfl rfl (congrArg Value.bool hb32)) ?_
          refine LE.u (Un.no 5 18 false rfl rfl rfl (congrArg Value.bool hb32)) ?_
          refine LE.u (Un.un 11 24 true rfl rfl rfl rfl) ?_
          refine LE.u (Un.un 11 24 true rfl rfl rfl rfl) ?_
          refine LE.u (Un.un 11 24 true rfl rfl rfl rfl) ?_
          refine LE.u (Un.un 11 24 true rfl rfl rfl rfl) ?_
          refine LE.u (Un.un 11 24 true rfl rfl rfl rfl) ?_
          refine LE.u (Un.no 5 18 false rfl rfl rfl (congrArg Value.bool hb32)) ?_
          refine LE.p (v := (Value.bool true)) (Wn.no rfl) rfl (R.pickT (congrArg Value.bool hb32) rfl) ?_
          refine LE.p (v := (Value.bool true)) (Wn.no rfl) rfl (R.assign rfl) ?_
          refine LE.nil ?_
          exact ⟨_, h, rfl⟩
        · refine LE.p (v := (Value.pointer (some b2))) (Wn.yes 5 18 false rfl rfl rfl (congrArg Value.bool hb32)) rfl (R.fld (off := 0) fa30_0 f22) ?_
          obtain ⟨t33, h34, h⟩ := h
          refine LE.r (v := (Value.int .u32 t33)) (Wn.yes 5 18 false rfl rfl rfl (congrArg Value.bool hb32)) rfl (R.ld sc23 rfl h34) ?_
          refine LE.p (v := (Value.pointer (some b4))) (Wn.yes 5 18 false rfl rfl rfl (congrArg Value.bool hb32)) rfl (R.fld (off := 0) fa30_0 f23) ?_
          obtain ⟨t35, h36, h⟩ := h
          refine LE.r (v := (Value.int .u32 t35)) (Wn.yes 5 18 false rfl rfl rfl (congrArg Value.bool hb32)) rfl (R.ld sc23 rfl h36) ?_
          refine LE.p (v := (Value.bool (t33 == t35))) (Wn.yes 5 18 false rfl rfl rfl (congrArg Value.bool hb32)) rfl (R.eql rfl rfl) ?_
          refine LE.p (v := (Value.bool (t33 == t35))) (Wn.yes 5 18 false rfl rfl rfl (congrArg Value.bool hb32)) rfl (R.move rfl) ?_
          rcases M.ite_use h with ⟨hb37, h⟩ | ⟨hb37, h⟩
          · refine LE.p (v := (Value.pointer (some (b2.add 1)))) (Wn.yes 11 24 true rfl rfl rfl (congrArg Value.bool hb37)) rfl (R.fld (off := 1) fa30_1 f22) ?_
            obtain ⟨t38, h39, h⟩ := h
            refine LE.r (v := (Value.int .i64 t38)) (Wn.yes 11 24 true rfl rfl rfl (congrArg Value.bool hb37)) rfl (R.ld sc3 rfl h39) ?_
            refine LE.p (v := (Value.pointer (some (b4.add 1)))) (Wn.yes 11 24 true rfl rfl rfl (congrArg Value.bool hb37)) rfl (R.fld (off := 1) fa30_1 f23) ?_
            obtain ⟨t40, h41, h⟩ := h
            refine LE.r (v := (Value.int .i64 t40)) (Wn.yes 11 24 true rfl rfl rfl (congrArg Value.bool hb37)) rfl (R.ld sc3 rfl h41) ?_
            refine LE.p (v := (Value.bool (decide (t38 < t40)))) (Wn.yes 11 24 true rfl rfl rfl (congrArg Value.bool hb37)) rfl (R.lss rfl rfl) ?_
            refine LE.p (v := (Value.bool (decide (t38 < t40)))) (Wn.yes 5 18 false rfl rfl rfl (congrArg Value.bool hb32)) rfl (R.pickT (congrArg Value.bool hb37) rfl) ?_
            refine LE.p (v := (Value.bool (decide (t38 < t40)))) (Wn.no rfl) rfl (R.pickF (congrArg Value.bool hb32) rfl) ?_
            refine LE.p (v := (Value.bool (decide (t38 < t40)))) (Wn.no rfl) rfl (R.assign rfl) ?_
            refine LE.nil ?_
            exact ⟨_, h, rfl⟩
          · refine LE.u (Un.no 11 24 true rfl rfl rfl (congrArg Value.bool hb37)) ?_
            refine LE.u (Un.no 11 24 true rfl rfl rfl (congrArg Value.bool hb37)) ?_
            refine LE.u (Un.no 11 24 true rfl rfl rfl (congrArg Value.bool hb37)) ?_
            refine LE.u (Un.no 11 24 true rfl rfl rfl (congrArg Value.bool hb37)) ?_
            refine LE.u (Un.no 11 24 true rfl rfl rfl (congrArg Value.bool hb37)) ?_
            refine LE.p (v := (Value.bool false)) (Wn.yes 5 18 false rfl rfl rfl (congrArg Value.bool hb32)) rfl (R.pickF (congrArg Value.bool hb37) rfl) ?_
            refine LE.p (v := (Value.bool false)) (Wn.no rfl) rfl (R.pickF (congrArg Value.bool hb32) rfl) ?_
            refine LE.p (v := (Value.bool false)) (Wn.no rfl) rfl (R.assign rfl) ?_
            refine LE.nil ?_
            exact ⟨_, h, rfl⟩
      · rintro e42 w43 ⟨x27, h, f44⟩
        subst hJ26
        refine WE.ret ?_
        exact ⟨_, (Res.tmp f44 Res.nil), _, rfl, h⟩
/-- The formula of signpost.signpostref1.Has. -/
def F13 (p0_0 : Int) (p0_1 : Int) (p1 : Int) (K : Bool → World → Prop) (w0 : World) : Prop :=
M.new (.cells #[(Value.int .u32 p0_0), (Value.int .i64 p0_1)] 30) w0 fun b2 w1 =>
M.join (fun (x4 : Bool) (w21 : World) => 
K x4 w21) fun J3 => 
M.drew w1 fun w5 => 
M.ld (Value.int .u32) b2 w5 fun t6 =>
M.ld (Value.int .i64) (b2.add 1) w5 fun t8 =>
Calls Try.prog 35 #[(Value.agg #[(Value.int .u32 t6), (Value.int .i64 t8)])] w5 (R35 fun r10 w11 =>
M.ite r10 (
M.ld (Value.int .i64) (b2.add 1) w11 fun t13 =>
M.ld (Value.int .u32) b2 w11 fun t15 =>
Calls Try.prog 36 #[(Value.int .i64 t13)] w11 (R36 fun r17 w18 =>
M.keep (w18.cell? b2 = some (Value.int .u32 t15)) <|
J3 ((bAnd .u32 p1 r17) == t15) w18)) (
J3 false w11))
theorem F13_ok {w0 : World} {p0_0 : Int} {p0_1 : Int} {p1 : Int} {K : Bool → World → Prop} (h : F13 p0_0 p0_1 p1 K w0) : Calls Try.prog 13 #[(Value.agg #[(Value.int .u32 p0_0), (Value.int .i64 p0_1)]), (Value.int .u32 p1)] w0 (R13 K) := by
  refine calls_of_WE (args := [(Value.agg #[(Value.int .u32 p0_0), (Value.int .i64 p0_1)]), (Value.int .u32 p1)]) (rs := [.tmp 4]) Try.func13 rfl (N := 17) rfl rfl rfl rfl ?_
  refine WE.seq ?_
  refine WE.reg ?_
  obtain ⟨b2, hpb2, w1, hww1, h⟩ := M.new_use h
  refine LE.r (v := (Value.pointer (some b2))) (Wn.no rfl) rfl (R.box (cs := #[(Value.int .u32 p0_0), (Value.int .i64 p0_1)]) rfl rfl hpb2 hww1) ?_
  refine LE.p (v := (Value.bool false)) (Wn.no rfl) rfl (R.assign rfl) ?_
  refine LE.nil ?_
  refine WE.seq ?_
  obtain ⟨J3, hJ3, h⟩ := M.join_use h
  refine WE.drawJ (fun e w => ∃ (x4 : Bool), J3 x4 w ∧ e 4 = (Value.bool x4)) mix ?_ ?_
  · clear hJ3
    obtain ⟨w5, hww5, h⟩ := M.drew_use h
    rw [← hww5]
    clear hww5
    obtain ⟨t6, h7, h⟩ := h
    obtain ⟨t8, h9, h⟩ := h
    refine DE.main 0 (by kernel_rfl) ?_
    refine One.r 0 (v := (Value.agg #[(Value.int .u32 t6), (Value.int .i64 t8)])) rfl (Wn.no rfl) rfl (R.ldA ag30 sz30 rfl rfl (Cs.cons h7 (Cs.cons h9 Cs.nil))) (.inl rfl) ?_
    refine DE.main 1 (by kernel_rfl) ?_
    refine One.c 1 rfl (Wn.no rfl) rfl (R.call bd35 (Ls.cons rfl Ls.nil) rfl) (Calls.mono h ?_)
    rintro _ w11 ⟨r10, rfl, h⟩
    refine ⟨_, rfl, trivial, ?_⟩
    refine DE.t 2 (v := (Value.bool r10)) rfl (by kernel_rfl) (Wn.no rfl) rfl (R.move rfl) ?_
    rcases M.ite_use h with ⟨hb12, h⟩ | ⟨hb12, h⟩
    · refine DE.t 3 (v := (Value.int .u32 p1)) rfl (by kernel_rfl) (Wn.yes 2 7 true rfl rfl rfl (congrArg Value.bool hb12)) rfl (R.move rfl) ?_
      refine DE.t 4 (v := (Value.pointer (some (b2.add 1)))) rfl (by kernel_rfl) (Wn.yes 2 7 true rfl rfl rfl (congrArg Value.bool hb12)) rfl (R.fld (off := 1) fa30_1 rfl) ?_
      refine DE.t 8 (v := (Value.pointer (some b2))) rfl (by kernel_rfl) (Wn.yes 2 7 true rfl rfl rfl (congrArg Value.bool hb12)) rfl (R.fld (off := 0) fa30_0 rfl) ?_
      obtain ⟨t13, h14, h⟩ := h
      refine DE.hold 5 (fun w => w.cell? (b2.add 1) = some (Value.int .i64 t13)) (v := (Value.int .i64 t13)) rfl (by kernel_rfl) (Wn.yes 2 7 true rfl rfl rfl (congrArg Value.bool hb12)) rfl h14 (fun w hs => R.ld sc3 rfl hs) ?_
      obtain ⟨t15, h16, h⟩ := h
      refine DE.hold 9 (fun w => w.cell? b2 = some (Value.int .u32 t15)) (v := (Value.int .u32 t15)) rfl (by kernel_rfl) (Wn.yes 2 7 true rfl rfl rfl (congrArg Value.bool hb12)) rfl h16 (fun w hs => R.ld sc23 rfl hs) ?_
      refine DE.main 6 (by kernel_rfl) ?_
      refine One.c 6 rfl (Wn.yes 2 7 true rfl rfl rfl (congrArg Value.bool hb12)) rfl (R.call bd36 (Ls.cons rfl Ls.nil) rfl) (Calls.mono h ?_)
      rintro _ w18 ⟨r17, rfl, h⟩
      obtain ⟨k19, h⟩ := h
      refine ⟨_, rfl, ⟨fun _ => k19, aftT (by kernel_rfl), trivial⟩, ?_⟩
      refine DE.t 7 (v := (Value.int .u32 (bAnd .u32 p1 r17))) rfl (by kernel_rfl) (Wn.yes 2 7 true rfl rfl rfl (congrArg Value.bool hb12)) rfl (R.and rfl rfl) ?_
      refine DE.t 10 (v := (Value.bool ((bAnd .u32 p1 r17) == t15))) rfl (by kernel_rfl) (Wn.yes 2 7 true rfl rfl rfl (congrArg Value.bool hb12)) rfl (R.eql rfl rfl) ?_
      refine DE.t 11 (v := (Value.bool ((bAnd .u32 p1 r17) == t15))) rfl (by kernel_rfl) (Wn.no rfl) rfl (R.pickT (congrArg Value.bool hb12) rfl) ?_
      refine DE.t 12 (v := (Value.bool ((bAnd .u32 p1 r17) == t15))) rfl (by kernel_rfl) (Wn.no rfl) rfl (R.assign rfl) ?_
      refine DE.done (by kernel_rfl) ?_
      exact ⟨_, h, rfl⟩
    · refine DE.u 3 rfl (by kernel_rfl) (Un.no 2 7 true rfl rfl rfl (congrArg Value.bool hb12)) ?_
      refine DE.u 4 rfl (by kernel_rfl) (Un.no 2 7 true rfl rfl rfl (congrArg Value.bool hb12)) ?_
      refine DE.u 5 rfl (by kernel_rfl) (Un.no 2 7 true rfl rfl rfl (congrArg Value.bool hb12)) ?_
      refine DE.u 6 rfl (by kernel_rfl) (Un.no 2 7 true rfl rfl rfl (congrArg Value.bool hb12)) ?_
      refine DE.u 7 rfl (by kernel_rfl) (Un.no 2 7 true rfl rfl rfl (congrArg Value.bool hb12)) ?_
      refine DE.u 8 rfl (by kernel_rfl) (Un.no 2 7 true rfl rfl rfl (congrArg Value.bool hb12)) ?_
      refine DE.u 9 rfl (by kernel_rfl) (Un.no 2 7 true rfl rfl rfl (congrArg Value.bool hb12)) ?_
      refine DE.u 10 rfl (by kernel_rfl) (Un.no 2 7 true rfl rfl rfl (congrArg Value.bool hb12)) ?_
      refine DE.t 11 (v := (Value.bool false)) rfl (by kernel_rfl) (Wn.no rfl) rfl (R.pickF (congrArg Value.bool hb12) rfl) ?_
      refine DE.t 12 (v := (Value.bool false)) rfl (by kernel_rfl) (Wn.no rfl) rfl (R.assign rfl) ?_
      refine DE.done (by kernel_rfl) ?_
      exact ⟨_, h, rfl⟩
  · rintro e20 w21 ⟨x4, h, f22⟩
    subst hJ3
    refine WE.ret ?_
    exact ⟨_, (Res.tmp f22 Res.nil), _, rfl, h⟩
/-- The formula of math.IsInf. -/
def F14 (p0 : Nat) (p1 : Int) (K : Bool → World → Prop) (w0 : World) : Prop :=
M.join (fun (x2 : Nat) (w8 : World) => 
K (fGtr x2 (9218868437227405311 : Nat)) w8) fun J1 => 
M.ite (p1 == (0 : Int)) (
Calls Try.prog 37 #[(Value.float .f64 p0)] w0 (R37 fun r4 w5 =>
J1 r4 w5)) (
M.ite (decide (p1 < (0 : Int))) (
J1 (fNeg p0) w0) (
J1 p0 w0))
theorem F14_ok {w0 : World} {p0 : Nat} {p1 : Int} {K : Bool → World → Prop} (h : F14 p0 p1 K w0) : Calls Try.prog 14 #[(Value.float .f64 p0), (Value.int .i64 p1)] w0 (R14 K) := by
  refine calls_of_WE (args := [(Value.float .f64 p0), (Value.int .i64 p1)]) (rs := [.tmp 4]) Try.func14 rfl (N := 15) rfl rfl rfl rfl ?_
  refine WE.seq ?_
  refine WE.reg ?_
  refine LE.p (v := (Value.bool false)) (Wn.no rfl) rfl (R.assign rfl) ?_
  refine LE.nil ?_
  obtain ⟨J1, hJ1, h⟩ := M.join_use h
  refine WE.join (fun e w => ∃ (x2 : Nat), J1 x2 w ∧ e 0 = (Value.float .f64 x2)) ?_ ?_
  · clear hJ1
    refine WE.seq ?_
    refine WE.reg ?_
    refine LE.p (v := (Value.int .i64 p1)) (Wn.no rfl) rfl (R.move rfl) ?_
    refine LE.p (v := (Value.bool (p1 == (0 : Int)))) (Wn.no rfl) rfl (R.eql rfl rfl) ?_
    refine LE.nil ?_
    refine WE.condT rfl (b := (p1 == (0 : Int))) rfl ?_ ?_
    · intro hb3
      replace h := M.ite_t h hb3
      refine WE.reg ?_
      refine LE.p (v := (Value.float .f64 p0)) (Wn.no rfl) rfl (R.move rfl) ?_
      refine LE.c (Wn.no rfl) rfl (R.call bd37 (Ls.cons rfl Ls.nil) rfl) (Calls.mono h ?_)
      rintro _ w5 ⟨r4, rfl, h⟩
      refine ⟨_, rfl, ?_⟩
      refine LE.p (v := (Value.float .f64 r4)) (Wn.no rfl) rfl (R.assign rfl) ?_
      refine LE.nil ?_
      exact ⟨_, h, rfl⟩
    · intro hb3
      replace h := M.ite_f h hb3
      refine WE.seq ?_
      refine WE.reg ?_
      refine LE.p (v := (Value.int .i64 p1)) (Wn.no rfl) rfl (R.move rfl) ?_
      refine LE.p (v := (Value.bool (decide (p1 < (0 : Int))))) (Wn.no rfl) rfl (R.lss rfl rfl) ?_
      refine LE.nil ?_
      refine WE.condT rfl (b := (decide (p1 < (0 : Int)))) rfl ?_ ?_
      · intro hb6
        replace h := M.ite_t h hb6
        refine WE.reg ?_
        refine LE.p (v := (Value.float .f64 p0)) (Wn.no rfl) rfl (R.move rfl) ?_
        refine LE.p (v := (Value.float .f64 (fNeg p0))) (Wn.no rfl) rfl (R.fneg rfl) ?_
        refine LE.p (v := (Value.float .f64 (fNeg p0))) (Wn.no rfl) rfl (R.assign rfl) ?_
        refine LE.nil ?_
        exact ⟨_, h, rfl⟩
      · intro hb6
        replace h := M.ite_f h hb6
        refine WE.skip ?_
        exact ⟨_, h, rfl⟩
  · rintro e7 w8 ⟨x2, h, f9⟩
    subst hJ1
    refine WE.seq ?_
    refine WE.reg ?_
    refine LE.p (v := (Value.float .f64 x2)) (Wn.no rfl) rfl (R.move f9) ?_
    refine LE.p (v := (Value.bool (fGtr x2 (9218868437227405311 : Nat)))) (Wn.no rfl) rfl (R.fgtr rfl rfl) ?_
    refine LE.p (v := (Value.bool (fGtr x2 (9218868437227405311 : Nat)))) (Wn.no rfl) rfl (R.assign rfl) ?_
    refine LE.nil ?_
    refine WE.ret ?_
    exact ⟨_, (Res.tmp rfl Res.nil), _, rfl, h⟩
/-- The formula of signpost.signpostlaw15.bits. -/
def F15 (p0_0 : Int) (p0_1 : Int) (p0_2 : Bool) (p0_3 : Int) (p0_4 : Int) (p0_5 : Nat) (p1_0 : Int) (p1_1 : Int) (p1_2 : Bool) (p1_3 : Int) (p1_4 : Int) (p1_5 : Nat) (K : Bool → World → Prop) (w0 : World) : Prop :=
M.new (.cells #[(Value.int .u32 p0_0), (Value.int .i64 p0_1), (Value.bool p0_2), (Value.int .i64 p0_3), (Value.int .u32 p0_4), (Value.float .f64 p0_5)] 33) w0 fun b2 w1 =>
M.new (.cells #[(Value.int .u32 p1_0), (Value.int .i64 p1_1), (Value.bool p1_2), (Value.int .i64 p1_3), (Value.int .u32 p1_4), (Value.float .f64 p1_5)] 33) w1 fun b4 w3 =>
M.join (fun (x6 : Bool) (w37 : World) => 
K x6 w37) fun J5 => 
M.drew w3 fun w7 => 
M.ld (Value.int .u32) b2 w7 fun t8 =>
M.ld (Value.int .i64) (b2.add 1) w7 fun t10 =>
M.ld (Value.int .u32) b4 w7 fun t12 =>
M.ld (Value.int .i64) (b4.add 1) w7 fun t14 =>
M.ite ((t8 == t12) && (t10 == t14)) (
M.ld Value.bool (b2.add 2) w7 fun t17 =>
M.ld Value.bool (b4.add 2) w7 fun t19 =>
M.ite (t17 == t19) (
M.ld (Value.int .i64) (b2.add 3) w7 fun t22 =>
M.ld (Value.int .i64) (b4.add 3) w7 fun t24 =>
M.ite (t22 == t24) (
M.ld (Value.int .u32) (b2.add 4) w7 fun t27 =>
M.ld (Value.int .u32) (b4.add 4) w7 fun t29 =>
M.ite (t27 == t29) (
M.ld (Value.float .f64) (b2.add 5) w7 fun t32 =>
M.ld (Value.float .f64) (b4.add 5) w7 fun t34 =>
J5 ((t32 : Int) == (t34 : Int)) w7) (
J5 false w7)) (
J5 false w7)) (
J5 false w7)) (
J5 false w7)
theorem F15_ok {w0 : World} {p0_0 : Int} {p0_1 : Int} {p0_2 : Bool} {p0_3 : Int} {p0_4 : Int} {p0_5 : Nat} {p1_0 : Int} {p1_1 : Int} {p1_2 : Bool} {p1_3 : Int} {p1_4 : Int} {p1_5 : Nat} {K : Bool → World → Prop} (h : F15 p0_0 p0_1 p0_2 p0_3 p0_4 p0_5 p1_0 p1_1 p1_2 p1_3 p1_4 p1_5 K w0) : Calls Try.prog 15 #[(Value.agg #[(Value.int .u32 p0_0), (Value.int .i64 p0_1), (Value.bool p0_2), (Value.int .i64 p0_3), (Value.int .u32 p0_4), (Value.float .f64 p0_5)]), (Value.agg #[(Value.int .u32 p1_0), (Value.int .i64 p1_1), (Value.bool p1_2), (Value.int .i64 p1_3), (Value.int .u32 p1_4), (Value.float .f64 p1_5)])] w0 (R15 K) := by
  refine calls_of_WE (args := [(Value.agg #[(Value.int .u32 p0_0), (Value.int .i64 p0_1), (Value.bool p0_2), (Value.int .i64 p0_3), (Value.int .u32 p0_4), (Value.float .f64 p0_5)]), (Value.agg #[(Value.int .u32 p1_0), (Value.int .i64 p1_1), (Value.bool p1_2), (Value.int .i64 p1_3), (Value.int .u32 p1_4), (Value.float .f64 p1_5)])]) (rs := [.tmp 4]) Try.func15 rfl (N := 40) rfl rfl rfl rfl ?_
  refine WE.seq ?_
  refine WE.reg ?_
  obtain ⟨b2, hpb2, w1, hww1, h⟩ := M.new_use h
  refine LE.r (v := (Value.pointer (some b2))) (Wn.no rfl) rfl (R.box (cs := #[(Value.int .u32 p0_0), (Value.int .i64 p0_1), (Value.bool p0_2), (Value.int .i64 p0_3), (Value.int .u32 p0_4), (Value.float .f64 p0_5)]) rfl rfl hpb2 hww1) ?_
  obtain ⟨b4, hpb4, w3, hww3, h⟩ := M.new_use h
  refine LE.r (v := (Value.pointer (some b4))) (Wn.no rfl) rfl (R.box (cs := #[(Value.int .u32 p1_0), (Value.int .i64 p1_1), (Value.bool p1_2), (Value.int .i64 p1_3), (Value.int .u32 p1_4), (Value.float .f64 p1_5)]) rfl rfl hpb4 hww3) ?_
  refine LE.p (v := (Value.bool false)) (Wn.no rfl) rfl (R.assign rfl) ?_
  refine LE.nil ?_
  refine WE.seq ?_
  obtain ⟨J5, hJ5, h⟩ := M.join_use h
  refine WE.drawJ (fun e w => ∃ (x6 : Bool), J5 x6 w ∧ e 4 = (Value.bool x6)) mix ?_ ?_
  · clear hJ5
    obtain ⟨w7, hww7, h⟩ := M.drew_use h
    rw [← hww7]
    clear hww7
    refine DE.t 0 (v := (Value.pointer (some b2))) rfl (by kernel_rfl) (Wn.no rfl) rfl (R.fld (off := 0) fa33_0 rfl) ?_
    refine DE.t 2 (v := (Value.pointer (some b4))) rfl (by kernel_rfl) (Wn.no rfl) rfl (R.fld (off := 0) fa33_0 rfl) ?_
    obtain ⟨t8, h9, h⟩ := h
    obtain ⟨t10, h11, h⟩ := h
    refine DE.hold 1 (fun w => w.cell? b2 = some (Value.int .u32 t8) ∧ w.cell? (b2.add 1) = some (Value.int .i64 t10)) (v := (Value.agg #[(Value.int .u32 t8), (Value.int .i64 t10)])) rfl (by kernel_rfl) (Wn.no rfl) rfl ⟨h9, h11⟩ (fun w hs => R.ldA ag30 sz30 rfl rfl (Cs.cons hs.1 (Cs.cons hs.2 Cs.nil))) ?_
    obtain ⟨t12, h13, h⟩ := h
    obtain ⟨t14, h15, h⟩ := h
    refine DE.main 3 (by kernel_rfl) ?_
    refine One.r 3 (v := (Value.agg #[(Value.int .u32 t12), (Value.int .i64 t14)])) rfl (Wn.no rfl) rfl (R.ldA ag30 sz30 rfl rfl (Cs.cons h13 (Cs.cons h15 Cs.nil))) (.inl rfl) ?_
    refine DE.t 4 (v := (Value.bool ((t8 == t12) && (t10 == t14)))) rfl (by kernel_rfl) (Wn.no rfl) rfl (R.eqS (fun w => eq30 t8 t12 t10 t14 w) sg30 rfl rfl) ?_
    refine DE.t 5 (v := (Value.bool ((t8 == t12) && (t10 == t14)))) rfl (by kernel_rfl) (Wn.no rfl) rfl (R.move rfl) ?_
    rcases M.ite_use h with ⟨hb16, h⟩ | ⟨hb16, h⟩
    · refine DE.t 6 (v := (Value.pointer (some (b2.add 2)))) rfl (by kernel_rfl) (Wn.yes 5 10 true rfl rfl rfl (congrArg Value.bool hb16)) rfl (R.fld (off := 2) fa33_1 rfl) ?_
      refine DE.t 8 (v := (Value.pointer (some (b4.add 2)))) rfl (by kernel_rfl) (Wn.yes 5 10 true rfl rfl rfl (congrArg Value.bool hb16)) rfl (R.fld (off := 2) fa33_1 rfl) ?_
      obtain ⟨t17, h18, h⟩ := h
      refine DE.hold 7 (fun w => w.cell? (b2.add 2) = some (Value.bool t17)) (v := (Value.bool t17)) rfl (by kernel_rfl) (Wn.yes 5 10 true rfl rfl rfl (congrArg Value.bool hb16)) rfl h18 (fun w hs => R.ld sc4 rfl hs) ?_
      obtain ⟨t19, h20, h⟩ := h
      refine DE.main 9 (by kernel_rfl) ?_
      refine One.r 9 (v := (Value.bool t19)) rfl (Wn.yes 5 10 true rfl rfl rfl (congrArg Value.bool hb16)) rfl (R.ld sc4 rfl h20) (.inl rfl) ?_
      refine DE.t 10 (v := (Value.bool (t17 == t19))) rfl (by kernel_rfl) (Wn.yes 5 10 true rfl rfl rfl (congrArg Value.bool hb16)) rfl (R.beql bo4 rfl rfl) ?_
      refine DE.t 11 (v := (Value.bool (t17 == t19))) rfl (by kernel_rfl) (Wn.no rfl) rfl (R.pickT (congrArg Value.bool hb16) rfl) ?_
      refine DE.t 12 (v := (Value.bool (t17 == t19))) rfl (by kernel_rfl) (Wn.no rfl) rfl (R.move rfl) ?_
      rcases M.ite_use h with ⟨hb21, h⟩ | ⟨hb21, h⟩
      · refine DE.t 13 (v := (Value.pointer (some (b2.add 3)))) rfl (by kernel_rfl) (Wn.yes 12 17 true rfl rfl rfl (congrArg Value.bool hb21)) rfl (R.fld (off := 3) fa33_2 rfl) ?_
        refine DE.t 15 (v := (Value.pointer (some (b4.add 3)))) rfl (by kernel_rfl) (Wn.yes 12 17 true rfl rfl rfl (congrArg Value.bool hb21)) rfl (R.fld (off := 3) fa33_2 rfl) ?_
        obtain ⟨t22, h23, h⟩ := h
        refine DE.hold 14 (fun w => w.cell? (b2.add 3) = some (Value.int .i64 t22)) (v := (Value.int .i64 t22)) rfl (by kernel_rfl) (Wn.yes 12 17 true rfl rfl rfl (congrArg Value.bool hb21)) rfl h23 (fun w hs => R.ld sc3 rfl hs) ?_
        obtain ⟨t24, h25, h⟩ := h
        refine DE.main 16 (by kernel_rfl) ?_
        refine One.r 16 (v := (Value.int .i64 t24)) rfl (Wn.yes 12 17 true rfl rfl rfl (congrArg Value.bool hb21)) rfl (R.ld sc3 rfl h25) (.inl rfl) ?_
        refine DE.t 17 (v := (Value.bool (t22 == t24))) rfl (by kernel_rfl) (Wn.yes 12 17 true rfl rfl rfl (congrArg Value.bool hb21)) rfl (R.eql rfl rfl) ?_
        refine DE.t 18 (v := (Value.bool (t22 == t24))) rfl (by kernel_rfl) (Wn.no rfl) rfl (R.pickT (congrArg Value.bool hb21) rfl) ?_
        refine DE.t 19 (v := (Value.bool (t22 == t24))) rfl (by kernel_rfl) (Wn.no rfl) rfl (R.move rfl) ?_
        rcases M.ite_use h with ⟨hb26, h⟩ | ⟨hb26, h⟩
        · refine DE.t 20 (v := (Value.pointer (some (b2.add 4)))) rfl (by kernel_rfl) (Wn.yes 19 24 true rfl rfl rfl (congrArg Value.bool hb26)) rfl (R.fld (off := 4) fa33_3 rfl) ?_
          refine DE.t 22 (v := (Value.pointer (some (b4.add 4)))) rfl (by kernel_rfl) (Wn.yes 19 24 true rfl rfl rfl (congrArg Value.bool hb26)) rfl (R.fld (off := 4) fa33_3 rfl) ?_
          obtain ⟨t27, h28, h⟩ := h
          refine DE.hold 21 (fun w => w.cell? (b2.add 4) = some (Value.int .u32 t27)) (v := (Value.int .u32 t27)) rfl (by kernel_rfl) (Wn.yes 19 24 true rfl rfl rfl (congrArg Value.bool hb26)) rfl h28 (fun w hs => R.ld sc23 rfl hs) ?_
          obtain ⟨t29, h30, h⟩ := h
          refine DE.main 23 (by kernel_rfl) ?_
          refine One.r 23 (v := (Value.int .u32 t29)) rfl (Wn.yes 19 24 true rfl rfl rfl (congrArg Value.bool hb26)) rfl (R.ld sc23 rfl h30) (.inl rfl) ?_
          refine DE.t 24 (v := (Value.bool (t27 == t29))) rfl (by kernel_rfl) (Wn.yes 19 24 true rfl rfl rfl (congrArg Value.bool hb26)) rfl (R.eql rfl rfl) ?_
          refine DE.t 25 (v := (Value.bool (t27 == t29))) rfl (by kernel_rfl) (Wn.no rfl) rfl (R.pickT (congrArg Value.bool hb26) rfl) ?_
          refine DE.t 26 (v := (Value.bool (t27 == t29))) rfl (by kernel_rfl) (Wn.no rfl) rfl (R.move rfl) ?_
          rcases M.ite_use h with ⟨hb31, h⟩ | ⟨hb31, h⟩
          · refine DE.t 27 (v := (Value.pointer (some (b2.add 5)))) rfl (by kernel_rfl) (Wn.yes 26 31 true rfl rfl rfl (congrArg Value.bool hb31)) rfl (R.fld (off := 5) fa33_4 rfl) ?_
            refine DE.t 30 (v := (Value.pointer (some (b4.add 5)))) rfl (by kernel_rfl) (Wn.yes 26 31 true rfl rfl rfl (congrArg Value.bool hb31)) rfl (R.fld (off := 5) fa33_4 rfl) ?_
            obtain ⟨t32, h33, h⟩ := h
            refine DE.hold 28 (fun w => w.cell? (b2.add 5) = some (Value.float .f64 t32)) (v := (Value.float .f64 t32)) rfl (by kernel_rfl) (Wn.yes 26 31 true rfl rfl rfl (congrArg Value.bool hb31)) rfl h33 (fun w hs => R.ld sc31 rfl hs) ?_
            obtain ⟨t34, h35, h⟩ := h
            refine DE.hold 31 (fun w => w.cell? (b4.add 5) = some (Value.float .f64 t34)) (v := (Value.float .f64 t34)) rfl (by kernel_rfl) (Wn.yes 26 31 true rfl rfl rfl (congrArg Value.bool hb31)) rfl h35 (fun w hs => R.ld sc31 rfl hs) ?_
            refine DE.main 29 (by kernel_rfl) ?_
            refine One.r 29 (v := (Value.int .u64 (t32 : Int))) rfl (Wn.yes 26 31 true rfl rfl rfl (congrArg Value.bool hb31)) rfl (R.callx (xt38 t32) (by exact Ls.cons rfl Ls.nil) rfl _) (.inl rfl) ?_
            refine DE.main 32 (by kernel_rfl) ?_
            refine One.r 32 (v := (Value.int .u64 (t34 : Int))) rfl (Wn.yes 26 31 true rfl rfl rfl (congrArg Value.bool hb31)) rfl (R.callx (xt38 t34) (by exact Ls.cons rfl Ls.nil) rfl _) (.inl rfl) ?_
            refine DE.t 33 (v := (Value.bool ((t32 : Int) == (t34 : Int)))) rfl (by kernel_rfl) (Wn.yes 26 31 true rfl rfl rfl (congrArg Value.bool hb31)) rfl (R.eql rfl rfl) ?_
            refine DE.t 34 (v := (Value.bool ((t32 : Int) == (t34 : Int)))) rfl (by kernel_rfl) (Wn.no rfl) rfl (R.pickT (congrArg Value.bool hb31) rfl) ?_
            refine DE.t 35 (v := (Value.bool ((t32 : Int) == (t34 : Int)))) rfl (by kernel_rfl) (Wn.no rfl) rfl (R.assign rfl) ?_
            refine DE.done (by kernel_rfl) ?_
            exact ⟨_, h, rfl⟩
          · refine DE.u 27 rfl (by kernel_rfl) (Un.no 26 31 true rfl rfl rfl (congrArg Value.bool hb31)) ?_
            refine DE.u 28 rfl (by kernel_rfl) (Un.no 26 31 true rfl rfl rfl (congrArg Value.bool hb31)) ?_
            refine DE.u 29 rfl (by kernel_rfl) (Un.no 26 31 true rfl rfl rfl (congrArg Value.bool hb31)) ?_
            refine DE.u 30 rfl (by kernel_rfl) (Un.no 26 31 true rfl rfl rfl (congrArg Value.bool hb31)) ?_
            refine DE.u 31 rfl (by kernel_rfl) (Un.no 26 31 true rfl rfl rfl (congrArg Value.bool hb31)) ?_
            refine DE.u 32 rfl (by kernel_rfl) (Un.no 26 31 true rfl rfl rfl (congrArg Value.bool hb31)) ?_
            refine DE.u 33 rfl (by kernel_rfl) (Un.no 26 31 true rfl rfl rfl (congrArg Value.bool hb31)) ?_
            refine DE.t 34 (v := (Value.bool false)) rfl (by kernel_rfl) (Wn.no rfl) rfl (R.pickF (congrArg Value.bool hb31) rfl) ?_
            refine DE.t 35 (v := (Value.bool false)) rfl (by kernel_rfl) (Wn.no rfl) rfl (R.assign rfl) ?_
            refine DE.done (by kernel_rfl) ?_
            exact ⟨_, h, rfl⟩
        · refine DE.u 20 rfl (by kernel_rfl) (Un.no 19 24 true rfl rfl rfl (congrArg Value.bool hb26)) ?_
          refine DE.u 21 rfl (by kernel_rfl) (Un.no 19 24 true rfl rfl rfl (congrArg Value.bool hb26)) ?_
          refine DE.u 22 rfl (by kernel_rfl) (Un.no 19 24 true rfl rfl rfl (congrArg Value.bool hb26)) ?_
          refine DE.u 23 rfl (by kernel_rfl) (Un.no 19 24 true rfl rfl rfl (congrArg Value.bool hb26)) ?_
          refine DE.u 24 rfl (by kernel_rfl) (Un.no 19 24 true rfl rfl rfl (congrArg Value.bool hb26)) ?_
          refine DE.t 25 (v := (Value.bool false)) rfl (by kernel_rfl) (Wn.no rfl) rfl (R.pickF (congrArg Value.bool hb26) rfl) ?_
          refine DE.t 26 (v := (Value.bool false)) rfl (by kernel_rfl) (Wn.no rfl) rfl (R.move rfl) ?_
          refine DE.u 27 rfl (by kernel_rfl) (Un.no 26 31 true rfl rfl rfl rfl) ?_
          refine DE.u 28 rfl (by kernel_rfl) (Un.no 26 31 true rfl rfl rfl rfl) ?_
          refine DE.u 29 rfl (by kernel_rfl) (Un.no 26 31 true rfl rfl rfl rfl) ?_
          refine DE.u 30 rfl (by kernel_rfl) (Un.no 26 31 true rfl rfl rfl rfl) ?_
          refine DE.u 31 rfl (by kernel_rfl) (Un.no 26 31 true rfl rfl rfl rfl) ?_
          refine DE.u 32 rfl (by kernel_rfl) (Un.no 26 31 true rfl rfl rfl rfl) ?_
          refine DE.u 33 rfl (by kernel_rfl) (Un.no 26 31 true rfl rfl rfl rfl) ?_
          refine DE.t 34 (v := (Value.bool false)) rfl (by kernel_rfl) (Wn.no rfl) rfl (R.pickF rfl rfl) ?_
          refine DE.t 35 (v := (Value.bool false)) rfl (by kernel_rfl) (Wn.no rfl) rfl (R.assign rfl) ?_
          refine DE.done (by kernel_rfl) ?_
          exact ⟨_, h, rfl⟩
      · refine DE.u 13 rfl (by kernel_rfl) (Un.no 12 17 true rfl rfl rfl (congrArg Value.bool hb21)) ?_
        refine DE.u 14 rfl (by kernel_rfl) (Un.no 12 17 true rfl rfl rfl (congrArg Value.bool hb21)) ?_
        refine DE.u 15 rfl (by kernel_rfl) (Un.no 12 17 true rfl rfl rfl (congrArg Value.bool hb21)) ?_
        refine DE.u 16 rfl (by kernel_rfl) (Un.no 12 17 true rfl rfl rfl (congrArg Value.bool hb21)) ?_
        refine DE.u 17 rfl (by kernel_rfl) (Un.no 12 17 true rfl rfl rfl (congrArg Value.bool hb21)) ?_
        refine DE.t 18 (v := (Value.bool false)) rfl (by kernel_rfl) (Wn.no rfl) rfl (R.pickF (congrArg Value.bool hb21) rfl) ?_
        refine DE.t 19 (v := (Value.bool false)) rfl (by kernel_rfl) (Wn.no rfl) rfl (R.move rfl) ?_
        refine DE.u 20 rfl (by kernel_rfl) (Un.no 19 24 true rfl rfl rfl rfl) ?_
        refine DE.u 21 rfl (by kernel_rfl) (Un.no 19 24 true rfl rfl rfl rfl) ?_
        refine DE.u 22 rfl (by kernel_rfl) (Un.no 19 24 true rfl rfl rfl rfl) ?_
        refine DE.u 23 rfl (by kernel_rfl) (Un.no 19 24 true rfl rfl rfl rfl) ?_
        refine DE.u 24 rfl (by kernel_rfl) (Un.no 19 24 true rfl rfl rfl rfl) ?_
        refine DE.t 25 (v := (Value.bool false)) rfl (by kernel_rfl) (Wn.no rfl) rfl (R.pickF rfl rfl) ?_
        refine DE.t 26 (v := (Value.bool false)) rfl (by kernel_rfl) (Wn.no rfl) rfl (R.move rfl) ?_
        refine DE.u 27 rfl (by kernel_rfl) (Un.no 26 31 true rfl rfl rfl rfl) ?_
        refine DE.u 28 rfl (by kernel_rfl) (Un.no 26 31 true rfl rfl rfl rfl) ?_
        refine DE.u 29 rfl (by kernel_rfl) (Un.no 26 31 true rfl rfl rfl rfl) ?_
        refine DE.u 30 rfl (by kernel_rfl) (Un.no 26 31 true rfl rfl rfl rfl) ?_
        refine DE.u 31 rfl (by kernel_rfl) (Un.no 26 31 true rfl rfl rfl rfl) ?_
        refine DE.u 32 rfl (by kernel_rfl) (Un.no 26 31 true rfl rfl rfl rfl) ?_
        refine DE.u 33 rfl (by kernel_rfl) (Un.no 26 31 true rfl rfl rfl rfl) ?_
        refine DE.t 34 (v := (Value.bool false)) rfl (by kernel_rfl) (Wn.no rfl) rfl (R.pickF rfl rfl) ?_
        refine DE.t 35 (v := (Value.bool false)) rfl (by kernel_rfl) (Wn.no rfl) rfl (R.assign rfl) ?_
        refine DE.done (by kernel_rfl) ?_
        exact ⟨_, h, rfl⟩
    · refine DE.u 6 rfl (by kernel_rfl) (Un.no 5 10 true rfl rfl rfl (congrArg Value.bool hb16)) ?_
      refine DE.u 7 rfl (by kernel_rfl) (Un.no 5 10 true rfl rfl rfl (congrArg Value.bool hb16)) ?_
      refine DE.u 8 rfl (by kernel_rfl) (Un.no 5 10 true rfl rfl rfl (congrArg Value.bool hb16)) ?_
      refine DE.u 9 rfl (by kernel_rfl) (Un.no 5 10 true rfl rfl rfl (congrArg Value.bool hb16)) ?_
      refine DE.u 10 rfl (by kernel_rfl) (Un.no 5 10 true rfl rfl rfl (congrArg Value.bool hb16)) ?_
      refine DE.t 11 (v := (Value.bool false)) rfl (by kernel_rfl) (Wn.no rfl) rfl (R.pickF (congrArg Value.bool hb16) rfl) ?_
      refine DE.t 12 (v := (Value.bool false)) rfl (by kernel_rfl) (Wn.no rfl) rfl (R.move rfl) ?_
      refine DE.u 13 rfl (by kernel_rfl) (Un.no 12 17 true rfl rfl rfl rfl) ?_
      refine DE.u 14 rfl (by kernel_rfl) (Un.no 12 17 true rfl rfl rfl rfl) ?_
      refine DE.u 15 rfl (by kernel_rfl) (Un.no 12 17 true rfl rfl rfl rfl) ?_
      refine DE.u 16 rfl (by kernel_rfl) (Un.no 12 17 true rfl rfl rfl rfl) ?_
      refine DE.u 17 rfl (by kernel_rfl) (Un.no 12 17 true rfl rfl rfl rfl) ?_
      refine DE.t 18 (v := (Value.bool false)) rfl (by kernel_rfl) (Wn.no rfl) rfl (R.pickF rfl rfl) ?_
      refine DE.t 19 (v := (Value.bool false)) rfl (by kernel_rfl) (Wn.no rfl) rfl (R.move rfl) ?_
      refine DE.u 20 rfl (by kernel_rfl) (Un.no 19 24 true rfl rfl rfl rfl) ?_
      refine DE.u 21 rfl (by kernel_rfl) (Un.no 19 24 true rfl rfl rfl rfl) ?_
      refine DE.u 22 rfl (by kernel_rfl) (Un.no 19 24 true rfl rfl rfl rfl) ?_
      refine DE.u 23 rfl (by kernel_rfl) (Un.no 19 24 true rfl rfl rfl rfl) ?_
      refine DE.u 24 rfl (by kernel_rfl) (Un.no 19 24 true rfl rfl rfl rfl) ?_
      refine DE.t 25 (v := (Value.bool false)) rfl (by kernel_rfl) (Wn.no rfl) rfl (R.pickF rfl rfl) ?_
      refine DE.t 26 (v := (Value.bool false)) rfl (by kernel_rfl) (Wn.no rfl) rfl (R.move rfl) ?_
      refine DE.u 27 rfl (by kernel_rfl) (Un.no 26 31 true rfl rfl rfl rfl) ?_
      refine DE.u 28 rfl (by kernel_rfl) (Un.no 26 31 true rfl rfl rfl rfl) ?_
      refine DE.u 29 rfl (by kernel_rfl) (Un.no 26 31 true rfl rfl rfl rfl) ?_
      refine DE.u 30 rfl (by kernel_rfl) (Un.no 26 31 true rfl rfl rfl rfl) ?_
      refine DE.u 31 rfl (by kernel_rfl) (Un.no 26 31 true rfl rfl rfl rfl) ?_
      refine DE.u 32 rfl (by kernel_rfl) (Un.no 26 31 true rfl rfl rfl rfl) ?_
      refine DE.u 33 rfl (by kernel_rfl) (Un.no 26 31 true rfl rfl rfl rfl) ?_
      refine DE.t 34 (v := (Value.bool false)) rfl (by kernel_rfl) (Wn.no rfl) rfl (R.pickF rfl rfl) ?_
      refine DE.t 35 (v := (Value.bool false)) rfl (by kernel_rfl) (Wn.no rfl) rfl (R.assign rfl) ?_
      refine DE.done (by kernel_rfl) ?_
      exact ⟨_, h, rfl⟩
  · rintro e36 w37 ⟨x6, h, f38⟩
    subst hJ5
    refine WE.ret ?_
    exact ⟨_, (Res.tmp f38 Res.nil), _, rfl, h⟩
/-- The formula of signpost.signpostlaw15.known. -/
def F16  (K : Bool → World → Prop) (w0 : World) : Prop :=
Calls Try.prog 7 #[] w0 (R7 fun r1 w2 =>
M.ite (Option.isNone r1) (
K false w2) (
Calls Try.prog 8 #[(Value.pointer r1), (Value.agg #[(Value.int .u32 (167772160 : Int)), (Value.int .i64 (8 : Int)), (Value.bool true), (Value.int .i64 (3 : Int)), (Value.int .u32 (0 : Int)), (Value.float .f64 (4617315517961601024 : Nat))])] w2 (R8 fun r4 r5 w6 =>
Calls Try.prog 19 #[(Value.int .i64 (1 : Int))] w6 (R19 fun r7 w8 =>
Calls Try.prog 8 #[(Value.pointer r1), (Value.agg #[(Value.int .u32 (167837696 : Int)), (Value.int .i64 (16 : Int)), (Value.bool true), (Value.int .i64 (0 : Int)), (Value.int .u32 (0 : Int)), (Value.float .f64 r7)])] w8 (R8 fun r9 r10 w11 =>
Calls Try.prog 10 #[(Value.pointer r1), (Value.int .u32 (167837697 : Int))] w11 (R10 fun r12 r13 r14 r15 r16 r17 r18 w19 =>
M.new (.cells #[(Value.int .u32 (0 : Int)), (Value.int .i64 (0 : Int)), (Value.bool false), (Value.int .i64 (0 : Int)), (Value.int .u32 (0 : Int)), (Value.float .f64 (0 : Nat))] 33) w19 fun b21 w20 =>
M.stA b21 [(Value.int .u32 r12), (Value.int .i64 r13), (Value.bool r14), (Value.int .i64 r15), (Value.int .u32 r16), (Value.float .f64 r17)] w20 fun w22 =>
M.join (fun (x25 : Bool) (w38 : World) => 
K x25 w38) fun J24 => 
M.ite r4 (
M.ite (r5 == (0 : Int)) (
M.ite r18 (
M.ld (Value.int .i64) (b21.add 3) w22 fun t29 =>
M.ite (t29 == (3 : Int)) (
M.ld (Value.float .f64) (b21.add 5) w22 fun t32 =>
M.ite (fEql t32 (4617315517961601024 : Nat)) (
Calls Try.prog 11 #[(Value.pointer r1)] w22 (R11 fun r35 w36 =>
J24 ((r35.len : Int) == (2 : Int)) w36)) (
J24 false w22)) (
J24 false w22)) (
J24 false w22)) (
J24 false w22)) (
J24 false w22)))))))
theorem F16_ok {w0 : World}  {K : Bool → World → Prop} (h : F16 K w0) : Calls Try.prog 16 #[] w0 (R16 K) := by
  refine calls_of_WE (args := []) (rs := [.tmp 0]) Try.func16 rfl (N := 50) rfl rfl rfl rfl ?_
  refine WE.seq ?_
  refine WE.reg ?_
  refine LE.p (v := (Value.bool false)) (Wn.no rfl) rfl (R.assign rfl) ?_
  refine LE.nil ?_
  refine WE.seq ?_
  refine WE.reg ?_
  refine LE.c (Wn.no rfl) rfl (R.call bd7 Ls.nil rfl) (Calls.mono h ?_)
  rintro _ w2 ⟨r1, rfl, h⟩
  refine ⟨_, rfl, ?_⟩
  refine LE.p (v := (Value.pointer r1)) (Wn.no rfl) rfl (R.assign rfl) ?_
  refine LE.nil ?_
  refine WE.seq ?_
  refine WE.seq ?_
  refine WE.reg ?_
  refine LE.p (v := (Value.pointer r1)) (Wn.no rfl) rfl (R.move rfl) ?_
  refine LE.p (v := (Value.bool (Option.isNone r1))) (Wn.no rfl) rfl (R.peqNil pt24 rfl rfl) ?_
  refine LE.nil ?_
  refine WE.condT rfl (b := (Option.isNone r1)) rfl ?_ ?_
  · intro hb3
    replace h := M.ite_t h hb3
    refine WE.seq ?_
    refine WE.reg ?_
    refine LE.p (v := (Value.bool false)) (Wn.no rfl) rfl (R.assign rfl) ?_
    refine LE.nil ?_
    refine WE.ret ?_
    exact ⟨_, (Res.tmp rfl Res.nil), _, rfl, h⟩
  · intro hb3
    replace h := M.ite_f h hb3
    refine WE.skip ?_
    refine WE.seq ?_
    refine WE.reg ?_
    refine LE.p (v := (Value.pointer r1)) (Wn.no rfl) rfl (R.move rfl) ?_
    refine LE.p (v := (Value.agg #[(Value.int .u32 (167772160 : Int)), (Value.int .i64 (8 : Int))])) (Wn.no rfl) rfl (R.bld (by exact (Ls.cons (R.Pr rfl) (Ls.cons (R.Pr rfl) Ls.nil))) (fun w => bu30_0_1 (167772160 : Int) (8 : Int) w)) ?_
    refine LE.p (v := (Value.agg #[(Value.int .u32 (167772160 : Int)), (Value.int .i64 (8 : Int)), (Value.bool true), (Value.int .i64 (3 : Int)), (Value.int .u32 (0 : Int)), (Value.float .f64 (4617315517961601024 : Nat))])) (Wn.no rfl) rfl (R.bld (by exact (Ls.cons (R.Pr rfl) (Ls.cons (R.Pr rfl) (Ls.cons (R.Pr rfl) (Ls.cons (R.Pr rfl) Ls.nil))))) (fun w => bu33_0_1_2_4 (167772160 : Int) (8 : Int) true (3 : Int) (4617315517961601024 : Nat) w)) ?_
    refine LE.c (Wn.no rfl) rfl (R.call bd8 (Ls.cons rfl (Ls.cons rfl Ls.nil)) rfl) (Calls.mono h ?_)
    rintro _ w6 ⟨r4, r5, rfl, h⟩
    refine ⟨_, rfl, ?_⟩
    refine LE.p (v := (Value.tuple #[(Value.bool r4), (Value.int .i64 r5)])) (Wn.no rfl) rfl (R.move rfl) ?_
    refine LE.p (v := (Value.bool r4)) (Wn.no rfl) rfl (R.ext rfl rfl) ?_
    refine LE.p (v := (Value.int .i64 r5)) (Wn.no rfl) rfl (R.ext rfl rfl) ?_
    refine LE.p (v := (Value.bool r4)) (Wn.no rfl) rfl (R.assign rfl) ?_
    refine LE.p (v := (Value.int .i64 r5)) (Wn.no rfl) rfl (R.assign rfl) ?_
    refine LE.nil ?_
    refine WE.seq ?_
    refine WE.reg ?_
    refine LE.p (v := (Value.pointer r1)) (Wn.no rfl) rfl (R.move rfl) ?_
    refine LE.p (v := (Value.agg #[(Value.int .u32 (167837696 : Int)), (Value.int .i64 (16 : Int))])) (Wn.no rfl) rfl (R.bld (by exact (Ls.cons (R.Pr rfl) (Ls.cons (R.Pr rfl) Ls.nil))) (fun w => bu30_0_1 (167837696 : Int) (16 : Int) w)) ?_
    refine LE.c (Wn.no rfl) rfl (R.call bd19 (Ls.cons rfl Ls.nil) rfl) (Calls.mono h ?_)
    rintro _ w8 ⟨r7, rfl, h⟩
    refine ⟨_, rfl, ?_⟩
    refine LE.p (v := (Value.agg #[(Value.int .u32 (167837696 : Int)), (Value.int .i64 (16 : Int)), (Value.bool true), (Value.int .i64 (0 : Int)), (Value.int .u32 (0 : Int)), (Value.float .f64 r7)])) (Wn.no rfl) rfl (R.bld (by exact (Ls.cons (R.Pr rfl) (Ls.cons (R.Pr rfl) (Ls.cons (R.Pr rfl) Ls.nil)))) (fun w => bu33_0_1_4 (167837696 : Int) (16 : Int) true r7 w)) ?_
    refine LE.c (Wn.no rfl) rfl (R.call bd8 (Ls.cons rfl (Ls.cons rfl Ls.nil)) rfl) (Calls.mono h ?_)
    rintro _ w11 ⟨r9, r10, rfl, h⟩
    refine ⟨_, rfl, ?_⟩
    refine LE.nil ?_
    refine WE.seq ?_
    refine WE.reg ?_
    refine LE.p (v := (Value.pointer r1)) (Wn.no rfl) rfl (R.move rfl) ?_
    refine LE.c (Wn.no rfl) rfl (R.call bd10 (Ls.cons rfl (Ls.cons rfl Ls.nil)) rfl) (Calls.mono h ?_)
    rintro _ w19 ⟨r12, r13, r14, r15, r16, r17, r18, rfl, h⟩
    refine ⟨_, rfl, ?_⟩
    refine LE.p (v := (Value.tuple #[(Value.agg #[(Value.int .u32 r12), (Value.int .i64 r13), (Value.bool r14), (Value.int .i64 r15), (Value.int .u32 r16), (Value.float .f64 r17)]), (Value.bool r18)])) (Wn.no rfl) rfl (R.move rfl) ?_
    refine LE.p (v := (Value.agg #[(Value.int .u32 r12), (Value.int .i64 r13), (Value.bool r14), (Value.int .i64 r15), (Value.int .u32 r16), (Value.float .f64 r17)])) (Wn.no rfl) rfl (R.ext rfl rfl) ?_
    refine LE.p (v := (Value.bool r18)) (Wn.no rfl) rfl (R.ext rfl rfl) ?_
    obtain ⟨b21, hpb21, w20, hww20, h⟩ := M.new_use h
    refine LE.r (v := (Value.pointer (some b21))) (Wn.no rfl) rfl (R.alloc (cs := #[(Value.int .u32 (0 : Int)), (Value.int .i64 (0 : Int)), (Value.bool false), (Value.int .i64 (0 : Int)), (Value.int .u32 (0 : Int)), (Value.float .f64 (0 : Nat))]) ze33 rfl hpb21 hww20) ?_
    obtain ⟨w22, hww22, h23, h⟩ := M.stA_use h
    refine LE.s (Wn.no rfl) rfl (R.stA (a := b21) [(Value.int .u32 r12), (Value.int .i64 r13), (Value.bool r14), (Value.int .i64 r15), (Value.int .u32 r16), (Value.float .f64 r17)] sz33 rfl rfl rfl (by simp [Value.oneCell']) h23 hww22) ?_
    refine LE.p (v := (Value.bool r18)) (Wn.no rfl) rfl (R.assign rfl) ?_
    refine LE.nil ?_
    refine WE.seq ?_
    obtain ⟨J24, hJ24, h⟩ := M.join_use h
    refine WE.regJ (fun e w => ∃ (x25 : Bool), J24 x25 w ∧ e 0 = (Value.bool x25)) ?_ ?_
    · clear hJ24
      refine LE.p (v := (Value.bool r4)) (Wn.no rfl) rfl (R.move rfl) ?_
      refine LE.p (v := (Value.bool r4)) (Wn.no rfl) rfl (R.move rfl) ?_
      rcases M.ite_use h with ⟨hb26, h⟩ | ⟨hb26, h⟩
      · refine LE.p (v := (Value.int .i64 r5)) (Wn.yes 1 27 true rfl rfl rfl (congrArg Value.bool hb26)) rfl (R.move rfl) ?_
        refine LE.p (v := (Value.bool (r5 == (0 : Int)))) (Wn.yes 1 27 true rfl rfl rfl (congrArg Value.bool hb26)) rfl (R.eql rfl rfl) ?_
        refine LE.p (v := (Value.bool (r5 == (0 : Int)))) (Wn.no rfl) rfl (R.pickT (congrArg Value.bool hb26) rfl) ?_
        refine LE.p (v := (Value.bool (r5 == (0 : Int)))) (Wn.no rfl) rfl (R.move rfl) ?_
        rcases M.ite_use h with ⟨hb27, h⟩ | ⟨hb27, h⟩
        · refine LE.p (v := (Value.bool r18)) (Wn.yes 5 31 true rfl rfl rfl (congrArg Value.bool hb27)) rfl (R.move rfl) ?_
          refine LE.p (v := (Value.bool r18)) (Wn.no rfl) rfl (R.pickT (congrArg Value.bool hb27) rfl) ?_
          refine LE.p (v := (Value.bool r18)) (Wn.no rfl) rfl (R.move rfl) ?_
          rcases M.ite_use h with ⟨hb28, h⟩ | ⟨hb28, h⟩
          · refine LE.p (v := (Value.pointer (some (b21.add 3)))) (Wn.yes 8 34 true rfl rfl rfl (congrArg Value.bool hb28)) rfl (R.fld (off := 3) fa33_2 rfl) ?_
            obtain ⟨t29, h30, h⟩ := h
            refine LE.r (v := (Value.int .i64 t29)) (Wn.yes 8 34 true rfl rfl rfl (congrArg Value.bool hb28)) rfl (R.ld sc3 rfl h30) ?_
            refine LE.p (v := (Value.bool (t29 == (3 : Int)))) (Wn.yes 8 34 true rfl rfl rfl (congrArg Value.bool hb28)) rfl (R.eql rfl rfl) ?_
            refine LE.p (v := (Value.bool (t29 == (3 : Int)))) (Wn.no rfl) rfl (R.pickT (congrArg Value.bool hb28) rfl) ?_
            refine LE.p (v := (Value.bool (t29 == (3 : Int)))) (Wn.no rfl) rfl (R.move rfl) ?_
            rcases M.ite_use h with ⟨hb31, h⟩ | ⟨hb31, h⟩
            · refine LE.p (v := (Value.pointer (some (b21.add 5)))) (Wn.yes 13 39 true rfl rfl rfl (congrArg Value.bool hb31)) rfl (R.fld (off := 5) fa33_4 rfl) ?_
              obtain ⟨t32, h33, h⟩ := h
              refine LE.r (v := (Value.float .f64 t32)) (Wn.yes 13 39 true rfl rfl rfl (congrArg Value.bool hb31)) rfl (R.ld sc31 rfl h33) ?_
              refine LE.p (v := (Value.bool (fEql t32 (4617315517961601024 : Nat)))) (Wn.yes 13 39 true rfl rfl rfl (congrArg Value.bool hb31)) rfl (R.feql rfl rfl) ?_
              refine LE.p (v := (Value.bool (fEql t32 (4617315517961601024 : Nat)))) (Wn.no rfl) rfl (R.pickT (congrArg Value.bool hb31) rfl) ?_
              refine LE.p (v := (Value.bool (fEql t32 (4617315517961601024 : Nat)))) (Wn.no rfl) rfl (R.move rfl) ?_
              rcases M.ite_use h with ⟨hb34, h⟩ | ⟨hb34, h⟩
              · refine LE.p (v := (Value.pointer r1)) (Wn.yes 18 44 true rfl rfl rfl (congrArg Value.bool hb34)) rfl (R.move rfl) ?_
                refine LE.c (Wn.yes 18 44 true rfl rfl rfl (congrArg Value.bool hb34)) rfl (R.call bd11 (Ls.cons rfl Ls.nil) rfl) (Calls.mono h ?_)
                rintro _ w36 ⟨r35, rfl, h⟩
                refine ⟨_, rfl, ?_⟩
                refine LE.p (v := (Value.int .i64 (r35.len : Int))) (Wn.yes 18 44 true rfl rfl rfl (congrArg Value.bool hb34)) rfl (R.len sl39 rfl) ?_
                refine LE.p (v := (Value.bool ((r35.len : Int) == (2 : Int)))) (Wn.yes 18 44 true rfl rfl rfl (congrArg Value.bool hb34)) rfl (R.eql rfl rfl) ?_
                refine LE.p (v := (Value.bool ((r35.len : Int) == (2 : Int)))) (Wn.no rfl) rfl (R.pickT (congrArg Value.bool hb34) rfl) ?_
                refine LE.p (v := (Value.bool ((r35.len : Int) == (2 : Int)))) (Wn.no rfl) rfl (R.assign rfl) ?_
                refine LE.nil ?_
                exact ⟨_, h, rfl⟩
              · refine LE.u (Un.no 18 44 true rfl rfl rfl (congrArg Value.bool hb34)) ?_
                refine LE.u (Un.no 18 44 true rfl rfl rfl (congrArg Value.bool hb34)) ?_
                refine LE.u (Un.no 18 44 true rfl rfl rfl (congrArg Value.bool hb34)) ?_
                refine LE.u (Un.no 18 44 true rfl rfl rfl (congrArg Value.bool hb34)) ?_
                refine LE.p (v := (Value.bool false)) (Wn.no rfl) rfl (R.pickF (congrArg Value.bool hb34) rfl) ?_
                refine LE.p (v := (Value.bool false)) (Wn.no rfl) rfl (R.assign rfl) ?_
                refine LE.nil ?_
                exact ⟨_, h, rfl⟩
            · refine LE.u (Un.no 13 39 true rfl rfl rfl (congrArg Value.bool hb31)) ?_
              refine LE.u (Un.no 13 39 true rfl rfl rfl (congrArg Value.bool hb31)) ?_
              refine LE.u (Un.no 13 39 true rfl rfl rfl (congrArg Value.bool hb31)) ?_
              refine LE.p (v := (Value.bool false)) (Wn.no rfl) rfl (R.pickF (congrArg Value.bool hb31) rfl) ?_
              refine LE.p (v := (Value.bool false)) (Wn.no rfl) rfl (R.move rfl) ?_
              refine LE.u (Un.no 18 44 true rfl rfl rfl rfl) ?_
              refine LE.u (Un.no 18 44 true rfl rfl rfl rfl) ?_
              refine LE.u (Un.no 18 44 true rfl rfl rfl rfl) ?_
              refine LE.u (Un.no 18 44 true rfl rfl rfl rfl) ?_
              refine LE.p (v := (Value.bool false)) (Wn.no rfl) rfl (R.pickF rfl rfl) ?_
              refine LE.p (v := (Value.bool false)) (Wn.no rfl) rfl (R.assign rfl) ?_
              refine LE.nil ?_
              exact ⟨_, h, rfl⟩
          · refine LE.u (Un.no 8 34 true rfl rfl rfl (congrArg Value.bool hb28)) ?_
            refine LE.u (Un.no 8 34 true rfl rfl rfl (congrArg Value.bool hb28)) ?_
            refine LE.u (Un.no 8 34 true rfl rfl rfl (congrArg Value.bool hb28)) ?_
            refine LE.p (v := (Value.bool false)) (Wn.no rfl) rfl (R.pickF (congrArg Value.bool hb28) rfl) ?_
            refine LE.p (v := (Value.bool false)) (Wn.no rfl) rfl (R.move rfl) ?_
            refine LE.u (Un.no 13 39 true rfl rfl rfl rfl) ?_
            refine LE.u (Un.no 13 39 true rfl rfl rfl rfl) ?_
            refine LE.u (Un.no 13 39 true rfl rfl rfl rfl) ?_
            refine LE.p (v := (Value.bool false)) (Wn.no rfl) rfl (R.pickF rfl rfl) ?_
            refine LE.p (v := (Value.bool false)) (Wn.no rfl) rfl (R.move rfl) ?_
            refine LE.u (Un.no 18 44 true rfl rfl rfl rfl) ?_
            refine LE.u (Un.no 18 44 true rfl rfl rfl rfl) ?_
            refine LE.u (Un.no 18 44 true rfl rfl rfl rfl) ?_
            refine LE.u (Un.no 18 44 true rfl rfl rfl rfl) ?_
            refine LE.p (v := (Value.bool false)) (Wn.no rfl) rfl (R.pickF rfl rfl) ?_
            refine LE.p (v := (Value.bool false)) (Wn.no rfl) rfl (R.assign rfl) ?_
            refine LE.nil ?_
            exact ⟨_, h, rfl⟩
        · refine LE.u (Un.no 5 31 true rfl rfl rfl (congrArg Value.bool hb27)) ?_
          refine LE.p (v := (Value.bool false)) (Wn.no rfl) rfl (R.pickF (congrArg Value.bool hb27) rfl) ?_
          refine LE.p (v := (Value.bool false)) (Wn.no rfl) rfl (R.move rfl) ?_
          refine LE.u (Un.no 8 34 true rfl rfl rfl rfl) ?_
          refine LE.u (Un.no 8 34 true rfl rfl rfl rfl) ?_
          refine LE.u (Un.no 8 34 true rfl rfl rfl rfl) ?_
          refine LE.p (v := (Value.bool false)) (Wn.no rfl) rfl (R.pickF rfl rfl) ?_
          refine LE.p (v := (Value.bool false)) (Wn.no rfl) rfl (R.move rfl) ?_
          refine LE.u (Un.no 13 39 true rfl rfl rfl rfl) ?_
          refine LE.u (Un.no 13 39 true rfl rfl rfl rfl) ?_
          refine LE.u (Un.no 13 39 true rfl rfl rfl rfl) ?_
          refine LE.p (v := (Value.bool false)) (Wn.no rfl) rfl (R.pickF rfl rfl) ?_
          refine LE.p (v := (Value.bool false)) (Wn.no rfl) rfl (R.move rfl) ?_
          refine LE.u (Un.no 18 44 true rfl rfl rfl rfl) ?_
          refine LE.u (Un.no 18 44 true rfl rfl rfl rfl) ?_
          refine LE.u (Un.no 18 44 true rfl rfl rfl rfl) ?_
          refine LE.u (Un.no 18 44 true rfl rfl rfl rfl) ?_
          refine LE.p (v := (Value.bool false)) (Wn.no rfl) rfl (R.pickF rfl rfl) ?_
          refine LE.p (v := (Value.bool false)) (Wn.no rfl) rfl (R.assign rfl) ?_
          refine LE.nil ?_
          exact ⟨_, h, rfl⟩
      · refine LE.u (Un.no 1 27 true rfl rfl rfl (congrArg Value.bool hb26)) ?_
        refine LE.u (Un.no 1 27 true rfl rfl rfl (congrArg Value.bool hb26)) ?_
        refine LE.p (v := (Value.bool false)) (Wn.no rfl) rfl (R.pickF (congrArg Value.bool hb26) rfl) ?_
        refine LE.p (v := (Value.bool false)) (Wn.no rfl) rfl (R.move rfl) ?_
        refine LE.u (Un.no 5 31 true rfl rfl rfl rfl) ?_
        refine LE.p (v := (Value.bool false)) (Wn.no rfl) rfl (R.pickF rfl rfl) ?_
        refine LE.p (v := (Value.bool false)) (Wn.no rfl) rfl (R.move rfl) ?_
        refine LE.u (Un.no 8 34 true rfl rfl rfl rfl) ?_
        refine LE.u (Un.no 8 34 true rfl rfl rfl rfl) ?_
        refine LE.u (Un.no 8 34 true rfl rfl rfl rfl) ?_
        refine LE.p (v := (Value.bool false)) (Wn.no rfl) rfl (R.pickF rfl rfl) ?_
        refine LE.p (v := (Value.bool false)) (Wn.no rfl) rfl (R.move rfl) ?_
        refine LE.u (Un.no 13 39 true rfl rfl rfl rfl) ?_
        refine LE.u (Un.no 13 39 true rfl rfl rfl rfl) ?_
        refine LE.u (Un.no 13 39 true rfl rfl rfl rfl) ?_
        refine LE.p (v := (Value.bool false)) (Wn.no rfl) rfl (R.pickF rfl rfl) ?_
        refine LE.p (v := (Value.bool false)) (Wn.no rfl) rfl (R.move rfl) ?_
        refine LE.u (Un.no 18 44 true rfl rfl rfl rfl) ?_
        refine LE.u (Un.no 18 44 true rfl rfl rfl rfl) ?_
        refine LE.u (Un.no 18 44 true rfl rfl rfl rfl) ?_
        refine LE.u (Un.no 18 44 true rfl rfl rfl rfl) ?_
        refine LE.p (v := (Value.bool false)) (Wn.no rfl) rfl (R.pickF rfl rfl) ?_
        refine LE.p (v := (Value.bool false)) (Wn.no rfl) rfl (R.assign rfl) ?_
        refine LE.nil ?_
        exact ⟨_, h, rfl⟩
    · rintro e37 w38 ⟨x25, h, f39⟩
      subst hJ24
      refine WE.ret ?_
      exact ⟨_, (Res.tmp f39 Res.nil), _, rfl, h⟩
/-- The formula of signpost.signpostlaw15.do. -/
def F17 (p0 : Option Addr) (p1 : Option Addr) (p2_0 : Int) (p2_1 : Int) (p2_2 : Int) (p2_3 : Bool) (p2_4 : Int) (p2_5 : Int) (p2_6 : Nat) (p2_7 : Int) (p2_8 : Bool) (K : Bool → World → Prop) (w0 : World) : Prop :=
M.new (.cells #[(Value.int .i64 p2_0), (Value.int .u32 p2_1), (Value.int .i64 p2_2), (Value.bool p2_3), (Value.int .i64 p2_4), (Value.int .u32 p2_5), (Value.float .f64 p2_6), (Value.int .u32 p2_7), (Value.bool p2_8)] 36) w0 fun b2 w1 =>
∃ (t3 : Int) (t4 : Int) (t5 : Int) (t6 : Bool) (t7 : Int) (t8 : Int) (t9 : Nat) (t10 : Int) (t11 : Bool), Cs w1 b2 0 [(Value.int .i64 t3), (Value.int .u32 t4), (Value.int .i64 t5), (Value.bool t6), (Value.int .i64 t7), (Value.int .u32 t8), (Value.float .f64 t9), (Value.int .u32 t10), (Value.bool t11)] ∧
Calls Try.prog 39 #[(Value.agg #[(Value.int .i64 t3), (Value.int .u32 t4), (Value.int .i64 t5), (Value.bool t6), (Value.int .i64 t7), (Value.int .u32 t8), (Value.float .f64 t9), (Value.int .u32 t10), (Value.bool t11)])] w1 (R39 fun r13 r14 r15 r16 r17 r18 w19 =>
M.new (.cells #[(Value.int .u32 (0 : Int)), (Value.int .i64 (0 : Int)), (Value.bool false), (Value.int .i64 (0 : Int)), (Value.int .u32 (0 : Int)), (Value.float .f64 (0 : Nat))] 33) w19 fun b21 w20 =>
M.stA b21 [(Value.int .u32 r13), (Value.int .i64 r14), (Value.bool r15), (Value.int .i64 r16), (Value.int .u32 r17), (Value.float .f64 r18)] w20 fun w22 =>
M.ld (Value.int .i64) b2 w22 fun t24 =>
M.join (fun (w98 : World) => 
M.ld (Value.int .u32) (b2.add 7) w98 fun t103 =>
Calls Try.prog 10 #[(Value.pointer p0), (Value.int .u32 t103)] w98 (R10 fun r105 r106 r107 r108 r109 r110 r111 w112 =>
M.new (.cells #[(Value.int .u32 (0 : Int)), (Value.int .i64 (0 : Int)), (Value.bool false), (Value.int .i64 (0 : Int)), (Value.int .u32 (0 : Int)), (Value.float .f64 (0 : Nat))] 33) w112 fun b114 w113 =>
M.stA b114 [(Value.int .u32 r105), (Value.int .i64 r106), (Value.bool r107), (Value.int .i64 r108), (Value.int .u32 r109), (Value.float .f64 r110)] w113 fun w115 =>
M.ld (Value.int .u32) (b2.add 7) w115 fun t117 =>
Calls Try.prog 43 #[(Value.pointer p1), (Value.int .u32 t117)] w115 (R43 fun r119 r120 r121 r122 r123 r124 r125 w126 =>
M.new (.cells #[(Value.int .u32 (0 : Int)), (Value.int .i64 (0 : Int)), (Value.bool false), (Value.int .i64 (0 : Int)), (Value.int .u32 (0 : Int)), (Value.float .f64 (0 : Nat))] 33) w126 fun b128 w127 =>
M.stA b128 [(Value.int .u32 r119), (Value.int .i64 r120), (Value.bool r121), (Value.int .i64 r122), (Value.int .u32 r123), (Value.float .f64 r124)] w127 fun w129 =>
M.ld (Value.int .u32) b21 w129 fun t131 =>
M.ld (Value.int .i64) (b21.add 1) w129 fun t133 =>
Calls Try.prog 21 #[(Value.pointer p0), (Value.agg #[(Value.int .u32 t131), (Value.int .i64 t133)])] w129 (R21 fun r135 r136 r137 r138 r139 r140 r141 w142 =>
M.new (.cells #[(Value.int .u32 (0 : Int)), (Value.int .i64 (0 : Int)), (Value.bool false), (Value.int .i64 (0 : Int)), (Value.int .u32 (0 : Int)), (Value.float .f64 (0 : Nat))] 33) w142 fun b144 w143 =>
M.stA b144 [(Value.int .u32 r135), (Value.int .i64 r136), (Value.bool r137), (Value.int .i64 r138), (Value.int .u32 r139), (Value.float .f64 r140)] w143 fun w145 =>
M.ld (Value.int .u32) b21 w145 fun t147 =>
M.ld (Value.int .i64) (b21.add 1) w145 fun t149 =>
Calls Try.prog 44 #[(Value.pointer p1), (Value.agg #[(Value.int .u32 t147), (Value.int .i64 t149)])] w145 (R44 fun r151 r152 r153 r154 r155 r156 r157 w158 =>
M.new (.cells #[(Value.int .u32 (0 : Int)), (Value.int .i64 (0 : Int)), (Value.bool false), (Value.int .i64 (0 : Int)), (Value.int .u32 (0 : Int)), (Value.float .f64 (0 : Nat))] 33) w158 fun b160 w159 =>
M.stA b160 [(Value.int .u32 r151), (Value.int .i64 r152), (Value.bool r153), (Value.int .i64 r154), (Value.int .u32 r155), (Value.float .f64 r156)] w159 fun w161 =>
M.join (fun (x164 : Bool) (w237 : World) => 
K x164 w237) fun J163 => 
M.drew w161 fun w165 => 
∃ (t166 : Int) (t167 : Int) (t168 : Bool) (t169 : Int) (t170 : Int) (t171 : Nat), Cs w165 b114 0 [(Value.int .u32 t166), (Value.int .i64 t167), (Value.bool t168), (Value.int .i64 t169), (Value.int .u32 t170), (Value.float .f64 t171)] ∧
∃ (t173 : Int) (t174 : Int) (t175 : Bool) (t176 : Int) (t177 : Int) (t178 : Nat), Cs w165 b128 0 [(Value.int .u32 t173), (Value.int .i64 t174), (Value.bool t175), (Value.int .i64 t176), (Value.int .u32 t177), (Value.float .f64 t178)] ∧
Calls Try.prog 15 #[(Value.agg #[(Value.int .u32 t166), (Value.int .i64 t167), (Value.bool t168), (Value.int .i64 t169), (Value.int .u32 t170), (Value.float .f64 t171)]), (Value.agg #[(Value.int .u32 t173), (Value.int .i64 t174), (Value.bool t175), (Value.int .i64 t176), (Value.int .u32 t177), (Value.float .f64 t178)])] w165 (R15 fun r180 w181 =>
M.ite r180 (
M.ite (r111 == r125) (
∃ (t184 : Int) (t185 : Int) (t186 : Bool) (t187 : Int) (t188 : Int) (t189 : Nat), Cs w181 b144 0 [(Value.int .u32 t184), (Value.int .i64 t185), (Value.bool t186), (Value.int .i64 t187), (Value.int .u32 t188), (Value.float .f64 t189)] ∧
∃ (t191 : Int) (t192 : Int) (t193 : Bool) (t194 : Int) (t195 : Int) (t196 : Nat), Cs w181 b160 0 [(Value.int .u32 t191), (Value.int .i64 t192), (Value.bool t193), (Value.int .i64 t194), (Value.int .u32 t195), (Value.float .f64 t196)] ∧
Calls Try.prog 15 #[(Value.agg #[(Value.int .u32 t184), (Value.int .i64 t185), (Value.bool t186), (Value.int .i64 t187), (Value.int .u32 t188), (Value.float .f64 t189)]), (Value.agg #[(Value.int .u32 t191), (Value.int .i64 t192), (Value.bool t193), (Value.int .i64 t194), (Value.int .u32 t195), (Value.float .f64 t196)])] w181 (R15 fun r198 w199 =>
M.ite r198 (
M.ite (r141 == r157) (
∃ (t202 : Int) (t203 : Int) (t204 : Bool) (t205 : Int) (t206 : Int) (t207 : Nat), Cs w199 b21 0 [(Value.int .u32 t202), (Value.int .i64 t203), (Value.bool t204), (Value.int .i64 t205), (Value.int .u32 t206), (Value.float .f64 t207)] ∧
∃ (t209 : Int) (t210 : Int) (t211 : Bool) (t212 : Int) (t213 : Int) (t214 : Nat), Cs w199 b144 0 [(Value.int .u32 t209), (Value.int .i64 t210), (Value.bool t211), (Value.int .i64 t212), (Value.int .u32 t213), (Value.float .f64 t214)] ∧
∃ (t216 : Int) (t217 : Int) (t218 : Bool) (t219 : Int) (t220 : Int) (t221 : Nat), Cs w199 b21 0 [(Value.int .u32 t216), (Value.int .i64 t217), (Value.bool t218), (Value.int .i64 t219), (Value.int .u32 t220), (Value.float .f64 t221)] ∧
∃ (t223 : Int) (t224 : Int) (t225 : Bool) (t226 : Int) (t227 : Int) (t228 : Nat), Cs w199 b160 0 [(Value.int .u32 t223), (Value.int .i64 t224), (Value.bool t225), (Value.int .i64 t226), (Value.int .u32 t227), (Value.float .f64 t228)] ∧
Calls Try.prog 29 #[(Value.agg #[(Value.int .u32 t202), (Value.int .i64 t203), (Value.bool t204), (Value.int .i64 t205), (Value.int .u32 t206), (Value.float .f64 t207)]), (Value.agg #[(Value.int .u32 t209), (Value.int .i64 t210), (Value.bool t211), (Value.int .i64 t212), (Value.int .u32 t213), (Value.float .f64 t214)])] w199 (R29 fun r230 w231 =>
M.keep (Cs w231 b160 0 [(Value.int .u32 t223), (Value.int .i64 t224), (Value.bool t225), (Value.int .i64 t226), (Value.int .u32 t227), (Value.float .f64 t228)]) <|
M.keep (Cs w231 b21 0 [(Value.int .u32 t216), (Value.int .i64 t217), (Value.bool t218), (Value.int .i64 t219), (Value.int .u32 t220), (Value.float .f64 t221)]) <|
Calls Try.prog 45 #[(Value.agg #[(Value.int .u32 t216), (Value.int .i64 t217), (Value.bool t218), (Value.int .i64 t219), (Value.int .u32 t220), (Value.float .f64 t221)]), (Value.agg #[(Value.int .u32 t223), (Value.int .i64 t224), (Value.bool t225), (Value.int .i64 t226), (Value.int .u32 t227), (Value.float .f64 t228)])] w231 (R45 fun r234 w235 =>
J163 (r230 == r234) w235))) (
J163 false w199)) (
J163 false w199))) (
J163 false w181)) (
J163 false w181))))))) fun J26 => 
M.ite (t24 == (1 : Int)) (
∃ (t28 : Int) (t29 : Int) (t30 : Bool) (t31 : Int) (t32 : Int) (t33 : Nat), Cs w22 b21 0 [(Value.int .u32 t28), (Value.int .i64 t29), (Value.bool t30), (Value.int .i64 t31), (Value.int .u32 t32), (Value.float .f64 t33)] ∧
Calls Try.prog 8 #[(Value.pointer p0), (Value.agg #[(Value.int .u32 t28), (Value.int .i64 t29), (Value.bool t30), (Value.int .i64 t31), (Value.int .u32 t32), (Value.float .f64 t33)])] w22 (R8 fun r35 r36 w37 =>
∃ (t38 : Int) (t39 : Int) (t40 : Bool) (t41 : Int) (t42 : Int) (t43 : Nat), Cs w37 b21 0 [(Value.int .u32 t38), (Value.int .i64 t39), (Value.bool t40), (Value.int .i64 t41), (Value.int .u32 t42), (Value.float .f64 t43)] ∧
Calls Try.prog 40 #[(Value.pointer p1), (Value.agg #[(Value.int .u32 t38), (Value.int .i64 t39), (Value.bool t40), (Value.int .i64 t41), (Value.int .u32 t42), (Value.float .f64 t43)])] w37 (R40 fun r45 r46 w47 =>
M.join (fun (x49 : Bool) (w73 : World) => 
M.ite x49 (
K false w73) (
J26 w73)) fun J48 => 
M.drew w47 fun w50 => 
M.ite (!(r35 == r45)) (
J48 true w50) (
M.ite (r36 != r46) (
J48 true w50) (
∃ (t53 : Int) (t54 : Int) (t55 : Bool) (t56 : Int) (t57 : Int) (t58 : Nat), Cs w50 b21 0 [(Value.int .u32 t53), (Value.int .i64 t54), (Value.bool t55), (Value.int .i64 t56), (Value.int .u32 t57), (Value.float .f64 t58)] ∧
∃ (t60 : Int) (t61 : Int) (t62 : Bool) (t63 : Int) (t64 : Int) (t65 : Nat), Cs w50 b21 0 [(Value.int .u32 t60), (Value.int .i64 t61), (Value.bool t62), (Value.int .i64 t63), (Value.int .u32 t64), (Value.float .f64 t65)] ∧
Calls Try.prog 25 #[(Value.agg #[(Value.int .u32 t53), (Value.int .i64 t54), (Value.bool t55), (Value.int .i64 t56), (Value.int .u32 t57), (Value.float .f64 t58)])] w50 (R25 fun r67 w68 =>
M.keep (Cs w68 b21 0 [(Value.int .u32 t60), (Value.int .i64 t61), (Value.bool t62), (Value.int .i64 t63), (Value.int .u32 t64), (Value.float .f64 t65)]) <|
Calls Try.prog 41 #[(Value.agg #[(Value.int .u32 t60), (Value.int .i64 t61), (Value.bool t62), (Value.int .i64 t63), (Value.int .u32 t64), (Value.float .f64 t65)])] w68 (R41 fun r70 w71 =>
J48 (!(r67 == r70)) w71))))))) (
M.ite (t24 == (2 : Int)) (
M.drew w22 fun w81 => 
M.ld (Value.int .u32) b21 w81 fun t82 =>
M.ld (Value.int .i64) (b21.add 1) w81 fun t84 =>
M.ld (Value.int .u32) b21 w81 fun t86 =>
M.ld (Value.int .i64) (b21.add 1) w81 fun t88 =>
Calls Try.prog 20 #[(Value.pointer p0), (Value.agg #[(Value.int .u32 t82), (Value.int .i64 t84)])] w81 (R20 fun r90 w91 =>
M.keep (w91.cell? b21 = some (Value.int .u32 t86)) <|
M.keep (w91.cell? (b21.add 1) = some (Value.int .i64 t88)) <|
Calls Try.prog 42 #[(Value.pointer p1), (Value.agg #[(Value.int .u32 t86), (Value.int .i64 t88)])] w91 (R42 fun r94 w95 =>
M.ite (!(r90 == r94)) (
K false w95) (
J26 w95)))) (
J26 w22)))
theorem F17_ok {w0 : World} {p0 : Option Addr} {p1 : Option Addr} {p2_0 : Int} {p2_1 : Int} {p2_2 : Int} {p2_3 : Bool} {p2_4 : Int} {p2_5 : Int} {p2_6 : Nat} {p2_7 : Int} {p2_8 : Bool} {K : Bool → World → Prop} (h : F17 p0 p1 p2_0 p2_1 p2_2 p2_3 p2_4 p2_5 p2_6 p2_7 p2_8 K w0) : Calls Try.prog 17 #[(Value.pointer p0), (Value.pointer p1), (Value.agg #[(Value.int .i64 p2_0), (Value.int .u32 p2_1), (Value.int .i64 p2_2), (Value.bool p2_3), (Value.int .i64 p2_4), (Value.int .u32 p2_5), (Value.float .f64 p2_6), (Value.int .u32 p2_7), (Value.bool p2_8)])] w0 (R17 K) := by
  refine calls_of_WE (args := [(Value.pointer p0), (Value.pointer p1), (Value.agg #[(Value.int .i64 p2_0), (Value.int .u32 p2_1), (Value.int .i64 p2_2), (Value.bool p2_3), (Value.int .i64 p2_4), (Value.int .u32 p2_5), (Value.float .f64 p2_6), (Value.int .u32 p2_7), (Value.bool p2_8)])]) (rs := [.tmp 6]) Try.func17 rfl (N := 119) rfl rfl rfl rfl ?_
  refine WE.seq ?_
  refine WE.reg ?_
  obtain ⟨b2, hpb2, w1, hww1, h⟩ := M.new_use h
  refine LE.r (v := (Value.pointer (some b2))) (Wn.no rfl) rfl (R.box (cs := #[(Value.int .i64 p2_0), (Value.int .u32 p2_1), (Value.int .i64 p2_2), (Value.bool p2_3), (Value.int .i64 p2_4), (Value.int .u32 p2_5), (Value.float .f64 p2_6), (Value.int .u32 p2_7), (Value.bool p2_8)]) rfl rfl hpb2 hww1) ?_
  refine LE.p (v := (Value.bool false)) (Wn.no rfl) rfl (R.assign rfl) ?_
  refine LE.nil ?_
  refine WE.seq ?_
  refine WE.reg ?_
  obtain ⟨t3, t4, t5, t6, t7, t8, t9, t10, t11, h12, h⟩ := h
  refine LE.r (v := (Value.agg #[(Value.int .i64 t3), (Value.int .u32 t4), (Value.int .i64 t5), (Value.bool t6), (Value.int .i64 t7), (Value.int .u32 t8), (Value.float .f64 t9), (Value.int .u32 t10), (Value.bool t11)])) (Wn.no rfl) rfl (R.ldA ag36 sz36 rfl rfl h12) ?_
  refine LE.c (Wn.no rfl) rfl (R.call bd39 (Ls.cons rfl Ls.nil) rfl) (Calls.mono h ?_)
  rintro _ w19 ⟨r13, r14, r15, r16, r17, r18, rfl, h⟩
  refine ⟨_, rfl, ?_⟩
  obtain ⟨b21, hpb21, w20, hww20, h⟩ := M.new_use h
  refine LE.r (v := (Value.pointer (some b21))) (Wn.no rfl) rfl (R.alloc (cs := #[(Value.int .u32 (0 : Int)), (Value.int .i64 (0 : Int)), (Value.bool false), (Value.int .i64 (0 : Int)), (Value.int .u32 (0 : Int)), (Value.float .f64 (0 : Nat))]) ze33 rfl hpb21 hww20) ?_
  obtain ⟨w22, hww22, h23, h⟩ := M.stA_use h
  refine LE.s (Wn.no rfl) rfl (R.stA (a := b21) [(Value.int .u32 r13), (Value.int .i64 r14), (Value.bool r15), (Value.int .i64 r16), (Value.int .u32 r17), (Value.float .f64 r18)] sz33 rfl rfl rfl (by simp [Value.oneCell']) h23 hww22) ?_
  refine LE.nil ?_
  refine WE.seq ?_
  refine WE.seq ?_
  refine WE.reg ?_
  refine LE.p (v := (Value.pointer (some b2))) (Wn.no rfl) rfl (R.fld (off := 0) fa36_0 rfl) ?_
  obtain ⟨t24, h25, h⟩ := h
  refine LE.r (v := (Value.int .i64 t24)) (Wn.no rfl) rfl (R.ld sc3 rfl h25) ?_
  refine LE.nil ?_
  obtain ⟨J26, hJ26, h⟩ := M.join_use h
  refine WE.blkJ (fun e w => J26 w ∧ e 0 = (Value.pointer p0) ∧ e 1 = (Value.pointer p1) ∧ e 5 = (Value.pointer (some b2)) ∧ e 7 = (Value.pointer (some b21))) ?_ ?_
  · clear hJ26
    refine WE.seq ?_
    refine WE.reg ?_
    refine LE.p (v := (Value.bool (t24 == (1 : Int)))) (Wn.no rfl) rfl (R.eql rfl rfl) ?_
    refine LE.p (v := (Value.bool (t24 == (1 : Int)))) (Wn.no rfl) rfl (R.assign rfl) ?_
    refine LE.nil ?_
    refine WE.condT rfl (b := (t24 == (1 : Int))) rfl ?_ ?_
    · intro hb27
      replace h := M.ite_t h hb27
      refine WE.seq ?_
      refine WE.reg ?_
      refine LE.p (v := (Value.pointer p0)) (Wn.no rfl) rfl (R.move rfl) ?_
      obtain ⟨t28, t29, t30, t31, t32, t33, h34, h⟩ := h
      refine LE.r (v := (Value.agg #[(Value.int .u32 t28), (Value.int .i64 t29), (Value.bool t30), (Value.int .i64 t31), (Value.int .u32 t32), (Value.float .f64 t33)])) (Wn.no rfl) rfl (R.ldA ag33 sz33 rfl rfl h34) ?_
      refine LE.c (Wn.no rfl) rfl (R.call bd8 (Ls.cons rfl (Ls.cons rfl Ls.nil)) rfl) (Calls.mono h ?_)
      rintro _ w37 ⟨r35, r36, rfl, h⟩
      refine ⟨_, rfl, ?_⟩
      refine LE.p (v := (Value.tuple #[(Value.bool r35), (Value.int .i64 r36)])) (Wn.no rfl) rfl (R.move rfl) ?_
      refine LE.p (v := (Value.bool r35)) (Wn.no rfl) rfl (R.ext rfl rfl) ?_
      refine LE.p (v := (Value.int .i64 r36)) (Wn.no rfl) rfl (R.ext rfl rfl) ?_
      refine LE.p (v := (Value.bool r35)) (Wn.no rfl) rfl (R.assign rfl) ?_
      refine LE.p (v := (Value.int .i64 r36)) (Wn.no rfl) rfl (R.assign rfl) ?_
      refine LE.nil ?_
      refine WE.seq ?_
      refine WE.reg ?_
      refine LE.p (v := (Value.pointer p1)) (Wn.no rfl) rfl (R.move rfl) ?_
      obtain ⟨t38, t39, t40, t41, t42, t43, h44, h⟩ := h
      refine LE.r (v := (Value.agg #[(Value.int .u32 t38), (Value.int .i64 t39), (Value.bool t40), (Value.int .i64 t41), (Value.int .u32 t42), (Value.float .f64 t43)])) (Wn.no rfl) rfl (R.ldA ag33 sz33 rfl rfl h44) ?_
      refine LE.c (Wn.no rfl) rfl (R.call bd40 (Ls.cons rfl (Ls.cons rfl Ls.nil)) rfl) (Calls.mono h ?_)
      rintro _ w47 ⟨r45, r46, rfl, h⟩
      refine ⟨_, rfl, ?_⟩
      refine LE.p (v := (Value.tuple #[(Value.bool r45), (Value.int .i64 r46)])) (Wn.no rfl) rfl (R.move rfl) ?_
      refine LE.p (v := (Value.bool r45)) (Wn.no rfl) rfl (R.ext rfl rfl) ?_
      refine LE.p (v := (Value.int .i64 r46)) (Wn.no rfl) rfl (R.ext rfl rfl) ?_
      refine LE.p (v := (Value.bool r45)) (Wn.no rfl) rfl (R.assign rfl) ?_
      refine LE.p (v := (Value.int .i64 r46)) (Wn.no rfl) rfl (R.assign rfl) ?_
      refine LE.nil ?_
      refine WE.seq ?_
      obtain ⟨J48, hJ48, h⟩ := M.join_use h
      refine WE.drawJ (fun e w => ∃ (x49 : Bool), J48 x49 w ∧ e 0 = (Value.pointer p0) ∧ e 1 = (Value.pointer p1) ∧ e 5 = (Value.pointer (some b2)) ∧ e 7 = (Value.pointer (some b21)) ∧ e 52 = (Value.bool x49)) mix ?_ ?_
      · clear hJ48
        obtain ⟨w50, hww50, h⟩ := M.drew_use h
        rw [← hww50]
        clear hww50
        refine DE.t 0 (v := (Value.bool r35)) rfl (by kernel_rfl) (Wn.no rfl) rfl (R.move rfl) ?_
        refine DE.t 1 (v := (Value.bool r45)) rfl (by kernel_rfl) (Wn.no rfl) rfl (R.move rfl) ?_
        refine DE.t 2 (v := (Value.bool (!(r35 == r45)))) rfl (by kernel_rfl) (Wn.no rfl) rfl (R.bneq bo4 rfl rfl) ?_
        refine DE.t 3 (v := (Value.bool (!(r35 == r45)))) rfl (by kernel_rfl) (Wn.no rfl) rfl (R.move rfl) ?_
        rcases M.ite_use h with ⟨hb51, h⟩ | ⟨hb51, h⟩
        · refine DE.u 4 rfl (by kernel_rfl) (Un.no 3 41 false rfl rfl rfl (congrArg Value.bool hb51)) ?_
          refine DE.u 5 rfl (by kernel_rfl) (Un.no 3 41 false rfl rfl rfl (congrArg Value.bool hb51)) ?_
          refine DE.u 6 rfl (by kernel_rfl) (Un.no 3 41 false rfl rfl rfl (congrArg Value.bool hb51)) ?_
          refine DE.t 7 (v := (Value.bool true)) rfl (by kernel_rfl) (Wn.no rfl) rfl (R.pickT (congrArg Value.bool hb51) rfl) ?_
          refine DE.t 8 (v := (Value.bool true)) rfl (by kernel_rfl) (Wn.no rfl) rfl (R.move rfl) ?_
          refine DE.u 9 rfl (by kernel_rfl) (Un.no 8 46 false rfl rfl rfl rfl) ?_
          refine DE.u 10 rfl (by kernel_rfl) (Un.no 8 46 false rfl rfl rfl rfl) ?_
          refine DE.u 11 rfl (by kernel_rfl) (Un.no 8 46 false rfl rfl rfl rfl) ?_
          refine DE.u 12 rfl (by kernel_rfl) (Un.no 8 46 false rfl rfl rfl rfl) ?_
          refine DE.u 13 rfl (by kernel_rfl) (Un.no 8 46 false rfl rfl rfl rfl) ?_
          refine DE.t 14 (v := (Value.bool true)) rfl (by kernel_rfl) (Wn.no rfl) rfl (R.pickT rfl rfl) ?_
          refine DE.done (by kernel_rfl) ?_
          exact ⟨_, h, rfl, rfl, rfl, rfl, rfl⟩
        · refine DE.t 4 (v := (Value.int .i64 r36)) rfl (by kernel_rfl) (Wn.yes 3 41 false rfl rfl rfl (congrArg Value.bool hb51)) rfl (R.move rfl) ?_
          refine DE.t 5 (v := (Value.int .i64 r46)) rfl (by kernel_rfl) (Wn.yes 3 41 false rfl rfl rfl (congrArg Value.bool hb51)) rfl (R.move rfl) ?_
          refine DE.t 6 (v := (Value.bool (r36 != r46))) rfl (by kernel_rfl) (Wn.yes 3 41 false rfl rfl rfl (congrArg Value.bool hb51)) rfl (R.neq rfl rfl) ?_
          refine DE.t 7 (v := (Value.bool (r36 != r46))) rfl (by kernel_rfl) (Wn.no rfl) rfl (R.pickF (congrArg Value.bool hb51) rfl) ?_
          refine DE.t 8 (v := (Value.bool (r36 != r46))) rfl (by kernel_rfl) (Wn.no rfl) rfl (R.move rfl) ?_
          rcases M.ite_use h with ⟨hb52, h⟩ | ⟨hb52, h⟩
          · refine DE.u 9 rfl (by kernel_rfl) (Un.no 8 46 false rfl rfl rfl (congrArg Value.bool hb52)) ?_
            refine DE.u 10 rfl (by kernel_rfl) (Un.no 8 46 false rfl rfl rfl (congrArg Value.bool hb52)) ?_
            refine DE.u 11 rfl (by kernel_rfl) (Un.no 8 46 false rfl rfl rfl (congrArg Value.bool hb52)) ?_
            refine DE.u 12 rfl (by kernel_rfl) (Un.no 8 46 false rfl rfl rfl (congrArg Value.bool hb52)) ?_
            refine DE.u 13 rfl (by kernel_rfl) (Un.no 8 46 false rfl rfl rfl (congrArg Value.bool hb52)) ?_
            refine DE.t 14 (v := (Value.bool true)) rfl (by kernel_rfl) (Wn.no rfl) rfl (R.pickT (congrArg Value.bool hb52) rfl) ?_
            refine DE.done (by kernel_rfl) ?_
            exact ⟨_, h, rfl, rfl, rfl, rfl, rfl⟩
          · obtain ⟨t53, t54, t55, t56, t57, t58, h59, h⟩ := h
            refine DE.hold 9 (fun w => Cs w b21 0 [(Value.int .u32 t53), (Value.int .i64 t54), (Value.bool t55), (Value.int .i64 t56), (Value.int .u32 t57), (Value.float .f64 t58)]) (v := (Value.agg #[(Value.int .u32 t53), (Value.int .i64 t54), (Value.bool t55), (Value.int .i64 t56), (Value.int .u32 t57), (Value.float .f64 t58)])) rfl (by kernel_rfl) (Wn.yes 8 46 false rfl rfl rfl (congrArg Value.bool hb52)) rfl h59 (fun w hs => R.ldA ag33 sz33 rfl rfl hs) ?_
            obtain ⟨t60, t61, t62, t63, t64, t65, h66, h⟩ := h
            refine DE.hold 11 (fun w => Cs w b21 0 [(Value.int .u32 t60), (Value.int .i64 t61), (Value.bool t62), (Value.int .i64 t63), (Value.int .u32 t64), (Value.float .f64 t65)]) (v := (Value.agg #[(Value.int .u32 t60), (Value.int .i64 t61), (Value.bool t62), (Value.int .i64 t63), (Value.int .u32 t64), (Value.float .f64 t65)])) rfl (by kernel_rfl) (Wn.yes 8 46 false rfl rfl rfl (congrArg Value.bool hb52)) rfl h66 (fun w hs => R.ldA ag33 sz33 rfl rfl hs) ?_
            refine DE.main 10 (by kernel_rfl) ?_
            refine One.c 10 rfl (Wn.yes 8 46 false rfl rfl rfl (congrArg Value.bool hb52)) rfl (R.call bd25 (Ls.cons rfl Ls.nil) rfl) (Calls.mono h ?_)
            rintro _ w68 ⟨r67, rfl, h⟩
            obtain ⟨k69, h⟩ := h
            refine ⟨_, rfl, ⟨fun _ => k69, aftT (by kernel_rfl), trivial⟩, ?_⟩
            refine DE.main 12 (by kernel_rfl) ?_
            refine One.c 12 rfl (Wn.yes 8 46 false rfl rfl rfl (congrArg Value.bool hb52)) rfl (R.call bd41 (Ls.cons rfl Ls.nil) rfl) (Calls.mono h ?_)
            rintro _ w71 ⟨r70, rfl, h⟩
            refine ⟨_, rfl, ⟨aftT (by kernel_rfl), aftT (by kernel_rfl), trivial⟩, ?_⟩
            refine DE.t 13 (v := (Value.bool (!(r67 == r70)))) rfl (by kernel_rfl) (Wn.yes 8 46 false rfl rfl rfl (congrArg Value.bool hb52)) rfl (R.bneq bo4 rfl rfl) ?_
            refine DE.t 14 (v := (Value.bool (!(r67 == r70)))) rfl (by kernel_rfl) (Wn.no rfl) rfl (R.pickF (congrArg Value.bool hb52) rfl) ?_
            refine DE.done (by kernel_rfl) ?_
            exact ⟨_, h, rfl, rfl, rfl, rfl, rfl⟩
      · rintro e72 w73 ⟨x49, h, f74, f75, f76, f77, f78⟩
        subst hJ48
        refine WE.condT rfl (b := x49) f78 ?_ ?_
        · intro hb79
          replace h := M.ite_t h hb79
          refine WE.seq ?_
          refine WE.reg ?_
          refine LE.p (v := (Value.bool false)) (Wn.no rfl) rfl (R.assign rfl) ?_
          refine LE.nil ?_
          refine WE.ret ?_
          exact ⟨_, (Res.tmp rfl Res.nil), _, rfl, h⟩
        · intro hb79
          replace h := M.ite_f h hb79
          refine WE.skip ?_
          exact ⟨h, f74, f75, f76, f77⟩
    · intro hb27
      replace h := M.ite_f h hb27
      refine WE.seq ?_
      refine WE.reg ?_
      refine LE.p (v := (Value.bool (t24 == (2 : Int)))) (Wn.no rfl) rfl (R.eql rfl rfl) ?_
      refine LE.p (v := (Value.bool (t24 == (2 : Int)))) (Wn.no rfl) rfl (R.assign rfl) ?_
      refine LE.nil ?_
      refine WE.condT rfl (b := (t24 == (2 : Int))) rfl ?_ ?_
      · intro hb80
        replace h := M.ite_t h hb80
        refine WE.seq ?_
        refine WE.draw mix ?_
        obtain ⟨w81, hww81, h⟩ := M.drew_use h
        rw [← hww81]
        clear hww81
        refine DE.t 0 (v := (Value.pointer p0)) rfl (by kernel_rfl) (Wn.no rfl) rfl (R.move rfl) ?_
        refine DE.t 1 (v := (Value.pointer (some b21))) rfl (by kernel_rfl) (Wn.no rfl) rfl (R.fld (off := 0) fa33_0 rfl) ?_
        refine DE.t 4 (v := (Value.pointer p1)) rfl (by kernel_rfl) (Wn.no rfl) rfl (R.move rfl) ?_
        refine DE.t 5 (v := (Value.pointer (some b21))) rfl (by kernel_rfl) (Wn.no rfl) rfl (R.fld (off := 0) fa33_0 rfl) ?_
        obtain ⟨t82, h83, h⟩ := h
        obtain ⟨t84, h85, h⟩ := h
        refine DE.hold 2 (fun w => w.cell? b21 = some (Value.int .u32 t82) ∧ w.cell? (b21.add 1) = some (Value.int .i64 t84)) (v := (Value.agg #[(Value.int .u32 t82), (Value.int .i64 t84)])) rfl (by kernel_rfl) (Wn.no rfl) rfl ⟨h83, h85⟩ (fun w hs => R.ldA ag30 sz30 rfl rfl (Cs.cons hs.1 (Cs.cons hs.2 Cs.nil))) ?_
        obtain ⟨t86, h87, h⟩ := h
        obtain ⟨t88, h89, h⟩ := h
        refine DE.hold 6 (fun w => w.cell? b21 = some (Value.int .u32 t86) ∧ w.cell? (b21.add 1) = some (Value.int .i64 t88)) (v := (Value.agg #[(Value.int .u32 t86), (Value.int .i64 t88)])) rfl (by kernel_rfl) (Wn.no rfl) rfl ⟨h87, h89⟩ (fun w hs => R.ldA ag30 sz30 rfl rfl (Cs.cons hs.1 (Cs.cons hs.2 Cs.nil))) ?_
        refine DE.main 3 (by kernel_rfl) ?_
        refine One.c 3 rfl (Wn.no rfl) rfl (R.call bd20 (Ls.cons rfl (Ls.cons rfl Ls.nil)) rfl) (Calls.mono h ?_)
        rintro _ w91 ⟨r90, rfl, h⟩
        obtain ⟨k92, h⟩ := h
        obtain ⟨k93, h⟩ := h
        refine ⟨_, rfl, ⟨fun _ => ⟨k92, k93⟩, aftT (by kernel_rfl), trivial⟩, ?_⟩
        refine DE.main 7 (by kernel_rfl) ?_
        refine One.c 7 rfl (Wn.no rfl) rfl (R.call bd42 (Ls.cons rfl (Ls.cons rfl Ls.nil)) rfl) (Calls.mono h ?_)
        rintro _ w95 ⟨r94, rfl, h⟩
        refine ⟨_, rfl, ⟨aftT (by kernel_rfl), aftT (by kernel_rfl), trivial⟩, ?_⟩
        refine DE.t 8 (v := (Value.bool (!(r90 == r94)))) rfl (by kernel_rfl) (Wn.no rfl) rfl (R.bneq bo4 rfl rfl) ?_
        refine DE.done (by kernel_rfl) ?_
        refine WE.condT rfl (b := (!(r90 == r94))) rfl ?_ ?_
        · intro hb96
          replace h := M.ite_t h hb96
          refine WE.seq ?_
          refine WE.reg ?_
          refine LE.p (v := (Value.bool false)) (Wn.no rfl) rfl (R.assign rfl) ?_
          refine LE.nil ?_
          refine WE.ret ?_
          exact ⟨_, (Res.tmp rfl Res.nil), _, rfl, h⟩
        · intro hb96
          replace h := M.ite_f h hb96
          refine WE.skip ?_
          exact ⟨h, rfl, rfl, rfl, rfl⟩
      · intro hb80
        replace h := M.ite_f h hb80
        refine WE.skip ?_
        exact ⟨h, rfl, rfl, rfl, rfl⟩
  · rintro e97 w98 ⟨h, f99, f100, f101, f102⟩
    subst hJ26
    refine WE.seq ?_
    refine WE.reg ?_
    refine LE.p (v := (Value.pointer p0)) (Wn.no rfl) rfl (R.move f99) ?_
    refine LE.p (v := (Value.pointer (some (b2.add 7)))) (Wn.no rfl) rfl (R.fld (off := 7) fa36_2 f101) ?_
    obtain ⟨t103, h104, h⟩ := h
    refine LE.r (v := (Value.int .u32 t103)) (Wn.no rfl) rfl (R.ld sc23 rfl h104) ?_
    refine LE.c (Wn.no rfl) rfl (R.call bd10 (Ls.cons rfl (Ls.cons rfl Ls.nil)) rfl) (Calls.mono h ?_)
    rintro _ w112 ⟨r105, r106, r107, r108, r109, r110, r111, rfl, h⟩
    refine ⟨_, rfl, ?_⟩
    refine LE.p (v := (Value.tuple #[(Value.agg #[(Value.int .u32 r105), (Value.int .i64 r106), (Value.bool r107), (Value.int .i64 r108), (Value.int .u32 r109), (Value.float .f64 r110)]), (Value.bool r111)])) (Wn.no rfl) rfl (R.move rfl) ?_
    refine LE.p (v := (Value.agg #[(Value.int .u32 r105), (Value.int .i64 r106), (Value.bool r107), (Value.int .i64 r108), (Value.int .u32 r109), (Value.float .f64 r110)])) (Wn.no rfl) rfl (R.ext rfl rfl) ?_
    refine LE.p (v := (Value.bool r111)) (Wn.no rfl) rfl (R.ext rfl rfl) ?_
    obtain ⟨b114, hpb114, w113, hww113, h⟩ := M.new_use h
    refine LE.r (v := (Value.pointer (some b114))) (Wn.no rfl) rfl (R.alloc (cs := #[(Value.int .u32 (0 : Int)), (Value.int .i64 (0 : Int)), (Value.bool false), (Value.int .i64 (0 : Int)), (Value.int .u32 (0 : Int)), (Value.float .f64 (0 : Nat))]) ze33 rfl hpb114 hww113) ?_
    obtain ⟨w115, hww115, h116, h⟩ := M.stA_use h
    refine LE.s (Wn.no rfl) rfl (R.stA (a := b114) [(Value.int .u32 r105), (Value.int .i64 r106), (Value.bool r107), (Value.int .i64 r108), (Value.int .u32 r109), (Value.float .f64 r110)] sz33 rfl rfl rfl (by simp [Value.oneCell']) h116 hww115) ?_
    refine LE.p (v := (Value.bool r111)) (Wn.no rfl) rfl (R.assign rfl) ?_
    refine LE.nil ?_
    refine WE.seq ?_
    refine WE.reg ?_
    refine LE.p (v := (Value.pointer p1)) (Wn.no rfl) rfl (R.move f100) ?_
    refine LE.p (v := (Value.pointer (some (b2.add 7)))) (Wn.no rfl) rfl (R.fld (off := 7) fa36_2 f101) ?_
    obtain ⟨t117, h118, h⟩ := h
    refine LE.r (v := (Value.int .u32 t117)) (Wn.no rfl) rfl (R.ld sc23 rfl h118) ?_
    refine LE.c (Wn.no rfl) rfl (R.call bd43 (Ls.cons rfl (Ls.cons rfl Ls.nil)) rfl) (Calls.mono h ?_)
    rintro _ w126 ⟨r119, r120, r121, r122, r123, r124, r125, rfl, h⟩
    refine ⟨_, rfl, ?_⟩
    refine LE.p (v := (Value.tuple #[(Value.agg #[(Value.int .u32 r119), (Value.int .i64 r120), (Value.bool r121), (Value.int .i64 r122), (Value.int .u32 r123), (Value.float .f64 r124)]), (Value.bool r125)])) (Wn.no rfl) rfl (R.move rfl) ?_
    refine LE.p (v := (Value.agg #[(Value.int .u32 r119), (Value.int .i64 r120), (Value.bool r121), (Value.int .i64 r122), (Value.int .u32 r123), (Value.float .f64 r124)])) (Wn.no rfl) rfl (R.ext rfl rfl) ?_
    refine LE.p (v := (Value.bool r125)) (Wn.no rfl) rfl (R.ext rfl rfl) ?_
    obtain ⟨b128, hpb128, w127, hww127, h⟩ := M.new_use h
    refine LE.r (v := (Value.pointer (some b128))) (Wn.no rfl) rfl (R.alloc (cs := #[(Value.int .u32 (0 : Int)), (Value.int .i64 (0 : Int)), (Value.bool false), (Value.int .i64 (0 : Int)), (Value.int .u32 (0 : Int)), (Value.float .f64 (0 : Nat))]) ze33 rfl hpb128 hww127) ?_
    obtain ⟨w129, hww129, h130, h⟩ := M.stA_use h
    refine LE.s (Wn.no rfl) rfl (R.stA (a := b128) [(Value.int .u32 r119), (Value.int .i64 r120), (Value.bool r121), (Value.int .i64 r122), (Value.int .u32 r123), (Value.float .f64 r124)] sz33 rfl rfl rfl (by simp [Value.oneCell']) h130 hww129) ?_
    refine LE.p (v := (Value.bool r125)) (Wn.no rfl) rfl (R.assign rfl) ?_
    refine LE.nil ?_
    refine WE.seq ?_
    refine WE.reg ?_
    refine LE.p (v := (Value.pointer p0)) (Wn.no rfl) rfl (R.move f99) ?_
    refine LE.p (v := (Value.pointer (some b21))) (Wn.no rfl) rfl (R.fld (off := 0) fa33_0 f102) ?_
    obtain ⟨t131, h132, h⟩ := h
    obtain ⟨t133, h134, h⟩ := h
    refine LE.r (v := (Value.agg #[(Value.int .u32 t131), (Value.int .i64 t133)])) (Wn.no rfl) rfl (R.ldA ag30 sz30 rfl rfl (Cs.cons h132 (Cs.cons h134 Cs.nil))) ?_
    refine LE.c (Wn.no rfl) rfl (R.call bd21 (Ls.cons rfl (Ls.cons rfl Ls.nil)) rfl) (Calls.mono h ?_)
    rintro _ w142 ⟨r135, r136, r137, r138, r139, r140, r141, rfl, h⟩
    refine ⟨_, rfl, ?_⟩
    refine LE.p (v := (Value.tuple #[(Value.agg #[(Value.int .u32 r135), (Value.int .i64 r136), (Value.bool r137), (Value.int .i64 r138), (Value.int .u32 r139), (Value.float .f64 r140)]), (Value.bool r141)])) (Wn.no rfl) rfl (R.move rfl) ?_
    refine LE.p (v := (Value.agg #[(Value.int .u32 r135), (Value.int .i64 r136), (Value.bool r137), (Value.int .i64 r138), (Value.int .u32 r139), (Value.float .f64 r140)])) (Wn.no rfl) rfl (R.ext rfl rfl) ?_
    refine LE.p (v := (Value.bool r141)) (Wn.no rfl) rfl (R.ext rfl rfl) ?_
    obtain ⟨b144, hpb144, w143, hww143, h⟩ := M.new_use h
    refine LE.r (v := (Value.pointer (some b144))) (Wn.no rfl) rfl (R.alloc (cs := #[(Value.int .u32 (0 : Int)), (Value.int .i64 (0 : Int)), (Value.bool false), (Value.int .i64 (0 : Int)), (Value.int .u32 (0 : Int)), (Value.float .f64 (0 : Nat))]) ze33 rfl hpb144 hww143) ?_
    obtain ⟨w145, hww145, h146, h⟩ := M.stA_use h
    refine LE.s (Wn.no rfl) rfl (R.stA (a := b144) [(Value.int .u32 r135), (Value.int .i64 r136), (Value.bool r137), (Value.int .i64 r138), (Value.int .u32 r139), (Value.float .f64 r140)] sz33 rfl rfl rfl (by simp [Value.oneCell']) h146 hww145) ?_
    refine LE.p (v := (Value.bool r141)) (Wn.no rfl) rfl (R.assign rfl) ?_
    refine LE.nil ?_
    refine WE.seq ?_
    refine WE.reg ?_
    refine LE.p (v := (Value.pointer p1)) (Wn.no rfl) rfl (R.move f100) ?_
    refine LE.p (v := (Value.pointer (some b21))) (Wn.no rfl) rfl (R.fld (off := 0) fa33_0 f102) ?_
    obtain ⟨t147, h148, h⟩ := h
    obtain ⟨t149, h150, h⟩ := h
    refine LE.r (v := (Value.agg #[(Value.int .u32 t147), (Value.int .i64 t149)])) (Wn.no rfl) rfl (R.ldA ag30 sz30 rfl rfl (Cs.cons h148 (Cs.cons h150 Cs.nil))) ?_
    refine LE.c (Wn.no rfl) rfl (R.call bd44 (Ls.cons rfl (Ls.cons rfl Ls.nil)) rfl) (Calls.mono h ?_)
    rintro _ w158 ⟨r151, r152, r153, r154, r155, r156, r157, rfl, h⟩
    refine ⟨_, rfl, ?_⟩
    refine LE.p (v := (Value.tuple #[(Value.agg #[(Value.int .u32 r151), (Value.int .i64 r152), (Value.bool r153), (Value.int .i64 r154), (Value.int .u32 r155), (Value.float .f64 r156)]), (Value.bool r157)])) (Wn.no rfl) rfl (R.move rfl) ?_
    refine LE.p (v := (Value.agg #[(Value.int .u32 r151), (Value.int .i64 r152), (Value.bool r153), (Value.int .i64 r154), (Value.int .u32 r155), (Value.float .f64 r156)])) (Wn.no rfl) rfl (R.ext rfl rfl) ?_
    refine LE.p (v := (Value.bool r157)) (Wn.no rfl) rfl (R.ext rfl rfl) ?_
    obtain ⟨b160, hpb160, w159, hww159, h⟩ := M.new_use h
    refine LE.r (v := (Value.pointer (some b160))) (Wn.no rfl) rfl (R.alloc (cs := #[(Value.int .u32 (0 : Int)), (Value.int .i64 (0 : Int)), (Value.bool false), (Value.int .i64 (0 : Int)), (Value.int .u32 (0 : Int)), (Value.float .f64 (0 : Nat))]) ze33 rfl hpb160 hww159) ?_
    obtain ⟨w161, hww161, h162, h⟩ := M.stA_use h
    refine LE.s (Wn.no rfl) rfl (R.stA (a := b160) [(Value.int .u32 r151), (Value.int .i64 r152), (Value.bool r153), (Value.int .i64 r154), (Value.int .u32 r155), (Value.float .f64 r156)] sz33 rfl rfl rfl (by simp [Value.oneCell']) h162 hww161) ?_
    refine LE.p (v := (Value.bool r157)) (Wn.no rfl) rfl (R.assign rfl) ?_
    refine LE.nil ?_
    refine WE.seq ?_
    obtain ⟨J163, hJ163, h⟩ := M.join_use h
    refine WE.drawJ (fun e w => ∃ (x164 : Bool), J163 x164 w ∧ e 6 = (Value.bool x164)) mix ?_ ?_
    · clear hJ163
      obtain ⟨w165, hww165, h⟩ := M.drew_use h
      rw [← hww165]
      clear hww165
      obtain ⟨t166, t167, t168, t169, t170, t171, h172, h⟩ := h
      refine DE.hold 0 (fun w => Cs w b114 0 [(Value.int .u32 t166), (Value.int .i64 t167), (Value.bool t168), (Value.int .i64 t169), (Value.int .u32 t170), (Value.float .f64 t171)]) (v := (Value.agg #[(Value.int .u32 t166), (Value.int .i64 t167), (Value.bool t168), (Value.int .i64 t169), (Value.int .u32 t170), (Value.float .f64 t171)])) rfl (by kernel_rfl) (Wn.no rfl) rfl h172 (fun w hs => R.ldA ag33 sz33 rfl rfl hs) ?_
      obtain ⟨t173, t174, t175, t176, t177, t178, h179, h⟩ := h
      refine DE.main 1 (by kernel_rfl) ?_
      refine One.r 1 (v := (Value.agg #[(Value.int .u32 t173), (Value.int .i64 t174), (Value.bool t175), (Value.int .i64 t176), (Value.int .u32 t177), (Value.float .f64 t178)])) rfl (Wn.no rfl) rfl (R.ldA ag33 sz33 rfl rfl h179) (.inl rfl) ?_
      refine DE.main 2 (by kernel_rfl) ?_
      refine One.c 2 rfl (Wn.no rfl) rfl (R.call bd15 (Ls.cons rfl (Ls.cons rfl Ls.nil)) rfl) (Calls.mono h ?_)
      rintro _ w181 ⟨r180, rfl, h⟩
      refine ⟨_, rfl, ⟨aftT (by kernel_rfl), trivial⟩, ?_⟩
      refine DE.t 3 (v := (Value.bool r180)) rfl (by kernel_rfl) (Wn.no rfl) rfl (R.move rfl) ?_
      rcases M.ite_use h with ⟨hb182, h⟩ | ⟨hb182, h⟩
      · refine DE.t 4 (v := (Value.bool r111)) rfl (by kernel_rfl) (Wn.yes 3 95 true rfl rfl rfl (congrArg Value.bool hb182)) rfl (R.move rfl) ?_
        refine DE.t 5 (v := (Value.bool r125)) rfl (by kernel_rfl) (Wn.yes 3 95 true rfl rfl rfl (congrArg Value.bool hb182)) rfl (R.move rfl) ?_
        refine DE.t 6 (v := (Value.bool (r111 == r125))) rfl (by kernel_rfl) (Wn.yes 3 95 true rfl rfl rfl (congrArg Value.bool hb182)) rfl (R.beql bo4 rfl rfl) ?_
        refine DE.t 7 (v := (Value.bool (r111 == r125))) rfl (by kernel_rfl) (Wn.no rfl) rfl (R.pickT (congrArg Value.bool hb182) rfl) ?_
        refine DE.t 8 (v := (Value.bool (r111 == r125))) rfl (by kernel_rfl) (Wn.no rfl) rfl (R.move rfl) ?_
        rcases M.ite_use h with ⟨hb183, h⟩ | ⟨hb183, h⟩
        · obtain ⟨t184, t185, t186, t187, t188, t189, h190, h⟩ := h
          refine DE.hold 9 (fun w => Cs w b144 0 [(Value.int .u32 t184), (Value.int .i64 t185), (Value.bool t186), (Value.int .i64 t187), (Value.int .u32 t188), (Value.float .f64 t189)]) (v := (Value.agg #[(Value.int .u32 t184), (Value.int .i64 t185), (Value.bool t186), (Value.int .i64 t187), (Value.int .u32 t188), (Value.float .f64 t189)])) rfl (by kernel_rfl) (Wn.yes 8 100 true rfl rfl rfl (congrArg Value.bool hb183)) rfl h190 (fun w hs => R.ldA ag33 sz33 rfl rfl hs) ?_
          obtain ⟨t191, t192, t193, t194, t195, t196, h197, h⟩ := h
          refine DE.main 10 (by kernel_rfl) ?_
          refine One.r 10 (v := (Value.agg #[(Value.int .u32 t191), (Value.int .i64 t192), (Value.bool t193), (Value.int .i64 t194), (Value.int .u32 t195), (Value.float .f64 t196)])) rfl (Wn.yes 8 100 true rfl rfl rfl (congrArg Value.bool hb183)) rfl (R.ldA ag33 sz33 rfl rfl h197) (.inl rfl) ?_
          refine DE.main 11 (by kernel_rfl) ?_
          refine One.c 11 rfl (Wn.yes 8 100 true rfl rfl rfl (congrArg Value.bool hb183)) rfl (R.call bd15 (Ls.cons rfl (Ls.cons rfl Ls.nil)) rfl) (Calls.mono h ?_)
          rintro _ w199 ⟨r198, rfl, h⟩
          refine ⟨_, rfl, ⟨aftT (by kernel_rfl), aftT (by kernel_rfl), trivial⟩, ?_⟩
          refine DE.t 12 (v := (Value.bool r198)) rfl (by kernel_rfl) (Wn.no rfl) rfl (R.pickT (congrArg Value.bool hb183) rfl) ?_
          refine DE.t 13 (v := (Value.bool r198)) rfl (by kernel_rfl) (Wn.no rfl) rfl (R.move rfl) ?_
          rcases M.ite_use h with ⟨hb200, h⟩ | ⟨hb200, h⟩
          · refine DE.t 14 (v := (Value.bool r141)) rfl (by kernel_rfl) (Wn.yes 13 105 true rfl rfl rfl (congrArg Value.bool hb200)) rfl (R.move rfl) ?_
            refine DE.t 15 (v := (Value.bool r157)) rfl (by kernel_rfl) (Wn.yes 13 105 true rfl rfl rfl (congrArg Value.bool hb200)) rfl (R.move rfl) ?_
            refine DE.t 16 (v := (Value.bool (r141 == r157))) rfl (by kernel_rfl) (Wn.yes 13 105 true rfl rfl rfl (congrArg Value.bool hb200)) rfl (R.beql bo4 rfl rfl) ?_
            refine DE.t 17 (v := (Value.bool (r141 == r157))) rfl (by kernel_rfl) (Wn.no rfl) rfl (R.pickT (congrArg Value.bool hb200) rfl) ?_
            refine DE.t 18 (v := (Value.bool (r141 == r157))) rfl (by kernel_rfl) (Wn.no rfl) rfl (R.move rfl) ?_
            rcases M.ite_use h with ⟨hb201, h⟩ | ⟨hb201, h⟩
            · obtain ⟨t202, t203, t204, t205, t206, t207, h208, h⟩ := h
              refine DE.hold 19 (fun w => Cs w b21 0 [(Value.int .u32 t202), (Value.int .i64 t203), (Value.bool t204), (Value.int .i64 t205), (Value.int .u32 t206), (Value.float .f64 t207)]) (v := (Value.agg #[(Value.int .u32 t202), (Value.int .i64 t203), (Value.bool t204), (Value.int .i64 t205), (Value.int .u32 t206), (Value.float .f64 t207)])) rfl (by kernel_rfl) (Wn.yes 18 110 true rfl rfl rfl (congrArg Value.bool hb201)) rfl h208 (fun w hs => R.ldA ag33 sz33 f102 rfl hs) ?_
              obtain ⟨t209, t210, t211, t212, t213, t214, h215, h⟩ := h
              refine DE.hold 20 (fun w => Cs w b144 0 [(Value.int .u32 t209), (Value.int .i64 t210), (Value.bool t211), (Value.int .i64 t212), (Value.int .u32 t213), (Value.float .f64 t214)]) (v := (Value.agg #[(Value.int .u32 t209), (Value.int .i64 t210), (Value.bool t211), (Value.int .i64 t212), (Value.int .u32 t213), (Value.float .f64 t214)])) rfl (by kernel_rfl) (Wn.yes 18 110 true rfl rfl rfl (congrArg Value.bool hb201)) rfl h215 (fun w hs => R.ldA ag33 sz33 rfl rfl hs) ?_
              obtain ⟨t216, t217, t218, t219, t220, t221, h222, h⟩ := h
              refine DE.hold 22 (fun w => Cs w b21 0 [(Value.int .u32 t216), (Value.int .i64 t217), (Value.bool t218), (Value.int .i64 t219), (Value.int .u32 t220), (Value.float .f64 t221)]) (v := (Value.agg #[(Value.int .u32 t216), (Value.int .i64 t217), (Value.bool t218), (Value.int .i64 t219), (Value.int .u32 t220), (Value.float .f64 t221)])) rfl (by kernel_rfl) (Wn.yes 18 110 true rfl rfl rfl (congrArg Value.bool hb201)) rfl h222 (fun w hs => R.ldA ag33 sz33 f102 rfl hs) ?_
              obtain ⟨t223, t224, t225, t226, t227, t228, h229, h⟩ := h
              refine DE.hold 23 (fun w => Cs w b160 0 [(Value.int .u32 t223), (Value.int .i64 t224), (Value.bool t225), (Value.int .i64 t226), (Value.int .u32 t227), (Value.float .f64 t228)]) (v := (Value.agg #[(Value.int .u32 t223), (Value.int .i64 t224), (Value.bool t225), (Value.int .i64 t226), (Value.int .u32 t227), (Value.float .f64 t228)])) rfl (by kernel_rfl) (Wn.yes 18 110 true rfl rfl rfl (congrArg Value.bool hb201)) rfl h229 (fun w hs => R.ldA ag33 sz33 rfl rfl hs) ?_
              refine DE.main 21 (by kernel_rfl) ?_
              refine One.c 21 rfl (Wn.yes 18 110 true rfl rfl rfl (congrArg Value.bool hb201)) rfl (R.call bd29 (Ls.cons rfl (Ls.cons rfl Ls.nil)) rfl) (Calls.mono h ?_)
              rintro _ w231 ⟨r230, rfl, h⟩
              obtain ⟨k232, h⟩ := h
              obtain ⟨k233, h⟩ := h
              refine ⟨_, rfl, ⟨fun _ => k232, fun _ => k233, aftT (by kernel_rfl), aftT (by kernel_rfl), aftT (by kernel_rfl), aftT (by kernel_rfl), trivial⟩, ?_⟩
              refine DE.main 24 (by kernel_rfl) ?_
              refine One.c 24 rfl (Wn.yes 18 110 true rfl rfl rfl (congrArg Value.bool hb201)) rfl (R.call bd45 (Ls.cons rfl (Ls.cons rfl Ls.nil)) rfl) (Calls.mono h ?_)
              rintro _ w235 ⟨r234, rfl, h⟩
              refine ⟨_, rfl, ⟨aftT (by kernel_rfl), aftT (by kernel_rfl), aftT (by kernel_rfl), aftT (by kernel_rfl), aftT (by kernel_rfl), aftT (by kernel_rfl), trivial⟩, ?_⟩
              refine DE.t 25 (v := (Value.bool (r230 == r234))) rfl (by kernel_rfl) (Wn.yes 18 110 true rfl rfl rfl (congrArg Value.bool hb201)) rfl (R.beql bo4 rfl rfl) ?_
              refine DE.t 26 (v := (Value.bool (r230 == r234))) rfl (by kernel_rfl) (Wn.no rfl) rfl (R.pickT (congrArg Value.bool hb201) rfl) ?_
              refine DE.t 27 (v := (Value.bool (r230 == r234))) rfl (by kernel_rfl) (Wn.no rfl) rfl (R.assign rfl) ?_
              refine DE.done (by kernel_rfl) ?_
              exact ⟨_, h, rfl⟩
            · refine DE.u 19 rfl (by kernel_rfl) (Un.no 18 110 true rfl rfl rfl (congrArg Value.bool hb201)) ?_
              refine DE.u 20 rfl (by kernel_rfl) (Un.no 18 110 true rfl rfl rfl (congrArg Value.bool hb201)) ?_
              refine DE.u 21 rfl (by kernel_rfl) (Un.no 18 110 true rfl rfl rfl (congrArg Value.bool hb201)) ?_
              refine DE.u 22 rfl (by kernel_rfl) (Un.no 18 110 true rfl rfl rfl (congrArg Value.bool hb201)) ?_
              refine DE.u 23 rfl (by kernel_rfl) (Un.no 18 110 true rfl rfl rfl (congrArg Value.bool hb201)) ?_
              refine DE.u 24 rfl (by kernel_rfl) (Un.no 18 110 true rfl rfl rfl (congrArg Value.bool hb201)) ?_
              refine DE.u 25 rfl (by kernel_rfl) (Un.no 18 110 true rfl rfl rfl (congrArg Value.bool hb201)) ?_
              refine DE.t 26 (v := (Value.bool false)) rfl (by kernel_rfl) (Wn.no rfl) rfl (R.pickF (congrArg Value.bool hb201) rfl) ?_
              refine DE.t 27 (v := (Value.bool false)) rfl (by kernel_rfl) (Wn.no rfl) rfl (R.assign rfl) ?_
              refine DE.done (by kernel_rfl) ?_
              exact ⟨_, h, rfl⟩
          · refine DE.u 14 rfl (by kernel_rfl) (Un.no 13 105 true rfl rfl rfl (congrArg Value.bool hb200)) ?_
            refine DE.u 15 rfl (by kernel_rfl) (Un.no 13 105 true rfl rfl rfl (congrArg Value.bool hb200)) ?_
            refine DE.u 16 rfl (by kernel_rfl) (Un.no 13 105 true rfl rfl rfl (congrArg Value.bool hb200)) ?_
            refine DE.t 17 (v := (Value.bool false)) rfl (by kernel_rfl) (Wn.no rfl) rfl (R.pickF (congrArg Value.bool hb200) rfl) ?_
            refine DE.t 18 (v := (Value.bool false)) rfl (by kernel_rfl) (Wn.no rfl) rfl (R.move rfl) ?_
            refine DE.u 19 rfl (by kernel_rfl) (Un.no 18 110 true rfl rfl rfl rfl) ?_
            refine DE.u 20 rfl (by kernel_rfl) (Un.no 18 110 true rfl rfl rfl rfl) ?_
            refine DE.u 21 rfl (by kernel_rfl) (Un.no 18 110 true rfl rfl rfl rfl) ?_
            refine DE.u 22 rfl (by kernel_rfl) (Un.no 18 110 true rfl rfl rfl rfl) ?_
            refine DE.u 23 rfl (by kernel_rfl) (Un.no 18 110 true rfl rfl rfl rfl) ?_
            refine DE.u 24 rfl (by kernel_rfl) (Un.no 18 110 true rfl rfl rfl rfl) ?_
            refine DE.u 25 rfl (by kernel_rfl) (Un.no 18 110 true rfl rfl rfl rfl) ?_
            refine DE.t 26 (v := (Value.bool false)) rfl (by kernel_rfl) (Wn.no rfl) rfl (R.pickF rfl rfl) ?_
            refine DE.t 27 (v := (Value.bool false)) rfl (by kernel_rfl) (Wn.no rfl) rfl (R.assign rfl) ?_
            refine DE.done (by kernel_rfl) ?_
            exact ⟨_, h, rfl⟩
        · refine DE.u 9 rfl (by kernel_rfl) (Un.no 8 100 true rfl rfl rfl (congrArg Value.bool hb183)) ?_
          refine DE.u 10 rfl (by kernel_rfl) (Un.no 8 100 true rfl rfl rfl (congrArg Value.bool hb183)) ?_
          refine DE.u 11 rfl (by kernel_rfl) (Un.no 8 100 true rfl rfl rfl (congrArg Value.bool hb183)) ?_
          refine DE.t 12 (v := (Value.bool false)) rfl (by kernel_rfl) (Wn.no rfl) rfl (R.pickF (congrArg Value.bool hb183) rfl) ?_
          refine DE.t 13 (v := (Value.bool false)) rfl (by kernel_rfl) (Wn.no rfl) rfl (R.move rfl) ?_
          refine DE.u 14 rfl (by kernel_rfl) (Un.no 13 105 true rfl rfl rfl rfl) ?_
          refine DE.u 15 rfl (by kernel_rfl) (Un.no 13 105 true rfl rfl rfl rfl) ?_
          refine DE.u 16 rfl (by kernel_rfl) (Un.no 13 105 true rfl rfl rfl rfl) ?_
          refine DE.t 17 (v := (Value.bool false)) rfl (by kernel_rfl) (Wn.no rfl) rfl (R.pickF rfl rfl) ?_
          refine DE.t 18 (v := (Value.bool false)) rfl (by kernel_rfl) (Wn.no rfl) rfl (R.move rfl) ?_
          refine DE.u 19 rfl (by kernel_rfl) (Un.no 18 110 true rfl rfl rfl rfl) ?_
          refine DE.u 20 rfl (by kernel_rfl) (Un.no 18 110 true rfl rfl rfl rfl) ?_
          refine DE.u 21 rfl (by kernel_rfl) (Un.no 18 110 true rfl rfl rfl rfl) ?_
          refine DE.u 22 rfl (by kernel_rfl) (Un.no 18 110 true rfl rfl rfl rfl) ?_
          refine DE.u 23 rfl (by kernel_rfl) (Un.no 18 110 true rfl rfl rfl rfl) ?_
          refine DE.u 24 rfl (by kernel_rfl) (Un.no 18 110 true rfl rfl rfl rfl) ?_
          refine DE.u 25 rfl (by kernel_rfl) (Un.no 18 110 true rfl rfl rfl rfl) ?_
          refine DE.t 26 (v := (Value.bool false)) rfl (by kernel_rfl) (Wn.no rfl) rfl (R.pickF rfl rfl) ?_
          refine DE.t 27 (v := (Value.bool false)) rfl (by kernel_rfl) (Wn.no rfl) rfl (R.assign rfl) ?_
          refine DE.done (by kernel_rfl) ?_
          exact ⟨_, h, rfl⟩
      · refine DE.u 4 rfl (by kernel_rfl) (Un.no 3 95 true rfl rfl rfl (congrArg Value.bool hb182)) ?_
        refine DE.u 5 rfl (by kernel_rfl) (Un.no 3 95 true rfl rfl rfl (congrArg Value.bool hb182)) ?_
        refine DE.u 6 rfl (by kernel_rfl) (Un.no 3 95 true rfl rfl rfl (congrArg Value.bool hb182)) ?_
        refine DE.t 7 (v := (Value.bool false)) rfl (by kernel_rfl) (Wn.no rfl) rfl (R.pickF (congrArg Value.bool hb182) rfl) ?_
        refine DE.t 8 (v := (Value.bool false)) rfl (by kernel_rfl) (Wn.no rfl) rfl (R.move rfl) ?_
        refine DE.u 9 rfl (by kernel_rfl) (Un.no 8 100 true rfl rfl rfl rfl) ?_
        refine DE.u 10 rfl (by kernel_rfl) (Un.no 8 100 true rfl rfl rfl rfl) ?_
        refine DE.u 11 rfl (by kernel_rfl) (Un.no 8 100 true rfl rfl rfl rfl) ?_
        refine DE.t 12 (v := (Value.bool false)) rfl (by kernel_rfl) (Wn.no rfl) rfl (R.pickF rfl rfl) ?_
        refine DE.t 13 (v := (Value.bool false)) rfl (by kernel_rfl) (Wn.no rfl) rfl (R.move rfl) ?_
        refine DE.u 14 rfl (by kernel_rfl) (Un.no 13 105 true rfl rfl rfl rfl) ?_
        refine DE.u 15 rfl (by kernel_rfl) (Un.no 13 105 true rfl rfl rfl rfl) ?_
        refine DE.u 16 rfl (by kernel_rfl) (Un.no 13 105 true rfl rfl rfl rfl) ?_
        refine DE.t 17 (v := (Value.bool false)) rfl (by kernel_rfl) (Wn.no rfl) rfl (R.pickF rfl rfl) ?_
        refine DE.t 18 (v := (Value.bool false)) rfl (by kernel_rfl) (Wn.no rfl) rfl (R.move rfl) ?_
        refine DE.u 19 rfl (by kernel_rfl) (Un.no 18 110 true rfl rfl rfl rfl) ?_
        refine DE.u 20 rfl (by kernel_rfl) (Un.no 18 110 true rfl rfl rfl rfl) ?_
        refine DE.u 21 rfl (by kernel_rfl) (Un.no 18 110 true rfl rfl rfl rfl) ?_
        refine DE.u 22 rfl (by kernel_rfl) (Un.no 18 110 true rfl rfl rfl rfl) ?_
        refine DE.u 23 rfl (by kernel_rfl) (Un.no 18 110 true rfl rfl rfl rfl) ?_
        refine DE.u 24 rfl (by kernel_rfl) (Un.no 18 110 true rfl rfl rfl rfl) ?_
        refine DE.u 25 rfl (by kernel_rfl) (Un.no 18 110 true rfl rfl rfl rfl) ?_
        refine DE.t 26 (v := (Value.bool false)) rfl (by kernel_rfl) (Wn.no rfl) rfl (R.pickF rfl rfl) ?_
        refine DE.t 27 (v := (Value.bool false)) rfl (by kernel_rfl) (Wn.no rfl) rfl (R.assign rfl) ?_
        refine DE.done (by kernel_rfl) ?_
        exact ⟨_, h, rfl⟩
    · rintro e236 w237 ⟨x164, h, f238⟩
      subst hJ163
      refine WE.ret ?_
      exact ⟨_, (Res.tmp f238 Res.nil), _, rfl, h⟩
/-- The formula of signpost.signpostlaw15.alike. -/
def F18 (p0 : Option Addr) (p1 : Option Addr) (K : Bool → World → Prop) (w0 : World) : Prop :=
Calls Try.prog 11 #[(Value.pointer p0)] w0 (R11 fun r1 w2 =>
M.nil p1 fun a3 =>
M.ld SV.v a3 w2 fun t5 =>
M.ite ((r1.len : Int) != (t5.len : Int)) (
K false w2) (
M.loop1 (fun (J9 : Int → World → Prop) (x8 : Int) (w10 : World) => 
M.ite (decide (x8 < (r1.len : Int))) (
M.drew w10 fun w21 => 
M.idx r1 x8 6 fun a22 =>
M.nil p1 fun a26 =>
∃ (t28 : Int) (t29 : Int) (t30 : Bool) (t31 : Int) (t32 : Int) (t33 : Nat), Cs w21 (a22.add (x8.toNat * 6)) 0 [(Value.int .u32 t28), (Value.int .i64 t29), (Value.bool t30), (Value.int .i64 t31), (Value.int .u32 t32), (Value.float .f64 t33)] ∧
M.ld SV.v a26 w21 fun t35 =>
M.idx t35 x8 6 fun a37 =>
∃ (t41 : Int) (t42 : Int) (t43 : Bool) (t44 : Int) (t45 : Int) (t46 : Nat), Cs w21 (a37.add (x8.toNat * 6)) 0 [(Value.int .u32 t41), (Value.int .i64 t42), (Value.bool t43), (Value.int .i64 t44), (Value.int .u32 t45), (Value.float .f64 t46)] ∧
Calls Try.prog 15 #[(Value.agg #[(Value.int .u32 t28), (Value.int .i64 t29), (Value.bool t30), (Value.int .i64 t31), (Value.int .u32 t32), (Value.float .f64 t33)]), (Value.agg #[(Value.int .u32 t41), (Value.int .i64 t42), (Value.bool t43), (Value.int .i64 t44), (Value.int .u32 t45), (Value.float .f64 t46)])] w21 (R15 fun r48 w49 =>
M.ite (!r48) (
K false w49) (
J9 (IntKind.i64.wrap (x8 + (1 : Int))) w49))) (
K true w10)) (0 : Int) w2))
theorem F18_ok {w0 : World} {p0 : Option Addr} {p1 : Option Addr} {K : Bool → World → Prop} (h : F18 p0 p1 K w0) : Calls Try.prog 18 #[(Value.pointer p0), (Value.pointer p1)] w0 (R18 K) := by
  refine calls_of_WE (args := [(Value.pointer p0), (Value.pointer p1)]) (rs := [.tmp 4]) Try.func18 rfl (N := 36) rfl rfl rfl rfl ?_
  refine WE.seq ?_
  refine WE.reg ?_
  refine LE.p (v := (Value.bool false)) (Wn.no rfl) rfl (R.assign rfl) ?_
  refine LE.nil ?_
  refine WE.seq ?_
  refine WE.reg ?_
  refine LE.p (v := (Value.pointer p0)) (Wn.no rfl) rfl (R.move rfl) ?_
  refine LE.c (Wn.no rfl) rfl (R.call bd11 (Ls.cons rfl Ls.nil) rfl) (Calls.mono h ?_)
  rintro _ w2 ⟨r1, rfl, h⟩
  refine ⟨_, rfl, ?_⟩
  refine LE.p (v := (SV.v r1)) (Wn.no rfl) rfl (R.assign rfl) ?_
  refine LE.nil ?_
  refine WE.seq ?_
  refine WE.seq ?_
  refine WE.reg ?_
  refine LE.p (v := (SV.v r1)) (Wn.no rfl) rfl (R.move rfl) ?_
  refine LE.p (v := (Value.int .i64 (r1.len : Int))) (Wn.no rfl) rfl (R.len sl39 rfl) ?_
  refine LE.p (v := (Value.pointer p1)) (Wn.no rfl) rfl (R.move rfl) ?_
  obtain ⟨a3, h4, h⟩ := h
  refine LE.p (v := (Value.pointer (some a3))) (Wn.no rfl) rfl (R.nilC (congrArg Value.pointer h4)) ?_
  refine LE.p (v := (Value.pointer (some a3))) (Wn.no rfl) rfl (R.fld (off := 0) fa49_0 rfl) ?_
  obtain ⟨t5, h6, h⟩ := h
  refine LE.r (v := (SV.v t5)) (Wn.no rfl) rfl (R.ld sc39 rfl h6) ?_
  refine LE.p (v := (Value.int .i64 (t5.len : Int))) (Wn.no rfl) rfl (R.len sl39 rfl) ?_
  refine LE.p (v := (Value.bool ((r1.len : Int) != (t5.len : Int)))) (Wn.no rfl) rfl (R.neq rfl rfl) ?_
  refine LE.nil ?_
  refine WE.condT rfl (b := ((r1.len : Int) != (t5.len : Int))) rfl ?_ ?_
  · intro hb7
    replace h := M.ite_t h hb7
    refine WE.seq ?_
    refine WE.reg ?_
    refine LE.p (v := (Value.bool false)) (Wn.no rfl) rfl (R.assign rfl) ?_
    refine LE.nil ?_
    refine WE.ret ?_
    exact ⟨_, (Res.tmp rfl Res.nil), _, rfl, h⟩
  · intro hb7
    replace h := M.ite_f h hb7
    refine WE.skip ?_
    refine WE.seq ?_
    refine WE.seq ?_
    refine WE.reg ?_
    refine LE.p (v := (Value.int .i64 (0 : Int))) (Wn.no rfl) rfl (R.assign rfl) ?_
    refine LE.nil ?_
    refine WE.block ?_
    obtain ⟨I13, ⟨n12, h⟩, hr14⟩ := h
    refine WE.loop (fun n e w => ∃ (x8 : Int), I13 n x8 w ∧ e 1 = (Value.pointer p1) ∧ e 5 = (SV.v r1) ∧ e 6 = (Value.int .i64 x8)) n12 ⟨_, h, rfl, rfl, rfl⟩ ?_
    clear h
    rintro n12 e11 w10 ⟨x8, h, f17, f18, f19⟩
    replace h := hr14 n12 x8 w10 h
    refine WE.seq ?_
    refine WE.seq ?_
    refine WE.reg ?_
    refine LE.p (v := (Value.int .i64 x8)) (Wn.no rfl) rfl (R.move f19) ?_
    refine LE.p (v := (SV.v r1)) (Wn.no rfl) rfl (R.move f18) ?_
    refine LE.p (v := (Value.int .i64 (r1.len : Int))) (Wn.no rfl) rfl (R.len sl39 rfl) ?_
    refine LE.p (v := (Value.bool (decide (x8 < (r1.len : Int))))) (Wn.no rfl) rfl (R.lss rfl rfl) ?_
    refine LE.nil ?_
    refine WE.condT rfl (b := (decide (x8 < (r1.len : Int)))) rfl ?_ ?_
    · intro hb20
      replace h := M.ite_t h hb20
      refine WE.skip ?_
      refine WE.seq ?_
      refine WE.block ?_
      refine WE.seq ?_
      refine WE.draw mix ?_
      obtain ⟨w21, hww21, h⟩ := M.drew_use h
      rw [← hww21]
      clear hww21
      refine DE.t 0 (v := (SV.v r1)) rfl (by kernel_rfl) (Wn.no rfl) rfl (R.move f18) ?_
      refine DE.t 1 (v := (Value.int .i64 x8)) rfl (by kernel_rfl) (Wn.no rfl) rfl (R.move f19) ?_
      obtain ⟨a22, h23, h24, h25, h⟩ := h
      refine DE.t 2 (v := (Value.pointer (some (a22.add (x8.toNat * 6))))) rfl (by kernel_rfl) (Wn.no rfl) rfl (R.idx (s := r1) sl39 rfl rfl h23 h24 h25) ?_
      refine DE.t 4 (v := (Value.pointer p1)) rfl (by kernel_rfl) (Wn.no rfl) rfl (R.move f17) ?_
      obtain ⟨a26, h27, h⟩ := h
      refine DE.t 5 (v := (Value.pointer (some a26))) rfl (by kernel_rfl) (Wn.no rfl) rfl (R.nilC (congrArg Value.pointer h27)) ?_
      refine DE.t 6 (v := (Value.pointer (some a26))) rfl (by kernel_rfl) (Wn.no rfl) rfl (R.fld (off := 0) fa49_0 rfl) ?_
      refine DE.t 8 (v := (Value.int .i64 x8)) rfl (by kernel_rfl) (Wn.no rfl) rfl (R.move f19) ?_
      obtain ⟨t28, t29, t30, t31, t32, t33, h34, h⟩ := h
      refine DE.hold 3 (fun w => Cs w (a22.add (x8.toNat * 6)) 0 [(Value.int .u32 t28), (Value.int .i64 t29), (Value.bool t30), (Value.int .i64 t31), (Value.int .u32 t32), (Value.float .f64 t33)]) (v := (Value.agg #[(Value.int .u32 t28), (Value.int .i64 t29), (Value.bool t30), (Value.int .i64 t31), (Value.int .u32 t32), (Value.float .f64 t33)])) rfl (by kernel_rfl) (Wn.no rfl) rfl h34 (fun w hs => R.ldA ag33 sz33 rfl rfl hs) ?_
      obtain ⟨t35, h36, h⟩ := h
      refine DE.main 7 (by kernel_rfl) ?_
      refine One.r 7 (v := (SV.v t35)) rfl (Wn.no rfl) rfl (R.ld sc39 rfl h36) (.inl rfl) ?_
      obtain ⟨a37, h38, h39, h40, h⟩ := h
      refine DE.t 9 (v := (Value.pointer (some (a37.add (x8.toNat * 6))))) rfl (by kernel_rfl) (Wn.no rfl) rfl (R.idx (s := t35) sl39 rfl rfl h38 h39 h40) ?_
      obtain ⟨t41, t42, t43, t44, t45, t46, h47, h⟩ := h
      refine DE.main 10 (by kernel_rfl) ?_
      refine One.r 10 (v := (Value.agg #[(Value.int .u32 t41), (Value.int .i64 t42), (Value.bool t43), (Value.int .i64 t44), (Value.int .u32 t45), (Value.float .f64 t46)])) rfl (Wn.no rfl) rfl (R.ldA ag33 sz33 rfl rfl h47) (.inl rfl) ?_
      refine DE.main 11 (by kernel_rfl) ?_
      refine One.c 11 rfl (Wn.no rfl) rfl (R.call bd15 (Ls.cons rfl (Ls.cons rfl Ls.nil)) rfl) (Calls.mono h ?_)
      rintro _ w49 ⟨r48, rfl, h⟩
      refine ⟨_, rfl, ⟨aftT (by kernel_rfl), trivial⟩, ?_⟩
      refine DE.t 12 (v := (Value.bool (!r48))) rfl (by kernel_rfl) (Wn.no rfl) rfl (R.not rfl) ?_
      refine DE.done (by kernel_rfl) ?_
      refine WE.condT rfl (b := (!r48)) rfl ?_ ?_
      · intro hb50
        replace h := M.ite_t h hb50
        refine WE.seq ?_
        refine WE.reg ?_
        refine LE.p (v := (Value.bool false)) (Wn.no rfl) rfl (R.assign rfl) ?_
        refine LE.nil ?_
        refine WE.ret ?_
        exact ⟨_, (Res.tmp rfl Res.nil), _, rfl, h⟩
      · intro hb50
        replace h := M.ite_f h hb50
        refine WE.skip ?_
        refine WE.reg ?_
        refine LE.p (v := (Value.int .i64 x8)) (Wn.no rfl) rfl (R.move f19) ?_
        refine LE.p (v := (Value.int .i64 (IntKind.i64.wrap (x8 + (1 : Int))))) (Wn.no rfl) rfl (R.add rfl rfl) ?_
        refine LE.p (v := (Value.int .i64 (IntKind.i64.wrap (x8 + (1 : Int))))) (Wn.no rfl) rfl (R.assign rfl) ?_
        refine LE.nil ?_
        obtain ⟨m15, hm16, h⟩ := h
        exact ⟨m15, hm16, _, h, f17, f18, rfl⟩
    · intro hb20
      replace h := M.ite_f h hb20
      refine WE.exit ?_
      refine WE.seq ?_
      refine WE.reg ?_
      refine LE.p (v := (Value.bool true)) (Wn.no rfl) rfl (R.assign rfl) ?_
      refine LE.nil ?_
      refine WE.ret ?_
      exact ⟨_, (Res.tmp rfl Res.nil), _, rfl, h⟩
/-- The formula of math.Inf. -/
def F19 (p0 : Int) (K : Nat → World → Prop) (w0 : World) : Prop :=
M.join (fun (x2 : Int) (w5 : World) => 
K (Int.toNat x2) w5) fun J1 => 
M.ite (decide ((0 : Int) ≤ p0)) (
J1 (9218868437227405312 : Int) w0) (
J1 (18442240474082181120 : Int) w0)
theorem F19_ok {w0 : World} {p0 : Int} {K : Nat → World → Prop} (h : F19 p0 K w0) : Calls Try.prog 19 #[(Value.int .i64 p0)] w0 (R19 K) := by
  refine calls_of_WE (args := [(Value.int .i64 p0)]) (rs := [.tmp 2]) Try.func19 rfl (N := 8) rfl rfl rfl rfl ?_
  refine WE.seq ?_
  refine WE.reg ?_
  refine LE.p (v := (Value.float .f64 (0 : Nat))) (Wn.no rfl) rfl (R.assign rfl) ?_
  refine LE.nil ?_
  refine WE.seq ?_
  refine WE.reg ?_
  refine LE.p (v := (Value.int .u64 (0 : Int))) (Wn.no rfl) rfl (R.assign rfl) ?_
  refine LE.nil ?_
  obtain ⟨J1, hJ1, h⟩ := M.join_use h
  refine WE.join (fun e w => ∃ (x2 : Int), J1 x2 w ∧ e 3 = (Value.int .u64 x2)) ?_ ?_
  · clear hJ1
    refine WE.seq ?_
    refine WE.reg ?_
    refine LE.p (v := (Value.int .i64 p0)) (Wn.no rfl) rfl (R.move rfl) ?_
    refine LE.p (v := (Value.bool (decide ((0 : Int) ≤ p0)))) (Wn.no rfl) rfl (R.geq rfl rfl) ?_
    refine LE.nil ?_
    refine WE.condT rfl (b := (decide ((0 : Int) ≤ p0))) rfl ?_ ?_
    · intro hb3
      replace h := M.ite_t h hb3
      refine WE.reg ?_
      refine LE.p (v := (Value.int .u64 (9218868437227405312 : Int))) (Wn.no rfl) rfl (R.assign rfl) ?_
      refine LE.nil ?_
      exact ⟨_, h, rfl⟩
    · intro hb3
      replace h := M.ite_f h hb3
      refine WE.reg ?_
      refine LE.p (v := (Value.int .u64 (18442240474082181120 : Int))) (Wn.no rfl) rfl (R.assign rfl) ?_
      refine LE.nil ?_
      exact ⟨_, h, rfl⟩
  · rintro e4 w5 ⟨x2, h, f6⟩
    subst hJ1
    refine WE.seq ?_
    refine WE.reg ?_
    refine LE.p (v := (Value.int .u64 x2)) (Wn.no rfl) rfl (R.move f6) ?_
    refine LE.p (v := (Value.float .f64 (Int.toNat x2))) (Wn.no rfl) rfl (R.callx (xt46 x2) (Ls.cons rfl Ls.nil) rfl) ?_
    refine LE.p (v := (Value.float .f64 (Int.toNat x2))) (Wn.no rfl) rfl (R.assign rfl) ?_
    refine LE.nil ?_
    refine WE.ret ?_
    exact ⟨_, (Res.tmp rfl Res.nil), _, rfl, h⟩
/-- The formula of (*signpost.igp.Table).Cut. -/
def F20 (p0 : Option Addr) (p1_0 : Int) (p1_1 : Int) (K : Bool → World → Prop) (w0 : World) : Prop :=
M.new (.cells #[(Value.int .u32 p1_0), (Value.int .i64 p1_1)] 30) w0 fun b2 w1 =>
M.drew w1 fun w3 => 
M.nil p0 fun a4 =>
M.ld Value.map (a4.add 2) w3 fun t6 =>
M.ld (Value.int .u32) b2 w3 fun t8 =>
M.ld (Value.int .i64) (b2.add 1) w3 fun t10 =>
∃ (t12 : Int) (t13 : Int) (t14 : Bool) (t15 : Int) (t16 : Int) (t17 : Nat) (t19 : Bool), (Instr.lookup 63 (Value.map t6) (Value.agg #[(Value.int .u32 t8), (Value.int .i64 t10)]) true).run Try.prog w3 = .ok (Value.tuple #[(Value.agg #[(Value.int .u32 t12), (Value.int .i64 t13), (Value.bool t14), (Value.int .i64 t15), (Value.int .u32 t16), (Value.float .f64 t17)]), (Value.bool t19)]) w3 ∧
M.new (.cells #[(Value.int .u32 (0 : Int)), (Value.int .i64 (0 : Int)), (Value.bool false), (Value.int .i64 (0 : Int)), (Value.int .u32 (0 : Int)), (Value.float .f64 (0 : Nat))] 33) w3 fun b21 w20 =>
M.keep ((Instr.lookup 63 (Value.map t6) (Value.agg #[(Value.int .u32 t8), (Value.int .i64 t10)]) true).run Try.prog w20 = .ok (Value.tuple #[(Value.agg #[(Value.int .u32 t12), (Value.int .i64 t13), (Value.bool t14), (Value.int .i64 t15), (Value.int .u32 t16), (Value.float .f64 t17)]), (Value.bool t19)]) w20) <|
M.keep (w20.cell? b2 = some (Value.int .u32 t8)) <|
M.keep (w20.cell? (b2.add 1) = some (Value.int .i64 t10)) <|
M.keep (w20.cell? (a4.add 2) = some (Value.map t6)) <|
M.stA b21 [(Value.int .u32 t12), (Value.int .i64 t13), (Value.bool t14), (Value.int .i64 t15), (Value.int .u32 t16), (Value.float .f64 t17)] w20 fun w26 =>
M.ite (!t19) (
K false w26) (
M.drew w26 fun w29 => 
M.nil p0 fun a30 =>
M.ld Value.map (a30.add 2) w29 fun t32 =>
M.ld (Value.int .u32) b2 w29 fun t34 =>
M.ld (Value.int .i64) (b2.add 1) w29 fun t36 =>
∃ w38, (Builtin.delete_ #[63, 30] 0 #[(Value.map t32), (Value.agg #[(Value.int .u32 t34), (Value.int .i64 t36)])]).run Try.prog w29 = .ok (.tuple #[]) w38 ∧
M.drew w38 fun w40 => 
M.nil p0 fun a41 =>
M.ld Value.pointer a41 w40 fun t43 =>
M.ld (Value.int .u32) b2 w40 fun t45 =>
M.ld (Value.int .i64) (b2.add 1) w40 fun t47 =>
Calls Try.prog 28 #[(Value.pointer t43), (Value.agg #[(Value.int .u32 t45), (Value.int .i64 t47)])] w40 (R28 fun r49 w50 =>
M.drew w50 fun w51 => 
M.nil p0 fun a52 =>
M.ld Value.pointer (a52.add 1) w51 fun t54 =>
M.ld (Value.int .u32) b2 w51 fun t56 =>
M.ld (Value.int .i64) (b2.add 1) w51 fun t58 =>
Calls Try.prog 28 #[(Value.pointer t54), (Value.agg #[(Value.int .u32 t56), (Value.int .i64 t58)])] w51 (R28 fun r60 w61 =>
K true w61)))
theorem F20_ok {w0 : World} {p0 : Option Addr} {p1_0 : Int} {p1_1 : Int} {K : Bool → World → Prop} (h : F20 p0 p1_0 p1_1 K w0) : Calls Try.prog 20 #[(Value.pointer p0), (Value.agg #[(Value.int .u32 p1_0), (Value.int .i64 p1_1)])] w0 (R20 K) := by
  refine calls_of_WE (args := [(Value.pointer p0), (Value.agg #[(Value.int .u32 p1_0), (Value.int .i64 p1_1)])]) (rs := [.tmp 4]) Try.func20 rfl (N := 35) rfl rfl rfl rfl ?_
  refine WE.seq ?_
  refine WE.reg ?_
  obtain ⟨b2, hpb2, w1, hww1, h⟩ := M.new_use h
  refine LE.r (v := (Value.pointer (some b2))) (Wn.no rfl) rfl (R.box (cs := #[(Value.int .u32 p1_0), (Value.int .i64 p1_1)]) rfl rfl hpb2 hww1) ?_
  refine LE.p (v := (Value.bool false)) (Wn.no rfl) rfl (R.assign rfl) ?_
  refine LE.nil ?_
  refine WE.seq ?_
  refine WE.seq ?_
  refine WE.draw mix ?_
  obtain ⟨w3, hww3, h⟩ := M.drew_use h
  rw [← hww3]
  clear hww3
  refine DE.t 0 (v := (Value.pointer p0)) rfl (by kernel_rfl) (Wn.no rfl) rfl (R.move rfl) ?_
  obtain ⟨a4, h5, h⟩ := h
  refine DE.t 1 (v := (Value.pointer (some a4))) rfl (by kernel_rfl) (Wn.no rfl) rfl (R.nilC (congrArg Value.pointer h5)) ?_
  refine DE.t 2 (v := (Value.pointer (some (a4.add 2)))) rfl (by kernel_rfl) (Wn.no rfl) rfl (R.fld (off := 2) fa65_2 rfl) ?_
  obtain ⟨t6, h7, h⟩ := h
  refine DE.hold 3 (fun w => w.cell? (a4.add 2) = some (Value.map t6)) (v := (Value.map t6)) rfl (by kernel_rfl) (Wn.no rfl) rfl h7 (fun w hs => R.ld sc63 rfl hs) ?_
  obtain ⟨t8, h9, h⟩ := h
  obtain ⟨t10, h11, h⟩ := h
  refine DE.hold 4 (fun w => w.cell? b2 = some (Value.int .u32 t8) ∧ w.cell? (b2.add 1) = some (Value.int .i64 t10)) (v := (Value.agg #[(Value.int .u32 t8), (Value.int .i64 t10)])) rfl (by kernel_rfl) (Wn.no rfl) rfl ⟨h9, h11⟩ (fun w hs => R.ldA ag30 sz30 rfl rfl (Cs.cons hs.1 (Cs.cons hs.2 Cs.nil))) ?_
  obtain ⟨t12, t13, t14, t15, t16, t17, t19, h18, h⟩ := h
  refine DE.hold 5 (fun w => (Instr.lookup 63 (Value.map t6) (Value.agg #[(Value.int .u32 t8), (Value.int .i64 t10)]) true).run Try.prog w = .ok (Value.tuple #[(Value.agg #[(Value.int .u32 t12), (Value.int .i64 t13), (Value.bool t14), (Value.int .i64 t15), (Value.int .u32 t16), (Value.float .f64 t17)]), (Value.bool t19)]) w) (v := (Value.tuple #[(Value.agg #[(Value.int .u32 t12), (Value.int .i64 t13), (Value.bool t14), (Value.int .i64 t15), (Value.int .u32 t16), (Value.float .f64 t17)]), (Value.bool t19)])) rfl (by kernel_rfl) (Wn.no rfl) rfl h18 (fun w hs => R.look rfl rfl hs) ?_
  refine DE.t 6 (v := (Value.tuple #[(Value.agg #[(Value.int .u32 t12), (Value.int .i64 t13), (Value.bool t14), (Value.int .i64 t15), (Value.int .u32 t16), (Value.float .f64 t17)]), (Value.bool t19)])) rfl (by kernel_rfl) (Wn.no rfl) rfl (R.move rfl) ?_
  refine DE.t 7 (v := (Value.agg #[(Value.int .u32 t12), (Value.int .i64 t13), (Value.bool t14), (Value.int .i64 t15), (Value.int .u32 t16), (Value.float .f64 t17)])) rfl (by kernel_rfl) (Wn.no rfl) rfl (R.ext rfl rfl) ?_
  refine DE.t 8 (v := (Value.bool t19)) rfl (by kernel_rfl) (Wn.no rfl) rfl (R.ext rfl rfl) ?_
  obtain ⟨b21, hpb21, w20, hww20, h⟩ := M.new_use h
  obtain ⟨k22, h⟩ := h
  obtain ⟨k23, h⟩ := h
  obtain ⟨k24, h⟩ := h
  obtain ⟨k25, h⟩ := h
  refine DE.main 9 (by kernel_rfl) ?_
  refine One.r 9 (v := (Value.pointer (some b21))) rfl (Wn.no rfl) rfl (R.alloc (cs := #[(Value.int .u32 (0 : Int)), (Value.int .i64 (0 : Int)), (Value.bool false), (Value.int .i64 (0 : Int)), (Value.int .u32 (0 : Int)), (Value.float .f64 (0 : Nat))]) ze33 rfl hpb21 hww20) (.inr ⟨fun _ => k22, fun _ => ⟨k23, k24⟩, fun _ => k25, trivial⟩) ?_
  obtain ⟨w26, hww26, h27, h⟩ := M.stA_use h
  refine DE.main 10 (by kernel_rfl) ?_
  refine One.s 10 rfl (Wn.no rfl) rfl (R.stA (a := b21) [(Value.int .u32 t12), (Value.int .i64 t13), (Value.bool t14), (Value.int .i64 t15), (Value.int .u32 t16), (Value.float .f64 t17)] sz33 rfl rfl rfl (by simp [Value.oneCell']) h27 hww26) ⟨aftT (by kernel_rfl), aftT (by kernel_rfl), aftT (by kernel_rfl), trivial⟩ ?_
  refine DE.t 11 (v := (Value.bool t19)) rfl (by kernel_rfl) (Wn.no rfl) rfl (R.assign rfl) ?_
  refine DE.done (by kernel_rfl) ?_
  refine WE.seq ?_
  refine WE.reg ?_
  refine LE.p (v := (Value.bool t19)) (Wn.no rfl) rfl (R.move rfl) ?_
  refine LE.p (v := (Value.bool (!t19))) (Wn.no rfl) rfl (R.not rfl) ?_
  refine LE.nil ?_
  refine WE.condT rfl (b := (!t19)) rfl ?_ ?_
  · intro hb28
    replace h := M.ite_t h hb28
    refine WE.seq ?_
    refine WE.reg ?_
    refine LE.p (v := (Value.bool false)) (Wn.no rfl) rfl (R.assign rfl) ?_
    refine LE.nil ?_
    refine WE.ret ?_
    exact ⟨_, (Res.tmp rfl Res.nil), _, rfl, h⟩
  · intro hb28
    replace h := M.ite_f h hb28
    refine WE.skip ?_
    refine WE.seq ?_
    refine WE.draw mix ?_
    obtain ⟨w29, hww29, h⟩ := M.drew_use h
    rw [← hww29]
    clear hww29
    refine DE.t 0 (v := (Value.pointer p0)) rfl (by kernel_rfl) (Wn.no rfl) rfl (R.move rfl) ?_
    obtain ⟨a30, h31, h⟩ := h
    refine DE.t 1 (v := (Value.pointer (some a30))) rfl (by kernel_rfl) (Wn.no rfl) rfl (R.nilC (congrArg Value.pointer h31)) ?_
    refine DE.t 2 (v := (Value.pointer (some (a30.add 2)))) rfl (by kernel_rfl) (Wn.no rfl) rfl (R.fld (off := 2) fa65_2 rfl) ?_
    obtain ⟨t32, h33, h⟩ := h
    refine DE.hold 3 (fun w => w.cell? (a30.add 2) = some (Value.map t32)) (v := (Value.map t32)) rfl (by kernel_rfl) (Wn.no rfl) rfl h33 (fun w hs => R.ld sc63 rfl hs) ?_
    obtain ⟨t34, h35, h⟩ := h
    obtain ⟨t36, h37, h⟩ := h
    refine DE.main 4 (by kernel_rfl) ?_
    refine One.r 4 (v := (Value.agg #[(Value.int .u32 t34), (Value.int .i64 t36)])) rfl (Wn.no rfl) rfl (R.ldA ag30 sz30 rfl rfl (Cs.cons h35 (Cs.cons h37 Cs.nil))) (.inl rfl) ?_
    obtain ⟨w38, h39, h⟩ := h
    refine DE.main 5 (by kernel_rfl) ?_
    refine One.r 5 (v := (Value.tuple #[])) rfl (Wn.no rfl) rfl (R.del rfl rfl h39) (.inr ⟨aftT (by kernel_rfl), trivial⟩) ?_
    refine DE.done (by kernel_rfl) ?_
    refine WE.seq ?_
    refine WE.draw mix ?_
    obtain ⟨w40, hww40, h⟩ := M.drew_use h
    rw [← hww40]
    clear hww40
    refine DE.t 0 (v := (Value.pointer p0)) rfl (by kernel_rfl) (Wn.no rfl) rfl (R.move rfl) ?_
    obtain ⟨a41, h42, h⟩ := h
    refine DE.t 1 (v := (Value.pointer (some a41))) rfl (by kernel_rfl) (Wn.no rfl) rfl (R.nilC (congrArg Value.pointer h42)) ?_
    refine DE.t 2 (v := (Value.pointer (some a41))) rfl (by kernel_rfl) (Wn.no rfl) rfl (R.fld (off := 0) fa65_0 rfl) ?_
    obtain ⟨t43, h44, h⟩ := h
    refine DE.hold 3 (fun w => w.cell? a41 = some (Value.pointer t43)) (v := (Value.pointer t43)) rfl (by kernel_rfl) (Wn.no rfl) rfl h44 (fun w hs => R.ld sc61 rfl hs) ?_
    obtain ⟨t45, h46, h⟩ := h
    obtain ⟨t47, h48, h⟩ := h
    refine DE.main 4 (by kernel_rfl) ?_
    refine One.r 4 (v := (Value.agg #[(Value.int .u32 t45), (Value.int .i64 t47)])) rfl (Wn.no rfl) rfl (R.ldA ag30 sz30 rfl rfl (Cs.cons h46 (Cs.cons h48 Cs.nil))) (.inl rfl) ?_
    refine DE.main 5 (by kernel_rfl) ?_
    refine One.c 5 rfl (Wn.no rfl) rfl (R.call bd28 (Ls.cons rfl (Ls.cons rfl Ls.nil)) rfl) (Calls.mono h ?_)
    rintro _ w50 ⟨r49, rfl, h⟩
    refine ⟨_, rfl, ⟨aftT (by kernel_rfl), trivial⟩, ?_⟩
    refine DE.done (by kernel_rfl) ?_
    refine WE.seq ?_
    refine WE.draw mix ?_
    obtain ⟨w51, hww51, h⟩ := M.drew_use h
    rw [← hww51]
    clear hww51
    refine DE.t 0 (v := (Value.pointer p0)) rfl (by kernel_rfl) (Wn.no rfl) rfl (R.move rfl) ?_
    obtain ⟨a52, h53, h⟩ := h
    refine DE.t 1 (v := (Value.pointer (some a52))) rfl (by kernel_rfl) (Wn.no rfl) rfl (R.nilC (congrArg Value.pointer h53)) ?_
    refine DE.t 2 (v := (Value.pointer (some (a52.add 1)))) rfl (by kernel_rfl) (Wn.no rfl) rfl (R.fld (off := 1) fa65_1 rfl) ?_
    obtain ⟨t54, h55, h⟩ := h
    refine DE.hold 3 (fun w => w.cell? (a52.add 1) = some (Value.pointer t54)) (v := (Value.pointer t54)) rfl (by kernel_rfl) (Wn.no rfl) rfl h55 (fun w hs => R.ld sc61 rfl hs) ?_
    obtain ⟨t56, h57, h⟩ := h
    obtain ⟨t58, h59, h⟩ := h
    refine DE.main 4 (by kernel_rfl) ?_
    refine One.r 4 (v := (Value.agg #[(Value.int .u32 t56), (Value.int .i64 t58)])) rfl (Wn.no rfl) rfl (R.ldA ag30 sz30 rfl rfl (Cs.cons h57 (Cs.cons h59 Cs.nil))) (.inl rfl) ?_
    refine DE.main 5 (by kernel_rfl) ?_
    refine One.c 5 rfl (Wn.no rfl) rfl (R.call bd28 (Ls.cons rfl (Ls.cons rfl Ls.nil)) rfl) (Calls.mono h ?_)
    rintro _ w61 ⟨r60, rfl, h⟩
    refine ⟨_, rfl, ⟨aftT (by kernel_rfl), trivial⟩, ?_⟩
    refine DE.done (by kernel_rfl) ?_
    refine WE.seq ?_
    refine WE.reg ?_
    refine LE.p (v := (Value.bool true)) (Wn.no rfl) rfl (R.assign rfl) ?_
    refine LE.nil ?_
    refine WE.ret ?_
    exact ⟨_, (Res.tmp rfl Res.nil), _, rfl, h⟩
/-- The formula of (*signpost.igp.Table).Get. -/
def F21 (p0 : Option Addr) (p1_0 : Int) (p1_1 : Int) (K : Int → Int → Bool → Int → Int → Nat → Bool → World → Prop) (w0 : World) : Prop :=
M.new (.cells #[(Value.int .u32 p1_0), (Value.int .i64 p1_1)] 30) w0 fun b2 w1 =>
M.new (.cells #[(Value.int .u32 (0 : Int)), (Value.int .i64 (0 : Int)), (Value.bool false), (Value.int .i64 (0 : Int)), (Value.int .u32 (0 : Int)), (Value.float .f64 (0 : Nat))] 33) w1 fun b4 w3 =>
M.drew w3 fun w5 => 
M.nil p0 fun a6 =>
M.ld Value.map (a6.add 2) w5 fun t8 =>
M.ld (Value.int .u32) b2 w5 fun t10 =>
M.ld (Value.int .i64) (b2.add 1) w5 fun t12 =>
∃ (t14 : Int) (t15 : Int) (t16 : Bool) (t17 : Int) (t18 : Int) (t19 : Nat) (t21 : Bool), (Instr.lookup 63 (Value.map t8) (Value.agg #[(Value.int .u32 t10), (Value.int .i64 t12)]) true).run Try.prog w5 = .ok (Value.tuple #[(Value.agg #[(Value.int .u32 t14), (Value.int .i64 t15), (Value.bool t16), (Value.int .i64 t17), (Value.int .u32 t18), (Value.float .f64 t19)]), (Value.bool t21)]) w5 ∧
M.new (.cells #[(Value.int .u32 (0 : Int)), (Value.int .i64 (0 : Int)), (Value.bool false), (Value.int .i64 (0 : Int)), (Value.int .u32 (0 : Int)), (Value.float .f64 (0 : Nat))] 33) w5 fun b23 w22 =>
M.keep ((Instr.lookup 63 (Value.map t8) (Value.agg #[(Value.int .u32 t10), (Value.int .i64 t12)]) true).run Try.prog w22 = .ok (Value.tuple #[(Value.agg #[(Value.int .u32 t14), (Value.int .i64 t15), (Value.bool t16), (Value.int .i64 t17), (Value.int .u32 t18), (Value.float .f64 t19)]), (Value.bool t21)]) w22) <|
M.keep (w22.cell? b2 = some (Value.int .u32 t10)) <|
M.keep (w22.cell? (b2.add 1) = some (Value.int .i64 t12)) <|
M.keep (w22.cell? (a6.add 2) = some (Value.map t8)) <|
M.stA b23 [(Value.int .u32 t14), (Value.int .i64 t15), (Value.bool t16), (Value.int .i64 t17), (Value.int .u32 t18), (Value.float .f64 t19)] w22 fun w28 =>
∃ (t30 : Int) (t31 : Int) (t32 : Bool) (t33 : Int) (t34 : Int) (t35 : Nat), Cs w28 b23 0 [(Value.int .u32 t30), (Value.int .i64 t31), (Value.bool t32), (Value.int .i64 t33), (Value.int .u32 t34), (Value.float .f64 t35)] ∧
M.stA b4 [(Value.int .u32 t30), (Value.int .i64 t31), (Value.bool t32), (Value.int .i64 t33), (Value.int .u32 t34), (Value.float .f64 t35)] w28 fun w37 =>
∃ (t39 : Int) (t40 : Int) (t41 : Bool) (t42 : Int) (t43 : Int) (t44 : Nat), Cs w37 b4 0 [(Value.int .u32 t39), (Value.int .i64 t40), (Value.bool t41), (Value.int .i64 t42), (Value.int .u32 t43), (Value.float .f64 t44)] ∧
K t39 t40 t41 t42 t43 t44 t21 w37
theorem F21_ok {w0 : World} {p0 : Option Addr} {p1_0 : Int} {p1_1 : Int} {K : Int → Int → Bool → Int → Int → Nat → Bool → World → Prop} (h : F21 p0 p1_0 p1_1 K w0) : Calls Try.prog 21 #[(Value.pointer p0), (Value.agg #[(Value.int .u32 p1_0), (Value.int .i64 p1_1)])] w0 (R21 K) := by
  refine calls_of_WE (args := [(Value.pointer p0), (Value.agg #[(Value.int .u32 p1_0), (Value.int .i64 p1_1)])]) (rs := [.cell 4 33, .tmp 5]) Try.func21 rfl (N := 19) rfl rfl rfl rfl ?_
  refine WE.seq ?_
  refine WE.reg ?_
  obtain ⟨b2, hpb2, w1, hww1, h⟩ := M.new_use h
  refine LE.r (v := (Value.pointer (some b2))) (Wn.no rfl) rfl (R.box (cs := #[(Value.int .u32 p1_0), (Value.int .i64 p1_1)]) rfl rfl hpb2 hww1) ?_
  obtain ⟨b4, hpb4, w3, hww3, h⟩ := M.new_use h
  refine LE.r (v := (Value.pointer (some b4))) (Wn.no rfl) rfl (R.alloc (cs := #[(Value.int .u32 (0 : Int)), (Value.int .i64 (0 : Int)), (Value.bool false), (Value.int .i64 (0 : Int)), (Value.int .u32 (0 : Int)), (Value.float .f64 (0 : Nat))]) ze33 rfl hpb4 hww3) ?_
  refine LE.p (v := (Value.bool false)) (Wn.no rfl) rfl (R.assign rfl) ?_
  refine LE.nil ?_
  refine WE.seq ?_
  refine WE.draw mix ?_
  obtain ⟨w5, hww5, h⟩ := M.drew_use h
  rw [← hww5]
  clear hww5
  refine DE.t 0 (v := (Value.pointer p0)) rfl (by kernel_rfl) (Wn.no rfl) rfl (R.move rfl) ?_
  obtain ⟨a6, h7, h⟩ := h
  refine DE.t 1 (v := (Value.pointer (some a6))) rfl (by kernel_rfl) (Wn.no rfl) rfl (R.nilC (congrArg Value.pointer h7)) ?_
  refine DE.t 2 (v := (Value.pointer (some (a6.add 2)))) rfl (by kernel_rfl) (Wn.no rfl) rfl (R.fld (off := 2) fa65_2 rfl) ?_
  obtain ⟨t8, h9, h⟩ := h
  refine DE.hold 3 (fun w => w.cell? (a6.add 2) = some (Value.map t8)) (v := (Value.map t8)) rfl (by kernel_rfl) (Wn.no rfl) rfl h9 (fun w hs => R.ld sc63 rfl hs) ?_
  obtain ⟨t10, h11, h⟩ := h
  obtain ⟨t12, h13, h⟩ := h
  refine DE.hold 4 (fun w => w.cell? b2 = some (Value.int .u32 t10) ∧ w.cell? (b2.add 1) = some (Value.int .i64 t12)) (v := (Value.agg #[(Value.int .u32 t10), (Value.int .i64 t12)])) rfl (by kernel_rfl) (Wn.no rfl) rfl ⟨h11, h13⟩ (fun w hs => R.ldA ag30 sz30 rfl rfl (Cs.cons hs.1 (Cs.cons hs.2 Cs.nil))) ?_
  obtain ⟨t14, t15, t16, t17, t18, t19, t21, h20, h⟩ := h
  refine DE.hold 5 (fun w => (Instr.lookup 63 (Value.map t8) (Value.agg #[(Value.int .u32 t10), (Value.int .i64 t12)]) true).run Try.prog w = .ok (Value.tuple #[(Value.agg #[(Value.int .u32 t14), (Value.int .i64 t15), (Value.bool t16), (Value.int .i64 t17), (Value.int .u32 t18), (Value.float .f64 t19)]), (Value.bool t21)]) w) (v := (Value.tuple #[(Value.agg #[(Value.int .u32 t14), (Value.int .i64 t15), (Value.bool t16), (Value.int .i64 t17), (Value.int .u32 t18), (Value.float .f64 t19)]), (Value.bool t21)])) rfl (by kernel_rfl) (Wn.no rfl) rfl h20 (fun w hs => R.look rfl rfl hs) ?_
  refine DE.t 6 (v := (Value.tuple #[(Value.agg #[(Value.int .u32 t14), (Value.int .i64 t15), (Value.bool t16), (Value.int .i64 t17), (Value.int .u32 t18), (Value.float .f64 t19)]), (Value.bool t21)])) rfl (by kernel_rfl) (Wn.no rfl) rfl (R.move rfl) ?_
  refine DE.t 7 (v := (Value.agg #[(Value.int .u32 t14), (Value.int .i64 t15), (Value.bool t16), (Value.int .i64 t17), (Value.int .u32 t18), (Value.float .f64 t19)])) rfl (by kernel_rfl) (Wn.no rfl) rfl (R.ext rfl rfl) ?_
  refine DE.t 8 (v := (Value.bool t21)) rfl (by kernel_rfl) (Wn.no rfl) rfl (R.ext rfl rfl) ?_
  obtain ⟨b23, hpb23, w22, hww22, h⟩ := M.new_use h
  obtain ⟨k24, h⟩ := h
  obtain ⟨k25, h⟩ := h
  obtain ⟨k26, h⟩ := h
  obtain ⟨k27, h⟩ := h
  refine DE.main 9 (by kernel_rfl) ?_
  refine One.r 9 (v := (Value.pointer (some b23))) rfl (Wn.no rfl) rfl (R.alloc (cs := #[(Value.int .u32 (0 : Int)), (Value.int .i64 (0 : Int)), (Value.bool false), (Value.int .i64 (0 : Int)), (Value.int .u32 (0 : Int)), (Value.float .f64 (0 : Nat))]) ze33 rfl hpb23 hww22) (.inr ⟨fun _ => k24, fun _ => ⟨k25, k26⟩, fun _ => k27, trivial⟩) ?_
  obtain ⟨w28, hww28, h29, h⟩ := M.stA_use h
  refine DE.main 10 (by kernel_rfl) ?_
  refine One.s 10 rfl (Wn.no rfl) rfl (R.stA (a := b23) [(Value.int .u32 t14), (Value.int .i64 t15), (Value.bool t16), (Value.int .i64 t17), (Value.int .u32 t18), (Value.float .f64 t19)] sz33 rfl rfl rfl (by simp [Value.oneCell']) h29 hww28) ⟨aftT (by kernel_rfl), aftT (by kernel_rfl), aftT (by kernel_rfl), trivial⟩ ?_
  refine DE.t 11 (v := (Value.bool t21)) rfl (by kernel_rfl) (Wn.no rfl) rfl (R.assign rfl) ?_
  refine DE.done (by kernel_rfl) ?_
  refine WE.seq ?_
  refine WE.reg ?_
  obtain ⟨t30, t31, t32, t33, t34, t35, h36, h⟩ := h
  refine LE.r (v := (Value.agg #[(Value.int .u32 t30), (Value.int .i64 t31), (Value.bool t32), (Value.int .i64 t33), (Value.int .u32 t34), (Value.float .f64 t35)])) (Wn.no rfl) rfl (R.ldA ag33 sz33 rfl rfl h36) ?_
  refine LE.p (v := (Value.bool t21)) (Wn.no rfl) rfl (R.move rfl) ?_
  obtain ⟨w37, hww37, h38, h⟩ := M.stA_use h
  refine LE.s (Wn.no rfl) rfl (R.stA (a := b4) [(Value.int .u32 t30), (Value.int .i64 t31), (Value.bool t32), (Value.int .i64 t33), (Value.int .u32 t34), (Value.float .f64 t35)] sz33 rfl rfl rfl (by simp [Value.oneCell']) h38 hww37) ?_
  refine LE.p (v := (Value.bool t21)) (Wn.no rfl) rfl (R.assign rfl) ?_
  refine LE.nil ?_
  refine WE.ret ?_
  obtain ⟨t39, t40, t41, t42, t43, t44, h45, h⟩ := h
  exact ⟨_, (Res.cell rfl (R.ldCellA ag33 sz33 rfl h45) (Res.tmp rfl Res.nil)), _, _, _, _, _, _, _, rfl, h⟩
/-- The formula of math.Copysign. -/
def F22 (p0 : Nat) (p1 : Nat) (K : Nat → World → Prop) (w0 : World) : Prop :=
K (Int.toNat (bOr .u64 (bAndNot .u64 (p0 : Int) (9223372036854775808 : Int)) (bAnd .u64 (p1 : Int) (9223372036854775808 : Int)))) w0
theorem F22_ok {w0 : World} {p0 : Nat} {p1 : Nat} {K : Nat → World → Prop} (h : F22 p0 p1 K w0) : Calls Try.prog 22 #[(Value.float .f64 p0), (Value.float .f64 p1)] w0 (R22 K) := by
  refine calls_of_WE (args := [(Value.float .f64 p0), (Value.float .f64 p1)]) (rs := [.tmp 4]) Try.func22 rfl (N := 13) rfl rfl rfl rfl ?_
  refine WE.seq ?_
  refine WE.reg ?_
  refine LE.p (v := (Value.float .f64 (0 : Nat))) (Wn.no rfl) rfl (R.assign rfl) ?_
  refine LE.nil ?_
  refine WE.seq ?_
  refine WE.reg ?_
  refine LE.p (v := (Value.float .f64 p0)) (Wn.no rfl) rfl (R.move rfl) ?_
  refine LE.p (v := (Value.int .u64 (p0 : Int))) (Wn.no rfl) rfl (R.callx (xt38 p0) (Ls.cons rfl Ls.nil) rfl) ?_
  refine LE.p (v := (Value.int .u64 (bAndNot .u64 (p0 : Int) (9223372036854775808 : Int)))) (Wn.no rfl) rfl (R.andNot rfl rfl) ?_
  refine LE.p (v := (Value.float .f64 p1)) (Wn.no rfl) rfl (R.move rfl) ?_
  refine LE.p (v := (Value.int .u64 (p1 : Int))) (Wn.no rfl) rfl (R.callx (xt38 p1) (Ls.cons rfl Ls.nil) rfl) ?_
  refine LE.p (v := (Value.int .u64 (bAnd .u64 (p1 : Int) (9223372036854775808 : Int)))) (Wn.no rfl) rfl (R.and rfl rfl) ?_
  refine LE.p (v := (Value.int .u64 (bOr .u64 (bAndNot .u64 (p0 : Int) (9223372036854775808 : Int)) (bAnd .u64 (p1 : Int) (9223372036854775808 : Int))))) (Wn.no rfl) rfl (R.or rfl rfl) ?_
  refine LE.p (v := (Value.float .f64 (Int.toNat (bOr .u64 (bAndNot .u64 (p0 : Int) (9223372036854775808 : Int)) (bAnd .u64 (p1 : Int) (9223372036854775808 : Int)))))) (Wn.no rfl) rfl (R.callx (xt46 (bOr .u64 (bAndNot .u64 (p0 : Int) (9223372036854775808 : Int)) (bAnd .u64 (p1 : Int) (9223372036854775808 : Int)))) (Ls.cons rfl Ls.nil) rfl) ?_
  refine LE.p (v := (Value.float .f64 (Int.toNat (bOr .u64 (bAndNot .u64 (p0 : Int) (9223372036854775808 : Int)) (bAnd .u64 (p1 : Int) (9223372036854775808 : Int)))))) (Wn.no rfl) rfl (R.assign rfl) ?_
  refine LE.nil ?_
  refine WE.ret ?_
  exact ⟨_, (Res.tmp rfl Res.nil), _, rfl, h⟩
/-- The formula of math.NaN. -/
def F23  (K : Nat → World → Prop) (w0 : World) : Prop :=
K (Int.toNat (9221120237041090561 : Int)) w0
theorem F23_ok {w0 : World}  {K : Nat → World → Prop} (h : F23 K w0) : Calls Try.prog 23 #[] w0 (R23 K) := by
  refine calls_of_WE (args := []) (rs := [.tmp 0]) Try.func23 rfl (N := 2) rfl rfl rfl rfl ?_
  refine WE.seq ?_
  refine WE.reg ?_
  refine LE.p (v := (Value.float .f64 (0 : Nat))) (Wn.no rfl) rfl (R.assign rfl) ?_
  refine LE.nil ?_
  refine WE.seq ?_
  refine WE.reg ?_
  refine LE.p (v := (Value.float .f64 (Int.toNat (9221120237041090561 : Int)))) (Wn.no rfl) rfl (R.callx (xt46 (9221120237041090561 : Int)) (Ls.cons rfl Ls.nil) rfl) ?_
  refine LE.p (v := (Value.float .f64 (Int.toNat (9221120237041090561 : Int)))) (Wn.no rfl) rfl (R.assign rfl) ?_
  refine LE.nil ?_
  refine WE.ret ?_
  exact ⟨_, (Res.tmp rfl Res.nil), _, rfl, h⟩
end Go.Proofs.Ytnkpjlojijppiaa
