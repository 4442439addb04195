/-
  Printed by gen.py: the formula of each function, and that it holds of the function.
-/
import Derived.Test.YtecegjimdohmeaaTy
namespace Go.Proofs.Ytecegjimdohmeaa
set_option linter.unusedVariables false
set_option linter.unusedSimpArgs false
open Go.Sp
set_option linter.unusedVariables false
/-- The formula of signpost.signpostlaw16.NexthopChain. -/
def F3 (p0 : Int) (p1 : Int) (p2 : Nat) (p3 : Bool) (K : Bool → World → Prop) (w0 : World) : Prop :=
Calls Try.prog 6 #[(Value.int .i64 p0), (Value.int .i64 (0 : Int)), (Value.int .i64 (9 : Int))] w0 (R6 fun r1 w2 =>
Calls Try.prog 7 #[] w2 (R7 fun r3 w4 =>
M.ite (Option.isNone r3) (
K false w4) (
M.join (fun (x7 : Nat) (w21 : World) => 
M.loop2 (fun (J29 : Nat → Int → World → Prop) (x27 : Nat) (x28 : Int) (w30 : World) => 
M.ite (decide (x28 ≤ (IntKind.i64.wrap ((1 : Int) + r1)))) (
Calls Try.prog 8 #[(Value.int .u32 (bShl .u32 (IntKind.u32.wrap x28) (24 : Int))), (Value.int .i64 (8 : Int))] w30 (R8 fun r45 r46 w47 =>
M.new (.cells #[(Value.int .u32 (0 : Int)), (Value.int .i64 (0 : Int)), (Value.bool false), (Value.int .i64 (0 : Int)), (Value.int .u32 (0 : Int)), (Value.float .f64 (0 : Nat))] 32) w47 fun b49 w48 =>
M.stA b49 [(Value.int .u32 r45), (Value.int .i64 r46), (Value.bool false), (Value.int .i64 (0 : Int)), (Value.int .u32 (bShl .u32 (IntKind.u32.wrap (IntKind.i64.wrap (x28 + (1 : Int)))) (24 : Int))), (Value.float .f64 x7)] w48 fun w50 =>
M.join (fun (w72 : World) => 
M.join (fun (w107 : World) => 
∃ (t116 : Int) (t117 : Int) (t118 : Bool) (t119 : Int) (t120 : Int) (t121 : Nat), Cs w107 b49 0 [(Value.int .u32 t116), (Value.int .i64 t117), (Value.bool t118), (Value.int .i64 t119), (Value.int .u32 t120), (Value.float .f64 t121)] ∧
Calls Try.prog 9 #[(Value.pointer r3), (Value.agg #[(Value.int .u32 t116), (Value.int .i64 t117), (Value.bool t118), (Value.int .i64 t119), (Value.int .u32 t120), (Value.float .f64 t121)])] w107 (R9 fun r123 r124 w125 =>
M.ite (r124 != (0 : Int)) (
K false w125) (
M.fl .add x27 x7 fun r127 =>
J29 r127 (IntKind.i64.wrap (x28 + (1 : Int))) w125))) fun J81 => 
M.join (fun (x83 : Bool) (w86 : World) => 
M.ite x83 (
M.st (b49.add 4) (Value.int .u32 (0 : Int)) w86 fun w97 =>
M.st (b49.add 2) (Value.bool true) w97 fun w100 =>
M.st (b49.add 3) (Value.int .i64 (9 : Int)) w100 fun w103 =>
J81 w103) (
J81 w86)) fun J82 => 
M.ite (x28 == (IntKind.i64.wrap ((1 : Int) + r1))) (
J82 (!p3) w72) (
J82 false w72)) fun J52 => 
M.join (fun (x54 : Bool) (w57 : World) => 
M.ite x54 (
M.st (b49.add 4) (Value.int .u32 (16777216 : Int)) w57 fun w68 =>
J52 w68) (
J52 w57)) fun J53 => 
M.ite (x28 == (IntKind.i64.wrap ((1 : Int) + r1))) (
J53 p3 w50) (
J53 false w50))) (
Calls Try.prog 6 #[(Value.int .i64 p1), (Value.int .i64 (1 : Int)), (Value.int .i64 (8 : Int))] w30 (R6 fun r129 w130 =>
Calls Try.prog 10 #[(Value.pointer r3), (Value.int .u32 (16777221 : Int)), (Value.int .i64 r129)] w130 (R10 fun r131 r132 r133 w134 =>
M.new (.cells #[(Value.int .i64 (0 : Int)), (Value.float .f64 (0 : Nat))] 37) w134 fun b136 w135 =>
M.stA b136 [(Value.int .i64 r131), (Value.float .f64 r132)] w135 fun w137 =>
Calls Try.prog 11 #[(Value.pointer r3), (Value.int .u32 (16777221 : Int)), (Value.int .i64 r129)] w137 (R11 fun r139 w140 =>
M.ite (decide (r129 < (IntKind.i64.wrap ((1 : Int) + r1)))) (
M.join (fun (x143 : Bool) (w152 : World) => 
K x143 w152) fun J142 => 
M.ite (r133 == (27 : Int)) (
M.ite ((r139.len : Int) == r129) (
M.ld (Value.int .i64) b136 w140 fun t146 =>
M.ite (t146 == (0 : Int)) (
Calls Try.prog 12 #[] w140 (R12 fun r149 w150 =>
J142 r149 w150)) (
J142 false w140)) (
J142 false w140)) (
J142 false w140)) (
M.ite p3 (
M.join (fun (x156 : Bool) (w162 : World) => 
K x156 w162) fun J155 => 
M.ite (r133 == (26 : Int)) (
M.ite ((r139.len : Int) == (IntKind.i64.wrap ((1 : Int) + r1))) (
Calls Try.prog 12 #[] w140 (R12 fun r159 w160 =>
J155 r159 w160)) (
J155 false w140)) (
J155 false w140)) (
M.join (fun (x165 : Bool) (w177 : World) => 
K x165 w177) fun J164 => 
M.ite (r133 == (0 : Int)) (
M.ite ((r139.len : Int) == (IntKind.i64.wrap ((1 : Int) + r1))) (
M.ld (Value.int .i64) b136 w140 fun t168 =>
M.ite (t168 == (9 : Int)) (
M.ld (Value.float .f64) (b136.add 1) w140 fun t171 =>
M.ite (fEql t171 x27) (
Calls Try.prog 12 #[] w140 (R12 fun r174 w175 =>
J164 r174 w175)) (
J164 false w140)) (
J164 false w140)) (
J164 false w140)) (
J164 false w140)))))))) (0 : Nat) (1 : Int) w21) fun J6 => 
M.join (fun (x9 : Bool) (w12 : World) => 
M.ite x9 (
J6 (4611686018427387904 : Nat) w12) (
J6 p2 w12)) fun J8 => 
M.ite (fGeq p2 (0 : Nat)) (
J8 (!(fLeq p2 (4696837146684686336 : Nat))) w4) (
J8 (!false) w4))))
theorem F3_ok {w0 : World} {p0 : Int} {p1 : Int} {p2 : Nat} {p3 : Bool} {K : Bool → World → Prop} (h : F3 p0 p1 p2 p3 K w0) : Calls Try.prog 3 #[(Value.int .i64 p0), (Value.int .i64 p1), (Value.float .f64 p2), (Value.bool p3)] w0 (R3 K) := by
  refine calls_of_WE (args := [(Value.int .i64 p0), (Value.int .i64 p1), (Value.float .f64 p2), (Value.bool p3)]) (rs := [.tmp 8]) Try.func3 rfl (N := 139) rfl rfl rfl rfl ?_
  refine WE.seq ?_
  refine WE.reg ?_
  refine LE.p (v := (Value.bool false)) (Wn.no rfl) rfl (R.assign rfl) ?_
  refine LE.nil ?_
  refine WE.seq ?_
  refine WE.reg ?_
  refine LE.p (v := (Value.int .i64 p0)) (Wn.no rfl) rfl (R.move rfl) ?_
  refine LE.c (Wn.no rfl) rfl (R.call bd6 (Ls.cons rfl (Ls.cons rfl (Ls.cons rfl Ls.nil))) rfl) (Calls.mono h ?_)
  rintro _ w2 ⟨r1, rfl, h⟩
  refine ⟨_, rfl, ?_⟩
  refine LE.p (v := (Value.int .i64 (IntKind.i64.wrap ((1 : Int) + r1)))) (Wn.no rfl) rfl (R.add rfl rfl) ?_
  refine LE.p (v := (Value.int .i64 (IntKind.i64.wrap ((1 : Int) + r1)))) (Wn.no rfl) rfl (R.assign rfl) ?_
  refine LE.nil ?_
  refine WE.seq ?_
  refine WE.reg ?_
  refine LE.c (Wn.no rfl) rfl (R.call bd7 Ls.nil rfl) (Calls.mono h ?_)
  rintro _ w4 ⟨r3, rfl, h⟩
  refine ⟨_, rfl, ?_⟩
  refine LE.p (v := (Value.pointer r3)) (Wn.no rfl) rfl (R.assign rfl) ?_
  refine LE.nil ?_
  refine WE.seq ?_
  refine WE.seq ?_
  refine WE.reg ?_
  refine LE.p (v := (Value.pointer r3)) (Wn.no rfl) rfl (R.move rfl) ?_
  refine LE.p (v := (Value.bool (Option.isNone r3))) (Wn.no rfl) rfl (R.peqNil pt24 rfl rfl) ?_
  refine LE.nil ?_
  refine WE.condT rfl (b := (Option.isNone r3)) rfl ?_ ?_
  · intro hb5
    replace h := M.ite_t h hb5
    refine WE.seq ?_
    refine WE.reg ?_
    refine LE.p (v := (Value.bool false)) (Wn.no rfl) rfl (R.assign rfl) ?_
    refine LE.nil ?_
    refine WE.ret ?_
    exact ⟨_, (Res.tmp rfl Res.nil), _, rfl, h⟩
  · intro hb5
    replace h := M.ite_f h hb5
    refine WE.skip ?_
    obtain ⟨J6, hJ6, h⟩ := M.join_use h
    refine WE.join (fun e w => ∃ (x7 : Nat), J6 x7 w ∧ e 0 = (Value.int .i64 (IntKind.i64.wrap ((1 : Int) + r1))) ∧ e 1 = (Value.int .i64 p1) ∧ e 2 = (Value.float .f64 x7) ∧ e 3 = (Value.bool p3) ∧ e 9 = (Value.pointer r3)) ?_ ?_
    · clear hJ6
      refine WE.seq ?_
      obtain ⟨J8, hJ8, h⟩ := M.join_use h
      refine WE.regJ (fun e w => ∃ (x9 : Bool), J8 x9 w ∧ e 0 = (Value.int .i64 (IntKind.i64.wrap ((1 : Int) + r1))) ∧ e 1 = (Value.int .i64 p1) ∧ e 2 = (Value.float .f64 p2) ∧ e 3 = (Value.bool p3) ∧ e 9 = (Value.pointer r3) ∧ e 31 = (Value.bool x9)) ?_ ?_
      · clear hJ8
        refine LE.p (v := (Value.float .f64 p2)) (Wn.no rfl) rfl (R.move rfl) ?_
        refine LE.p (v := (Value.bool (fGeq p2 (0 : Nat)))) (Wn.no rfl) rfl (R.fgeq rfl rfl) ?_
        refine LE.p (v := (Value.bool (fGeq p2 (0 : Nat)))) (Wn.no rfl) rfl (R.move rfl) ?_
        rcases M.ite_use h with ⟨hb10, h⟩ | ⟨hb10, h⟩
        · refine LE.p (v := (Value.float .f64 p2)) (Wn.yes 2 27 true rfl rfl rfl (congrArg Value.bool hb10)) rfl (R.move rfl) ?_
          refine LE.p (v := (Value.bool (fLeq p2 (4696837146684686336 : Nat)))) (Wn.yes 2 27 true rfl rfl rfl (congrArg Value.bool hb10)) rfl (R.fleq rfl rfl) ?_
          refine LE.p (v := (Value.bool (fLeq p2 (4696837146684686336 : Nat)))) (Wn.no rfl) rfl (R.pickT (congrArg Value.bool hb10) rfl) ?_
          refine LE.p (v := (Value.bool (!(fLeq p2 (4696837146684686336 : Nat))))) (Wn.no rfl) rfl (R.not rfl) ?_
          refine LE.nil ?_
          exact ⟨_, h, rfl, rfl, rfl, rfl, rfl, rfl⟩
        · refine LE.u (Un.no 2 27 true rfl rfl rfl (congrArg Value.bool hb10)) ?_
          refine LE.u (Un.no 2 27 true rfl rfl rfl (congrArg Value.bool hb10)) ?_
          refine LE.p (v := (Value.bool false)) (Wn.no rfl) rfl (R.pickF (congrArg Value.bool hb10) rfl) ?_
          refine LE.p (v := (Value.bool (!false))) (Wn.no rfl) rfl (R.not rfl) ?_
          refine LE.nil ?_
          exact ⟨_, h, rfl, rfl, rfl, rfl, rfl, rfl⟩
      · rintro e11 w12 ⟨x9, h, f13, f14, f15, f16, f17, f18⟩
        subst hJ8
        refine WE.condT rfl (b := x9) f18 ?_ ?_
        · intro hb19
          replace h := M.ite_t h hb19
          refine WE.reg ?_
          refine LE.p (v := (Value.float .f64 (4611686018427387904 : Nat))) (Wn.no rfl) rfl (R.assign rfl) ?_
          refine LE.nil ?_
          exact ⟨_, h, f13, f14, rfl, f16, f17⟩
        · intro hb19
          replace h := M.ite_f h hb19
          refine WE.skip ?_
          exact ⟨_, h, f13, f14, f15, f16, f17⟩
    · rintro e20 w21 ⟨x7, h, f22, f23, f24, f25, f26⟩
      subst hJ6
      refine WE.seq ?_
      refine WE.reg ?_
      refine LE.p (v := (Value.float .f64 (0 : Nat))) (Wn.no rfl) rfl (R.assign rfl) ?_
      refine LE.nil ?_
      refine WE.seq ?_
      refine WE.seq ?_
      refine WE.reg ?_
      refine LE.p (v := (Value.int .i64 (1 : Int))) (Wn.no rfl) rfl (R.assign rfl) ?_
      refine LE.nil ?_
      refine WE.block ?_
      obtain ⟨I33, ⟨n32, h⟩, hr34⟩ := h
      refine WE.loop (fun n e w => ∃ (x27 : Nat) (x28 : Int), I33 n x27 x28 w ∧ e 0 = (Value.int .i64 (IntKind.i64.wrap ((1 : Int) + r1))) ∧ e 1 = (Value.int .i64 p1) ∧ e 2 = (Value.float .f64 x7) ∧ e 3 = (Value.bool p3) ∧ e 9 = (Value.pointer r3) ∧ e 10 = (Value.float .f64 x27) ∧ e 11 = (Value.int .i64 x28)) n32 ⟨_, _, h, f22, f23, f24, f25, f26, rfl, rfl⟩ ?_
      clear h
      rintro n32 e31 w30 ⟨x27, x28, h, f37, f38, f39, f40, f41, f42, f43⟩
      replace h := hr34 n32 x27 x28 w30 h
      refine WE.seq ?_
      refine WE.seq ?_
      refine WE.reg ?_
      refine LE.p (v := (Value.int .i64 x28)) (Wn.no rfl) rfl (R.move f43) ?_
      refine LE.p (v := (Value.int .i64 (IntKind.i64.wrap ((1 : Int) + r1)))) (Wn.no rfl) rfl (R.move f37) ?_
      refine LE.p (v := (Value.bool (decide (x28 ≤ (IntKind.i64.wrap ((1 : Int) + r1)))))) (Wn.no rfl) rfl (R.leq rfl rfl) ?_
      refine LE.nil ?_
      refine WE.condT rfl (b := (decide (x28 ≤ (IntKind.i64.wrap ((1 : Int) + r1))))) rfl ?_ ?_
      · intro hb44
        replace h := M.ite_t h hb44
        refine WE.skip ?_
        refine WE.seq ?_
        refine WE.block ?_
        refine WE.seq ?_
        refine WE.reg ?_
        refine LE.p (v := (Value.int .i64 x28)) (Wn.no rfl) rfl (R.move f43) ?_
        refine LE.p (v := (Value.int .u32 (IntKind.u32.wrap x28))) (Wn.no rfl) rfl (R.conv in26 in3 rfl) ?_
        refine LE.p (v := (Value.int .u32 (bShl .u32 (IntKind.u32.wrap x28) (24 : Int)))) (Wn.no rfl) rfl (R.shl rfl rfl (by decide)) ?_
        refine LE.c (Wn.no rfl) rfl (R.call bd8 (Ls.cons rfl (Ls.cons rfl Ls.nil)) rfl) (Calls.mono h ?_)
        rintro _ w47 ⟨r45, r46, rfl, h⟩
        refine ⟨_, rfl, ?_⟩
        refine LE.p (v := (Value.int .i64 x28)) (Wn.no rfl) rfl (R.move f43) ?_
        refine LE.p (v := (Value.int .i64 (IntKind.i64.wrap (x28 + (1 : Int))))) (Wn.no rfl) rfl (R.add rfl rfl) ?_
        refine LE.p (v := (Value.int .u32 (IntKind.u32.wrap (IntKind.i64.wrap (x28 + (1 : Int)))))) (Wn.no rfl) rfl (R.conv in26 in3 rfl) ?_
        refine LE.p (v := (Value.int .u32 (bShl .u32 (IntKind.u32.wrap (IntKind.i64.wrap (x28 + (1 : Int)))) (24 : Int)))) (Wn.no rfl) rfl (R.shl rfl rfl (by decide)) ?_
        refine LE.p (v := (Value.float .f64 x7)) (Wn.no rfl) rfl (R.move f39) ?_
        refine LE.p (v := (Value.agg #[(Value.int .u32 r45), (Value.int .i64 r46), (Value.bool false), (Value.int .i64 (0 : Int)), (Value.int .u32 (bShl .u32 (IntKind.u32.wrap (IntKind.i64.wrap (x28 + (1 : Int)))) (24 : Int))), (Value.float .f64 x7)])) (Wn.no rfl) rfl (R.bld (by exact (Ls.cons (R.Pr rfl) (Ls.cons (R.Pr rfl) (Ls.cons (R.Pr rfl) Ls.nil)))) (fun w => bu32_0_3_4 r45 r46 (bShl .u32 (IntKind.u32.wrap (IntKind.i64.wrap (x28 + (1 : Int)))) (24 : Int)) x7 w)) ?_
        obtain ⟨b49, hpb49, w48, hww48, h⟩ := M.new_use h
        refine LE.r (v := (Value.pointer (some b49))) (Wn.no rfl) rfl (R.alloc (cs := #[(Value.int .u32 (0 : Int)), (Value.int .i64 (0 : Int)), (Value.bool false), (Value.int .i64 (0 : Int)), (Value.int .u32 (0 : Int)), (Value.float .f64 (0 : Nat))]) ze32 rfl hpb49 hww48) ?_
        obtain ⟨w50, hww50, h51, h⟩ := M.stA_use h
        refine LE.s (Wn.no rfl) rfl (R.stA (a := b49) [(Value.int .u32 r45), (Value.int .i64 r46), (Value.bool false), (Value.int .i64 (0 : Int)), (Value.int .u32 (bShl .u32 (IntKind.u32.wrap (IntKind.i64.wrap (x28 + (1 : Int)))) (24 : Int))), (Value.float .f64 x7)] sz32 rfl rfl rfl (by simp [Value.oneCell']) h51 hww50) ?_
        refine LE.nil ?_
        obtain ⟨J52, hJ52, h⟩ := M.join_use h
        refine WE.join (fun e w => J52 w ∧ e 0 = (Value.int .i64 (IntKind.i64.wrap ((1 : Int) + r1))) ∧ e 1 = (Value.int .i64 p1) ∧ e 2 = (Value.float .f64 x7) ∧ e 3 = (Value.bool p3) ∧ e 9 = (Value.pointer r3) ∧ e 10 = (Value.float .f64 x27) ∧ e 11 = (Value.int .i64 x28) ∧ e 12 = (Value.pointer (some b49))) ?_ ?_
        · clear hJ52
          refine WE.seq ?_
          obtain ⟨J53, hJ53, h⟩ := M.join_use h
          refine WE.regJ (fun e w => ∃ (x54 : Bool), J53 x54 w ∧ e 0 = (Value.int .i64 (IntKind.i64.wrap ((1 : Int) + r1))) ∧ e 1 = (Value.int .i64 p1) ∧ e 2 = (Value.float .f64 x7) ∧ e 3 = (Value.bool p3) ∧ e 9 = (Value.pointer r3) ∧ e 10 = (Value.float .f64 x27) ∧ e 11 = (Value.int .i64 x28) ∧ e 12 = (Value.pointer (some b49)) ∧ e 52 = (Value.bool x54)) ?_ ?_
          · clear hJ53
            refine LE.p (v := (Value.int .i64 x28)) (Wn.no rfl) rfl (R.move f43) ?_
            refine LE.p (v := (Value.int .i64 (IntKind.i64.wrap ((1 : Int) + r1)))) (Wn.no rfl) rfl (R.move f37) ?_
            refine LE.p (v := (Value.bool (x28 == (IntKind.i64.wrap ((1 : Int) + r1))))) (Wn.no rfl) rfl (R.eql rfl rfl) ?_
            refine LE.p (v := (Value.bool (x28 == (IntKind.i64.wrap ((1 : Int) + r1))))) (Wn.no rfl) rfl (R.move rfl) ?_
            rcases M.ite_use h with ⟨hb55, h⟩ | ⟨hb55, h⟩
            · refine LE.p (v := (Value.bool p3)) (Wn.yes 3 50 true rfl rfl rfl (congrArg Value.bool hb55)) rfl (R.move f40) ?_
              refine LE.p (v := (Value.bool p3)) (Wn.no rfl) rfl (R.pickT (congrArg Value.bool hb55) rfl) ?_
              refine LE.nil ?_
              exact ⟨_, h, f37, f38, f39, f40, f41, f42, f43, rfl, rfl⟩
            · refine LE.u (Un.no 3 50 true rfl rfl rfl (congrArg Value.bool hb55)) ?_
              refine LE.p (v := (Value.bool false)) (Wn.no rfl) rfl (R.pickF (congrArg Value.bool hb55) rfl) ?_
              refine LE.nil ?_
              exact ⟨_, h, f37, f38, f39, f40, f41, f42, f43, rfl, rfl⟩
          · rintro e56 w57 ⟨x54, h, f58, f59, f60, f61, f62, f63, f64, f65, f66⟩
            subst hJ53
            refine WE.condT rfl (b := x54) f66 ?_ ?_
            · intro hb67
              replace h := M.ite_t h hb67
              refine WE.reg ?_
              refine LE.p (v := (Value.pointer (some (b49.add 4)))) (Wn.no rfl) rfl (R.fld (off := 4) fa32_3 f65) ?_
              obtain ⟨w68, hww68, h69, h70, h⟩ := M.st_use h
              refine LE.s (Wn.no rfl) rfl (R.st (a := (b49.add 4)) (v := (Value.int .u32 (16777216 : Int))) sz26 rfl rfl rfl rfl h69 h70 hww68) ?_
              refine LE.nil ?_
              exact ⟨h, f58, f59, f60, f61, f62, f63, f64, f65⟩
            · intro hb67
              replace h := M.ite_f h hb67
              refine WE.skip ?_
              exact ⟨h, f58, f59, f60, f61, f62, f63, f64, f65⟩
        · rintro e71 w72 ⟨h, f73, f74, f75, f76, f77, f78, f79, f80⟩
          subst hJ52
          obtain ⟨J81, hJ81, h⟩ := M.join_use h
          refine WE.join (fun e w => J81 w ∧ e 0 = (Value.int .i64 (IntKind.i64.wrap ((1 : Int) + r1))) ∧ e 1 = (Value.int .i64 p1) ∧ e 2 = (Value.float .f64 x7) ∧ e 3 = (Value.bool p3) ∧ e 9 = (Value.pointer r3) ∧ e 10 = (Value.float .f64 x27) ∧ e 11 = (Value.int .i64 x28) ∧ e 12 = (Value.pointer (some b49))) ?_ ?_
          · clear hJ81
            refine WE.seq ?_
            obtain ⟨J82, hJ82, h⟩ := M.join_use h
            refine WE.regJ (fun e w => ∃ (x83 : Bool), J82 x83 w ∧ e 0 = (Value.int .i64 (IntKind.i64.wrap ((1 : Int) + r1))) ∧ e 1 = (Value.int .i64 p1) ∧ e 2 = (Value.float .f64 x7) ∧ e 3 = (Value.bool p3) ∧ e 9 = (Value.pointer r3) ∧ e 10 = (Value.float .f64 x27) ∧ e 11 = (Value.int .i64 x28) ∧ e 12 = (Value.pointer (some b49)) ∧ e 60 = (Value.bool x83)) ?_ ?_
            · clear hJ82
              refine LE.p (v := (Value.int .i64 x28)) (Wn.no rfl) rfl (R.move f79) ?_
              refine LE.p (v := (Value.int .i64 (IntKind.i64.wrap ((1 : Int) + r1)))) (Wn.no rfl) rfl (R.move f73) ?_
              refine LE.p (v := (Value.bool (x28 == (IntKind.i64.wrap ((1 : Int) + r1))))) (Wn.no rfl) rfl (R.eql rfl rfl) ?_
              refine LE.p (v := (Value.bool (x28 == (IntKind.i64.wrap ((1 : Int) + r1))))) (Wn.no rfl) rfl (R.move rfl) ?_
              rcases M.ite_use h with ⟨hb84, h⟩ | ⟨hb84, h⟩
              · refine LE.p (v := (Value.bool p3)) (Wn.yes 3 57 true rfl rfl rfl (congrArg Value.bool hb84)) rfl (R.move f76) ?_
                refine LE.p (v := (Value.bool (!p3))) (Wn.yes 3 57 true rfl rfl rfl (congrArg Value.bool hb84)) rfl (R.not rfl) ?_
                refine LE.p (v := (Value.bool (!p3))) (Wn.no rfl) rfl (R.pickT (congrArg Value.bool hb84) rfl) ?_
                refine LE.nil ?_
                exact ⟨_, h, f73, f74, f75, f76, f77, f78, f79, f80, rfl⟩
              · refine LE.u (Un.no 3 57 true rfl rfl rfl (congrArg Value.bool hb84)) ?_
                refine LE.u (Un.no 3 57 true rfl rfl rfl (congrArg Value.bool hb84)) ?_
                refine LE.p (v := (Value.bool false)) (Wn.no rfl) rfl (R.pickF (congrArg Value.bool hb84) rfl) ?_
                refine LE.nil ?_
                exact ⟨_, h, f73, f74, f75, f76, f77, f78, f79, f80, rfl⟩
            · rintro e85 w86 ⟨x83, h, f87, f88, f89, f90, f91, f92, f93, f94, f95⟩
              subst hJ82
              refine WE.condT rfl (b := x83) f95 ?_ ?_
              · intro hb96
                replace h := M.ite_t h hb96
                refine WE.reg ?_
                refine LE.p (v := (Value.pointer (some (b49.add 4)))) (Wn.no rfl) rfl (R.fld (off := 4) fa32_3 f94) ?_
                obtain ⟨w97, hww97, h98, h99, h⟩ := M.st_use h
                refine LE.s (Wn.no rfl) rfl (R.st (a := (b49.add 4)) (v := (Value.int .u32 (0 : Int))) sz26 rfl rfl rfl rfl h98 h99 hww97) ?_
                refine LE.p (v := (Value.pointer (some (b49.add 2)))) (Wn.no rfl) rfl (R.fld (off := 2) fa32_1 f94) ?_
                obtain ⟨w100, hww100, h101, h102, h⟩ := M.st_use h
                refine LE.s (Wn.no rfl) rfl (R.st (a := (b49.add 2)) (v := (Value.bool true)) sz4 rfl rfl rfl rfl h101 h102 hww100) ?_
                refine LE.p (v := (Value.pointer (some (b49.add 3)))) (Wn.no rfl) rfl (R.fld (off := 3) fa32_2 f94) ?_
                obtain ⟨w103, hww103, h104, h105, h⟩ := M.st_use h
                refine LE.s (Wn.no rfl) rfl (R.st (a := (b49.add 3)) (v := (Value.int .i64 (9 : Int))) sz3 rfl rfl rfl rfl h104 h105 hww103) ?_
                refine LE.nil ?_
                exact ⟨h, f87, f88, f89, f90, f91, f92, f93, f94⟩
              · intro hb96
                replace h := M.ite_f h hb96
                refine WE.skip ?_
                exact ⟨h, f87, f88, f89, f90, f91, f92, f93, f94⟩
          · rintro e106 w107 ⟨h, f108, f109, f110, f111, f112, f113, f114, f115⟩
            subst hJ81
            refine WE.seq ?_
            refine WE.seq ?_
            refine WE.reg ?_
            refine LE.p (v := (Value.pointer r3)) (Wn.no rfl) rfl (R.move f112) ?_
            obtain ⟨t116, t117, t118, t119, t120, t121, h122, h⟩ := h
            refine LE.r (v := (Value.agg #[(Value.int .u32 t116), (Value.int .i64 t117), (Value.bool t118), (Value.int .i64 t119), (Value.int .u32 t120), (Value.float .f64 t121)])) (Wn.no rfl) rfl (R.ldA ag32 sz32 f115 rfl h122) ?_
            refine LE.c (Wn.no rfl) rfl (R.call bd9 (Ls.cons rfl (Ls.cons rfl Ls.nil)) rfl) (Calls.mono h ?_)
            rintro _ w125 ⟨r123, r124, rfl, h⟩
            refine ⟨_, rfl, ?_⟩
            refine LE.p (v := (Value.tuple #[(Value.bool r123), (Value.int .i64 r124)])) (Wn.no rfl) rfl (R.move rfl) ?_
            refine LE.p (v := (Value.bool r123)) (Wn.no rfl) rfl (R.ext rfl rfl) ?_
            refine LE.p (v := (Value.int .i64 r124)) (Wn.no rfl) rfl (R.ext rfl rfl) ?_
            refine LE.p (v := (Value.bool r123)) (Wn.no rfl) rfl (R.assign rfl) ?_
            refine LE.p (v := (Value.int .i64 r124)) (Wn.no rfl) rfl (R.assign rfl) ?_
            refine LE.nil ?_
            refine WE.seq ?_
            refine WE.reg ?_
            refine LE.p (v := (Value.int .i64 r124)) (Wn.no rfl) rfl (R.move rfl) ?_
            refine LE.p (v := (Value.bool (r124 != (0 : Int)))) (Wn.no rfl) rfl (R.neq rfl rfl) ?_
            refine LE.nil ?_
            refine WE.condT rfl (b := (r124 != (0 : Int))) rfl ?_ ?_
            · intro hb126
              replace h := M.ite_t h hb126
              refine WE.seq ?_
              refine WE.reg ?_
              refine LE.p (v := (Value.bool false)) (Wn.no rfl) rfl (R.assign rfl) ?_
              refine LE.nil ?_
              refine WE.ret ?_
              exact ⟨_, (Res.tmp rfl Res.nil), _, rfl, h⟩
            · intro hb126
              replace h := M.ite_f h hb126
              refine WE.skip ?_
              refine WE.reg ?_
              refine LE.p (v := (Value.float .f64 x27)) (Wn.no rfl) rfl (R.move f113) ?_
              refine LE.p (v := (Value.float .f64 x7)) (Wn.no rfl) rfl (R.move f110) ?_
              obtain ⟨r127, h128, h⟩ := h
              refine LE.p (v := (Value.float .f64 r127)) (Wn.no rfl) rfl (R.farith h128 rfl rfl) ?_
              refine LE.p (v := (Value.float .f64 r127)) (Wn.no rfl) rfl (R.assign rfl) ?_
              refine LE.nil ?_
              refine WE.reg ?_
              refine LE.p (v := (Value.int .i64 x28)) (Wn.no rfl) rfl (R.move f114) ?_
              refine LE.p (v := (Value.int .i64 (IntKind.i64.wrap (x28 + (1 : Int))))) (Wn.no rfl) rfl (R.add rfl rfl) ?_
              refine LE.p (v := (Value.int .i64 (IntKind.i64.wrap (x28 + (1 : Int))))) (Wn.no rfl) rfl (R.assign rfl) ?_
              refine LE.nil ?_
              obtain ⟨m35, hm36, h⟩ := h
              exact ⟨m35, hm36, _, _, h, f108, f109, f110, f111, f112, rfl, rfl⟩
      · intro hb44
        replace h := M.ite_f h hb44
        refine WE.exit ?_
        refine WE.seq ?_
        refine WE.reg ?_
        refine LE.p (v := (Value.int .i64 p1)) (Wn.no rfl) rfl (R.move f38) ?_
        refine LE.c (Wn.no rfl) rfl (R.call bd6 (Ls.cons rfl (Ls.cons rfl (Ls.cons rfl Ls.nil))) rfl) (Calls.mono h ?_)
        rintro _ w130 ⟨r129, rfl, h⟩
        refine ⟨_, rfl, ?_⟩
        refine LE.p (v := (Value.int .i64 r129)) (Wn.no rfl) rfl (R.assign rfl) ?_
        refine LE.nil ?_
        refine WE.seq ?_
        refine WE.reg ?_
        refine LE.p (v := (Value.pointer r3)) (Wn.no rfl) rfl (R.move f41) ?_
        refine LE.p (v := (Value.int .i64 r129)) (Wn.no rfl) rfl (R.move rfl) ?_
        refine LE.c (Wn.no rfl) rfl (R.call bd10 (Ls.cons rfl (Ls.cons rfl (Ls.cons rfl Ls.nil))) rfl) (Calls.mono h ?_)
        rintro _ w134 ⟨r131, r132, r133, rfl, h⟩
        refine ⟨_, rfl, ?_⟩
        refine LE.p (v := (Value.tuple #[(Value.agg #[(Value.int .i64 r131), (Value.float .f64 r132)]), (Value.int .i64 r133)])) (Wn.no rfl) rfl (R.move rfl) ?_
        refine LE.p (v := (Value.agg #[(Value.int .i64 r131), (Value.float .f64 r132)])) (Wn.no rfl) rfl (R.ext rfl rfl) ?_
        refine LE.p (v := (Value.int .i64 r133)) (Wn.no rfl) rfl (R.ext rfl rfl) ?_
        obtain ⟨b136, hpb136, w135, hww135, h⟩ := M.new_use h
        refine LE.r (v := (Value.pointer (some b136))) (Wn.no rfl) rfl (R.alloc (cs := #[(Value.int .i64 (0 : Int)), (Value.float .f64 (0 : Nat))]) ze37 rfl hpb136 hww135) ?_
        obtain ⟨w137, hww137, h138, h⟩ := M.stA_use h
        refine LE.s (Wn.no rfl) rfl (R.stA (a := b136) [(Value.int .i64 r131), (Value.float .f64 r132)] sz37 rfl rfl rfl (by simp [Value.oneCell']) h138 hww137) ?_
        refine LE.p (v := (Value.int .i64 r133)) (Wn.no rfl) rfl (R.assign rfl) ?_
        refine LE.nil ?_
        refine WE.seq ?_
        refine WE.reg ?_
        refine LE.p (v := (Value.pointer r3)) (Wn.no rfl) rfl (R.move f41) ?_
        refine LE.p (v := (Value.int .i64 r129)) (Wn.no rfl) rfl (R.move rfl) ?_
        refine LE.c (Wn.no rfl) rfl (R.call bd11 (Ls.cons rfl (Ls.cons rfl (Ls.cons rfl Ls.nil))) rfl) (Calls.mono h ?_)
        rintro _ w140 ⟨r139, rfl, h⟩
        refine ⟨_, rfl, ?_⟩
        refine LE.p (v := (Value.int .i64 (r139.len : Int))) (Wn.no rfl) rfl (R.len sl40 rfl) ?_
        refine LE.p (v := (Value.int .i64 (r139.len : Int))) (Wn.no rfl) rfl (R.assign rfl) ?_
        refine LE.nil ?_
        refine WE.seq ?_
        refine WE.block ?_
        refine WE.seq ?_
        refine WE.reg ?_
        refine LE.p (v := (Value.int .i64 (IntKind.i64.wrap ((1 : Int) + r1)))) (Wn.no rfl) rfl (R.move f37) ?_
        refine LE.p (v := (Value.int .i64 r129)) (Wn.no rfl) rfl (R.move rfl) ?_
        refine LE.p (v := (Value.bool (decide (r129 < (IntKind.i64.wrap ((1 : Int) + r1)))))) (Wn.no rfl) rfl (R.gtr rfl rfl) ?_
        refine LE.p (v := (Value.bool (decide (r129 < (IntKind.i64.wrap ((1 : Int) + r1)))))) (Wn.no rfl) rfl (R.assign rfl) ?_
        refine LE.nil ?_
        refine WE.condT rfl (b := (decide (r129 < (IntKind.i64.wrap ((1 : Int) + r1))))) rfl ?_ ?_
        · intro hb141
          replace h := M.ite_t h hb141
          refine WE.seq ?_
          obtain ⟨J142, hJ142, h⟩ := M.join_use h
          refine WE.regJ (fun e w => ∃ (x143 : Bool), J142 x143 w ∧ e 8 = (Value.bool x143)) ?_ ?_
          · clear hJ142
            refine LE.p (v := (Value.int .i64 r133)) (Wn.no rfl) rfl (R.move rfl) ?_
            refine LE.p (v := (Value.bool (r133 == (27 : Int)))) (Wn.no rfl) rfl (R.eql rfl rfl) ?_
            refine LE.p (v := (Value.bool (r133 == (27 : Int)))) (Wn.no rfl) rfl (R.move rfl) ?_
            rcases M.ite_use h with ⟨hb144, h⟩ | ⟨hb144, h⟩
            · refine LE.p (v := (Value.int .i64 (r139.len : Int))) (Wn.yes 2 93 true rfl rfl rfl (congrArg Value.bool hb144)) rfl (R.move rfl) ?_
              refine LE.p (v := (Value.int .i64 r129)) (Wn.yes 2 93 true rfl rfl rfl (congrArg Value.bool hb144)) rfl (R.move rfl) ?_
              refine LE.p (v := (Value.bool ((r139.len : Int) == r129))) (Wn.yes 2 93 true rfl rfl rfl (congrArg Value.bool hb144)) rfl (R.eql rfl rfl) ?_
              refine LE.p (v := (Value.bool ((r139.len : Int) == r129))) (Wn.no rfl) rfl (R.pickT (congrArg Value.bool hb144) rfl) ?_
              refine LE.p (v := (Value.bool ((r139.len : Int) == r129))) (Wn.no rfl) rfl (R.move rfl) ?_
              rcases M.ite_use h with ⟨hb145, h⟩ | ⟨hb145, h⟩
              · refine LE.p (v := (Value.pointer (some b136))) (Wn.yes 7 98 true rfl rfl rfl (congrArg Value.bool hb145)) rfl (R.fld (off := 0) fa37_0 rfl) ?_
                obtain ⟨t146, h147, h⟩ := h
                refine LE.r (v := (Value.int .i64 t146)) (Wn.yes 7 98 true rfl rfl rfl (congrArg Value.bool hb145)) rfl (R.ld sc3 rfl h147) ?_
                refine LE.p (v := (Value.bool (t146 == (0 : Int)))) (Wn.yes 7 98 true rfl rfl rfl (congrArg Value.bool hb145)) rfl (R.eql rfl rfl) ?_
                refine LE.p (v := (Value.bool (t146 == (0 : Int)))) (Wn.no rfl) rfl (R.pickT (congrArg Value.bool hb145) rfl) ?_
                refine LE.p (v := (Value.bool (t146 == (0 : Int)))) (Wn.no rfl) rfl (R.move rfl) ?_
                rcases M.ite_use h with ⟨hb148, h⟩ | ⟨hb148, h⟩
                · refine LE.c (Wn.yes 12 103 true rfl rfl rfl (congrArg Value.bool hb148)) rfl (R.call bd12 Ls.nil rfl) (Calls.mono h ?_)
                  rintro _ w150 ⟨r149, rfl, h⟩
                  refine ⟨_, rfl, ?_⟩
                  refine LE.p (v := (Value.bool r149)) (Wn.no rfl) rfl (R.pickT (congrArg Value.bool hb148) rfl) ?_
                  refine LE.p (v := (Value.bool r149)) (Wn.no rfl) rfl (R.assign rfl) ?_
                  refine LE.nil ?_
                  exact ⟨_, h, rfl⟩
                · refine LE.u (Un.no 12 103 true rfl rfl rfl (congrArg Value.bool hb148)) ?_
                  refine LE.p (v := (Value.bool false)) (Wn.no rfl) rfl (R.pickF (congrArg Value.bool hb148) rfl) ?_
                  refine LE.p (v := (Value.bool false)) (Wn.no rfl) rfl (R.assign rfl) ?_
                  refine LE.nil ?_
                  exact ⟨_, h, rfl⟩
              · refine LE.u (Un.no 7 98 true rfl rfl rfl (congrArg Value.bool hb145)) ?_
                refine LE.u (Un.no 7 98 true rfl rfl rfl (congrArg Value.bool hb145)) ?_
                refine LE.u (Un.no 7 98 true rfl rfl rfl (congrArg Value.bool hb145)) ?_
                refine LE.p (v := (Value.bool false)) (Wn.no rfl) rfl (R.pickF (congrArg Value.bool hb145) rfl) ?_
                refine LE.p (v := (Value.bool false)) (Wn.no rfl) rfl (R.move rfl) ?_
                refine LE.u (Un.no 12 103 true rfl rfl rfl rfl) ?_
                refine LE.p (v := (Value.bool false)) (Wn.no rfl) rfl (R.pickF rfl rfl) ?_
                refine LE.p (v := (Value.bool false)) (Wn.no rfl) rfl (R.assign rfl) ?_
                refine LE.nil ?_
                exact ⟨_, h, rfl⟩
            · refine LE.u (Un.no 2 93 true rfl rfl rfl (congrArg Value.bool hb144)) ?_
              refine LE.u (Un.no 2 93 true rfl rfl rfl (congrArg Value.bool hb144)) ?_
              refine LE.u (Un.no 2 93 true rfl rfl rfl (congrArg Value.bool hb144)) ?_
              refine LE.p (v := (Value.bool false)) (Wn.no rfl) rfl (R.pickF (congrArg Value.bool hb144) rfl) ?_
              refine LE.p (v := (Value.bool false)) (Wn.no rfl) rfl (R.move rfl) ?_
              refine LE.u (Un.no 7 98 true rfl rfl rfl rfl) ?_
              refine LE.u (Un.no 7 98 true rfl rfl rfl rfl) ?_
              refine LE.u (Un.no 7 98 true rfl rfl rfl rfl) ?_
              refine LE.p (v := (Value.bool false)) (Wn.no rfl) rfl (R.pickF rfl rfl) ?_
              refine LE.p (v := (Value.bool false)) (Wn.no rfl) rfl (R.move rfl) ?_
              refine LE.u (Un.no 12 103 true rfl rfl rfl rfl) ?_
              refine LE.p (v := (Value.bool false)) (Wn.no rfl) rfl (R.pickF rfl rfl) ?_
              refine LE.p (v := (Value.bool false)) (Wn.no rfl) rfl (R.assign rfl) ?_
              refine LE.nil ?_
              exact ⟨_, h, rfl⟩
          · rintro e151 w152 ⟨x143, h, f153⟩
            subst hJ142
            refine WE.ret ?_
            exact ⟨_, (Res.tmp f153 Res.nil), _, rfl, h⟩
        · intro hb141
          replace h := M.ite_f h hb141
          refine WE.seq ?_
          refine WE.reg ?_
          refine LE.p (v := (Value.bool p3)) (Wn.no rfl) rfl (R.move f40) ?_
          refine LE.p (v := (Value.bool p3)) (Wn.no rfl) rfl (R.assign rfl) ?_
          refine LE.nil ?_
          refine WE.condT rfl (b := p3) rfl ?_ ?_
          · intro hb154
            replace h := M.ite_t h hb154
            refine WE.seq ?_
            obtain ⟨J155, hJ155, h⟩ := M.join_use h
            refine WE.regJ (fun e w => ∃ (x156 : Bool), J155 x156 w ∧ e 8 = (Value.bool x156)) ?_ ?_
            · clear hJ155
              refine LE.p (v := (Value.int .i64 r133)) (Wn.no rfl) rfl (R.move rfl) ?_
              refine LE.p (v := (Value.bool (r133 == (26 : Int)))) (Wn.no rfl) rfl (R.eql rfl rfl) ?_
              refine LE.p (v := (Value.bool (r133 == (26 : Int)))) (Wn.no rfl) rfl (R.move rfl) ?_
              rcases M.ite_use h with ⟨hb157, h⟩ | ⟨hb157, h⟩
              · refine LE.p (v := (Value.int .i64 (r139.len : Int))) (Wn.yes 2 110 true rfl rfl rfl (congrArg Value.bool hb157)) rfl (R.move rfl) ?_
                refine LE.p (v := (Value.int .i64 (IntKind.i64.wrap ((1 : Int) + r1)))) (Wn.yes 2 110 true rfl rfl rfl (congrArg Value.bool hb157)) rfl (R.move f37) ?_
                refine LE.p (v := (Value.bool ((r139.len : Int) == (IntKind.i64.wrap ((1 : Int) + r1))))) (Wn.yes 2 110 true rfl rfl rfl (congrArg Value.bool hb157)) rfl (R.eql rfl rfl) ?_
                refine LE.p (v := (Value.bool ((r139.len : Int) == (IntKind.i64.wrap ((1 : Int) + r1))))) (Wn.no rfl) rfl (R.pickT (congrArg Value.bool hb157) rfl) ?_
                refine LE.p (v := (Value.bool ((r139.len : Int) == (IntKind.i64.wrap ((1 : Int) + r1))))) (Wn.no rfl) rfl (R.move rfl) ?_
                rcases M.ite_use h with ⟨hb158, h⟩ | ⟨hb158, h⟩
                · refine LE.c (Wn.yes 7 115 true rfl rfl rfl (congrArg Value.bool hb158)) rfl (R.call bd12 Ls.nil rfl) (Calls.mono h ?_)
                  rintro _ w160 ⟨r159, rfl, h⟩
                  refine ⟨_, rfl, ?_⟩
                  refine LE.p (v := (Value.bool r159)) (Wn.no rfl) rfl (R.pickT (congrArg Value.bool hb158) rfl) ?_
                  refine LE.p (v := (Value.bool r159)) (Wn.no rfl) rfl (R.assign rfl) ?_
                  refine LE.nil ?_
                  exact ⟨_, h, rfl⟩
                · refine LE.u (Un.no 7 115 true rfl rfl rfl (congrArg Value.bool hb158)) ?_
                  refine LE.p (v := (Value.bool false)) (Wn.no rfl) rfl (R.pickF (congrArg Value.bool hb158) rfl) ?_
                  refine LE.p (v := (Value.bool false)) (Wn.no rfl) rfl (R.assign rfl) ?_
                  refine LE.nil ?_
                  exact ⟨_, h, rfl⟩
              · refine LE.u (Un.no 2 110 true rfl rfl rfl (congrArg Value.bool hb157)) ?_
                refine LE.u (Un.no 2 110 true rfl rfl rfl (congrArg Value.bool hb157)) ?_
                refine LE.u (Un.no 2 110 true rfl rfl rfl (congrArg Value.bool hb157)) ?_
                refine LE.p (v := (Value.bool false)) (Wn.no rfl) rfl (R.pickF (congrArg Value.bool hb157) rfl) ?_
                refine LE.p (v := (Value.bool false)) (Wn.no rfl) rfl (R.move rfl) ?_
                refine LE.u (Un.no 7 115 true rfl rfl rfl rfl) ?_
                refine LE.p (v := (Value.bool false)) (Wn.no rfl) rfl (R.pickF rfl rfl) ?_
                refine LE.p (v := (Value.bool false)) (Wn.no rfl) rfl (R.assign rfl) ?_
                refine LE.nil ?_
                exact ⟨_, h, rfl⟩
            · rintro e161 w162 ⟨x156, h, f163⟩
              subst hJ155
              refine WE.ret ?_
              exact ⟨_, (Res.tmp f163 Res.nil), _, rfl, h⟩
          · intro hb154
            replace h := M.ite_f h hb154
            refine WE.skip ?_
            refine WE.seq ?_
            obtain ⟨J164, hJ164, h⟩ := M.join_use h
            refine WE.regJ (fun e w => ∃ (x165 : Bool), J164 x165 w ∧ e 8 = (Value.bool x165)) ?_ ?_
            · clear hJ164
              refine LE.p (v := (Value.int .i64 r133)) (Wn.no rfl) rfl (R.move rfl) ?_
              refine LE.p (v := (Value.bool (r133 == (0 : Int)))) (Wn.no rfl) rfl (R.eql rfl rfl) ?_
              refine LE.p (v := (Value.bool (r133 == (0 : Int)))) (Wn.no rfl) rfl (R.move rfl) ?_
              rcases M.ite_use h with ⟨hb166, h⟩ | ⟨hb166, h⟩
              · refine LE.p (v := (Value.int .i64 (r139.len : Int))) (Wn.yes 2 120 true rfl rfl rfl (congrArg Value.bool hb166)) rfl (R.move rfl) ?_
                refine LE.p (v := (Value.int .i64 (IntKind.i64.wrap ((1 : Int) + r1)))) (Wn.yes 2 120 true rfl rfl rfl (congrArg Value.bool hb166)) rfl (R.move f37) ?_
                refine LE.p (v := (Value.bool ((r139.len : Int) == (IntKind.i64.wrap ((1 : Int) + r1))))) (Wn.yes 2 120 true rfl rfl rfl (congrArg Value.bool hb166)) rfl (R.eql rfl rfl) ?_
                refine LE.p (v := (Value.bool ((r139.len : Int) == (IntKind.i64.wrap ((1 : Int) + r1))))) (Wn.no rfl) rfl (R.pickT (congrArg Value.bool hb166) rfl) ?_
                refine LE.p (v := (Value.bool ((r139.len : Int) == (IntKind.i64.wrap ((1 : Int) + r1))))) (Wn.no rfl) rfl (R.move rfl) ?_
                rcases M.ite_use h with ⟨hb167, h⟩ | ⟨hb167, h⟩
                · refine LE.p (v := (Value.pointer (some b136))) (Wn.yes 7 125 true rfl rfl rfl (congrArg Value.bool hb167)) rfl (R.fld (off := 0) fa37_0 rfl) ?_
                  obtain ⟨t168, h169, h⟩ := h
                  refine LE.r (v := (Value.int .i64 t168)) (Wn.yes 7 125 true rfl rfl rfl (congrArg Value.bool hb167)) rfl (R.ld sc3 rfl h169) ?_
                  refine LE.p (v := (Value.bool (t168 == (9 : Int)))) (Wn.yes 7 125 true rfl rfl rfl (congrArg Value.bool hb167)) rfl (R.eql rfl rfl) ?_
                  refine LE.p (v := (Value.bool (t168 == (9 : Int)))) (Wn.no rfl) rfl (R.pickT (congrArg Value.bool hb167) rfl) ?_
                  refine LE.p (v := (Value.bool (t168 == (9 : Int)))) (Wn.no rfl) rfl (R.move rfl) ?_
                  rcases M.ite_use h with ⟨hb170, h⟩ | ⟨hb170, h⟩
                  · refine LE.p (v := (Value.pointer (some (b136.add 1)))) (Wn.yes 12 130 true rfl rfl rfl (congrArg Value.bool hb170)) rfl (R.fld (off := 1) fa37_1 rfl) ?_
                    obtain ⟨t171, h172, h⟩ := h
                    refine LE.r (v := (Value.float .f64 t171)) (Wn.yes 12 130 true rfl rfl rfl (congrArg Value.bool hb170)) rfl (R.ld sc22 rfl h172) ?_
                    refine LE.p (v := (Value.float .f64 x27)) (Wn.yes 12 130 true rfl rfl rfl (congrArg Value.bool hb170)) rfl (R.move f42) ?_
                    refine LE.p (v := (Value.bool (fEql t171 x27))) (Wn.yes 12 130 true rfl rfl rfl (congrArg Value.bool hb170)) rfl (R.feql rfl rfl) ?_
                    refine LE.p (v := (Value.bool (fEql t171 x27))) (Wn.no rfl) rfl (R.pickT (congrArg Value.bool hb170) rfl) ?_
                    refine LE.p (v := (Value.bool (fEql t171 x27))) (Wn.no rfl) rfl (R.move rfl) ?_
                    rcases M.ite_use h with ⟨hb173, h⟩ | ⟨hb173, h⟩
                    · refine LE.c (Wn.yes 18 136 true rfl rfl rfl (congrArg Value.bool hb173)) rfl (R.call bd12 Ls.nil rfl) (Calls.mono h ?_)
                      rintro _ w175 ⟨r174, rfl, h⟩
                      refine ⟨_, rfl, ?_⟩
                      refine LE.p (v := (Value.bool r174)) (Wn.no rfl) rfl (R.pickT (congrArg Value.bool hb173) rfl) ?_
                      refine LE.p (v := (Value.bool r174)) (Wn.no rfl) rfl (R.assign rfl) ?_
                      refine LE.nil ?_
                      exact ⟨_, h, rfl⟩
                    · refine LE.u (Un.no 18 136 true rfl rfl rfl (congrArg Value.bool hb173)) ?_
                      refine LE.p (v := (Value.bool false)) (Wn.no rfl) rfl (R.pickF (congrArg Value.bool hb173) rfl) ?_
                      refine LE.p (v := (Value.bool false)) (Wn.no rfl) rfl (R.assign rfl) ?_
                      refine LE.nil ?_
                      exact ⟨_, h, rfl⟩
                  · refine LE.u (Un.no 12 130 true rfl rfl rfl (congrArg Value.bool hb170)) ?_
                    refine LE.u (Un.no 12 130 true rfl rfl rfl (congrArg Value.bool hb170)) ?_
                    refine LE.u (Un.no 12 130 true rfl rfl rfl (congrArg Value.bool hb170)) ?_
                    refine LE.u (Un.no 12 130 true rfl rfl rfl (congrArg Value.bool hb170)) ?_
                    refine LE.p (v := (Value.bool false)) (Wn.no rfl) rfl (R.pickF (congrArg Value.bool hb170) rfl) ?_
                    refine LE.p (v := (Value.bool false)) (Wn.no rfl) rfl (R.move rfl) ?_
                    refine LE.u (Un.no 18 136 true rfl rfl rfl rfl) ?_
                    refine LE.p (v := (Value.bool false)) (Wn.no rfl) rfl (R.pickF rfl rfl) ?_
                    refine LE.p (v := (Value.bool false)) (Wn.no rfl) rfl (R.assign rfl) ?_
                    refine LE.nil ?_
                    exact ⟨_, h, rfl⟩
                · refine LE.u (Un.no 7 125 true rfl rfl rfl (congrArg Value.bool hb167)) ?_
                  refine LE.u (Un.no 7 125 true rfl rfl rfl (congrArg Value.bool hb167)) ?_
                  refine LE.u (Un.no 7 125 true rfl rfl rfl (congrArg Value.bool hb167)) ?_
                  refine LE.p (v := (Value.bool false)) (Wn.no rfl) rfl (R.pickF (congrArg Value.bool hb167) rfl) ?_
                  refine LE.p (v := (Value.bool false)) (Wn.no rfl) rfl (R.move rfl) ?_
                  refine LE.u (Un.no 12 130 true rfl rfl rfl rfl) ?_
                  refine LE.u (Un.no 12 130 true rfl rfl rfl rfl) ?_
                  refine LE.u (Un.no 12 130 true rfl rfl rfl rfl) ?_
                  refine LE.u (Un.no 12 130 true rfl rfl rfl rfl) ?_
                  refine LE.p (v := (Value.bool false)) (Wn.no rfl) rfl (R.pickF rfl rfl) ?_
                  refine LE.p (v := (Value.bool false)) (Wn.no rfl) rfl (R.move rfl) ?_
                  refine LE.u (Un.no 18 136 true rfl rfl rfl rfl) ?_
                  refine LE.p (v := (Value.bool false)) (Wn.no rfl) rfl (R.pickF rfl rfl) ?_
                  refine LE.p (v := (Value.bool false)) (Wn.no rfl) rfl (R.assign rfl) ?_
                  refine LE.nil ?_
                  exact ⟨_, h, rfl⟩
              · refine LE.u (Un.no 2 120 true rfl rfl rfl (congrArg Value.bool hb166)) ?_
                refine LE.u (Un.no 2 120 true rfl rfl rfl (congrArg Value.bool hb166)) ?_
                refine LE.u (Un.no 2 120 true rfl rfl rfl (congrArg Value.bool hb166)) ?_
                refine LE.p (v := (Value.bool false)) (Wn.no rfl) rfl (R.pickF (congrArg Value.bool hb166) rfl) ?_
                refine LE.p (v := (Value.bool false)) (Wn.no rfl) rfl (R.move rfl) ?_
                refine LE.u (Un.no 7 125 true rfl rfl rfl rfl) ?_
                refine LE.u (Un.no 7 125 true rfl rfl rfl rfl) ?_
                refine LE.u (Un.no 7 125 true rfl rfl rfl rfl) ?_
                refine LE.p (v := (Value.bool false)) (Wn.no rfl) rfl (R.pickF rfl rfl) ?_
                refine LE.p (v := (Value.bool false)) (Wn.no rfl) rfl (R.move rfl) ?_
                refine LE.u (Un.no 12 130 true rfl rfl rfl rfl) ?_
                refine LE.u (Un.no 12 130 true rfl rfl rfl rfl) ?_
                refine LE.u (Un.no 12 130 true rfl rfl rfl rfl) ?_
                refine LE.u (Un.no 12 130 true rfl rfl rfl rfl) ?_
                refine LE.p (v := (Value.bool false)) (Wn.no rfl) rfl (R.pickF rfl rfl) ?_
                refine LE.p (v := (Value.bool false)) (Wn.no rfl) rfl (R.move rfl) ?_
                refine LE.u (Un.no 18 136 true rfl rfl rfl rfl) ?_
                refine LE.p (v := (Value.bool false)) (Wn.no rfl) rfl (R.pickF rfl rfl) ?_
                refine LE.p (v := (Value.bool false)) (Wn.no rfl) rfl (R.assign rfl) ?_
                refine LE.nil ?_
                exact ⟨_, h, rfl⟩
            · rintro e176 w177 ⟨x165, h, f178⟩
              subst hJ164
              refine WE.ret ?_
              exact ⟨_, (Res.tmp f178 Res.nil), _, rfl, h⟩
/-- The formula of signpost.signpostlaw16.NexthopDirect. -/
def F4 (p0 : SV) (p1 : Int) (p2 : Int) (p3 : Nat) (p4 : Int) (K : Bool → World → Prop) (w0 : World) : Prop :=
Calls Try.prog 13 #[(SV.v p0), (Value.bool true)] w0 (R13 fun r1 r2 w3 =>
M.ite (Option.isNone r1) (
K false w3) (
Calls Try.prog 14 #[(Value.int .u32 p1)] w3 (R14 fun r5 w6 =>
Calls Try.prog 6 #[(Value.int .i64 p2), (Value.int .i64 (0 : Int)), (Value.int .i64 (255 : Int))] w6 (R6 fun r7 w8 =>
M.join (fun (x10 : Nat) (w24 : World) => 
Calls Try.prog 9 #[(Value.pointer r1), (Value.agg #[(Value.int .u32 r5), (Value.int .i64 (32 : Int)), (Value.bool true), (Value.int .i64 r7), (Value.int .u32 (0 : Int)), (Value.float .f64 x10)])] w24 (R9 fun r30 r31 w32 =>
M.ite (r31 != (0 : Int)) (
K false w32) (
Calls Try.prog 6 #[(Value.int .i64 p4), (Value.int .i64 (1 : Int)), (Value.int .i64 (8 : Int))] w32 (R6 fun r34 w35 =>
Calls Try.prog 10 #[(Value.pointer r1), (Value.int .u32 r5), (Value.int .i64 r34)] w35 (R10 fun r36 r37 r38 w39 =>
M.new (.cells #[(Value.int .i64 (0 : Int)), (Value.float .f64 (0 : Nat))] 37) w39 fun b41 w40 =>
M.stA b41 [(Value.int .i64 r36), (Value.float .f64 r37)] w40 fun w42 =>
Calls Try.prog 11 #[(Value.pointer r1), (Value.int .u32 r5), (Value.int .i64 (1 : Int))] w42 (R11 fun r44 w45 =>
M.join (fun (x47 : Bool) (w68 : World) => 
K x47 w68) fun J46 => 
M.ite (r38 == (0 : Int)) (
M.ld (Value.int .i64) b41 w45 fun t49 =>
M.ite (t49 == r7) (
M.ld (Value.float .f64) (b41.add 1) w45 fun t52 =>
M.ite (fEql t52 x10) (
M.ite ((r44.len : Int) == (1 : Int)) (
M.idx r44 (0 : Int) 2 fun a56 =>
M.ld (Value.int .u32) (a56.add ((0 : Int).toNat * 2)) w45 fun t60 =>
M.ld (Value.int .i64) ((a56.add ((0 : Int).toNat * 2)).add 1) w45 fun t62 =>
M.ite ((t60 == r5) && (t62 == (32 : Int))) (
Calls Try.prog 12 #[] w45 (R12 fun r65 w66 =>
J46 r65 w66)) (
J46 false w45)) (
J46 false w45)) (
J46 false w45)) (
J46 false w45)) (
J46 false w45))))))) fun J9 => 
M.join (fun (x12 : Bool) (w15 : World) => 
M.ite x12 (
J9 (4616189618054758400 : Nat) w15) (
J9 p3 w15)) fun J11 => 
M.ite (fGeq p3 (0 : Nat)) (
J11 (!(fLss p3 (9094988921128908188 : Nat))) w8) (
J11 (!false) w8)))))
theorem F4_ok {w0 : World} {p0 : SV} {p1 : Int} {p2 : Int} {p3 : Nat} {p4 : Int} {K : Bool → World → Prop} (h : F4 p0 p1 p2 p3 p4 K w0) : Calls Try.prog 4 #[(SV.v p0), (Value.int .u32 p1), (Value.int .i64 p2), (Value.float .f64 p3), (Value.int .i64 p4)] w0 (R4 K) := by
  refine calls_of_WE (args := [(SV.v p0), (Value.int .u32 p1), (Value.int .i64 p2), (Value.float .f64 p3), (Value.int .i64 p4)]) (rs := [.tmp 10]) Try.func4 rfl (N := 90) rfl rfl rfl rfl ?_
  refine WE.seq ?_
  refine WE.reg ?_
  refine LE.p (v := (Value.bool false)) (Wn.no rfl) rfl (R.assign rfl) ?_
  refine LE.nil ?_
  refine WE.seq ?_
  refine WE.reg ?_
  refine LE.p (v := (SV.v p0)) (Wn.no rfl) rfl (R.move rfl) ?_
  refine LE.c (Wn.no rfl) rfl (R.call bd13 (Ls.cons rfl (Ls.cons rfl Ls.nil)) rfl) (Calls.mono h ?_)
  rintro _ w3 ⟨r1, r2, rfl, h⟩
  refine ⟨_, rfl, ?_⟩
  refine LE.p (v := (Value.tuple #[(Value.pointer r1), (Value.pointer r2)])) (Wn.no rfl) rfl (R.move rfl) ?_
  refine LE.p (v := (Value.pointer r1)) (Wn.no rfl) rfl (R.ext rfl rfl) ?_
  refine LE.p (v := (Value.pointer r2)) (Wn.no rfl) rfl (R.ext rfl rfl) ?_
  refine LE.p (v := (Value.pointer r1)) (Wn.no rfl) rfl (R.assign rfl) ?_
  refine LE.p (v := (Value.pointer r2)) (Wn.no rfl) rfl (R.assign rfl) ?_
  refine LE.nil ?_
  refine WE.seq ?_
  refine WE.seq ?_
  refine WE.reg ?_
  refine LE.p (v := (Value.pointer r1)) (Wn.no rfl) rfl (R.move rfl) ?_
  refine LE.p (v := (Value.bool (Option.isNone r1))) (Wn.no rfl) rfl (R.peqNil pt24 rfl rfl) ?_
  refine LE.nil ?_
  refine WE.condT rfl (b := (Option.isNone r1)) rfl ?_ ?_
  · intro hb4
    replace h := M.ite_t h hb4
    refine WE.seq ?_
    refine WE.reg ?_
    refine LE.p (v := (Value.bool false)) (Wn.no rfl) rfl (R.assign rfl) ?_
    refine LE.nil ?_
    refine WE.ret ?_
    exact ⟨_, (Res.tmp rfl Res.nil), _, rfl, h⟩
  · intro hb4
    replace h := M.ite_f h hb4
    refine WE.skip ?_
    refine WE.seq ?_
    refine WE.reg ?_
    refine LE.p (v := (Value.int .u32 p1)) (Wn.no rfl) rfl (R.move rfl) ?_
    refine LE.c (Wn.no rfl) rfl (R.call bd14 (Ls.cons rfl Ls.nil) rfl) (Calls.mono h ?_)
    rintro _ w6 ⟨r5, rfl, h⟩
    refine ⟨_, rfl, ?_⟩
    refine LE.p (v := (Value.int .u32 r5)) (Wn.no rfl) rfl (R.assign rfl) ?_
    refine LE.nil ?_
    refine WE.seq ?_
    refine WE.reg ?_
    refine LE.p (v := (Value.int .i64 p2)) (Wn.no rfl) rfl (R.move rfl) ?_
    refine LE.c (Wn.no rfl) rfl (R.call bd6 (Ls.cons rfl (Ls.cons rfl (Ls.cons rfl Ls.nil))) rfl) (Calls.mono h ?_)
    rintro _ w8 ⟨r7, rfl, h⟩
    refine ⟨_, rfl, ?_⟩
    refine LE.p (v := (Value.int .i64 r7)) (Wn.no rfl) rfl (R.assign rfl) ?_
    refine LE.nil ?_
    obtain ⟨J9, hJ9, h⟩ := M.join_use h
    refine WE.join (fun e w => ∃ (x10 : Nat), J9 x10 w ∧ e 1 = (Value.int .u32 r5) ∧ e 3 = (Value.float .f64 x10) ∧ e 4 = (Value.int .i64 p4) ∧ e 11 = (Value.pointer r1) ∧ e 13 = (Value.int .i64 r7)) ?_ ?_
    · clear hJ9
      refine WE.seq ?_
      obtain ⟨J11, hJ11, h⟩ := M.join_use h
      refine WE.regJ (fun e w => ∃ (x12 : Bool), J11 x12 w ∧ e 1 = (Value.int .u32 r5) ∧ e 3 = (Value.float .f64 p3) ∧ e 4 = (Value.int .i64 p4) ∧ e 11 = (Value.pointer r1) ∧ e 13 = (Value.int .i64 r7) ∧ e 36 = (Value.bool x12)) ?_ ?_
      · clear hJ11
        refine LE.p (v := (Value.float .f64 p3)) (Wn.no rfl) rfl (R.move rfl) ?_
        refine LE.p (v := (Value.bool (fGeq p3 (0 : Nat)))) (Wn.no rfl) rfl (R.fgeq rfl rfl) ?_
        refine LE.p (v := (Value.bool (fGeq p3 (0 : Nat)))) (Wn.no rfl) rfl (R.move rfl) ?_
        rcases M.ite_use h with ⟨hb13, h⟩ | ⟨hb13, h⟩
        · refine LE.p (v := (Value.float .f64 p3)) (Wn.yes 2 32 true rfl rfl rfl (congrArg Value.bool hb13)) rfl (R.move rfl) ?_
          refine LE.p (v := (Value.bool (fLss p3 (9094988921128908188 : Nat)))) (Wn.yes 2 32 true rfl rfl rfl (congrArg Value.bool hb13)) rfl (R.flss rfl rfl) ?_
          refine LE.p (v := (Value.bool (fLss p3 (9094988921128908188 : Nat)))) (Wn.no rfl) rfl (R.pickT (congrArg Value.bool hb13) rfl) ?_
          refine LE.p (v := (Value.bool (!(fLss p3 (9094988921128908188 : Nat))))) (Wn.no rfl) rfl (R.not rfl) ?_
          refine LE.nil ?_
          exact ⟨_, h, rfl, rfl, rfl, rfl, rfl, rfl⟩
        · refine LE.u (Un.no 2 32 true rfl rfl rfl (congrArg Value.bool hb13)) ?_
          refine LE.u (Un.no 2 32 true rfl rfl rfl (congrArg Value.bool hb13)) ?_
          refine LE.p (v := (Value.bool false)) (Wn.no rfl) rfl (R.pickF (congrArg Value.bool hb13) rfl) ?_
          refine LE.p (v := (Value.bool (!false))) (Wn.no rfl) rfl (R.not rfl) ?_
          refine LE.nil ?_
          exact ⟨_, h, rfl, rfl, rfl, rfl, rfl, rfl⟩
      · rintro e14 w15 ⟨x12, h, f16, f17, f18, f19, f20, f21⟩
        subst hJ11
        refine WE.condT rfl (b := x12) f21 ?_ ?_
        · intro hb22
          replace h := M.ite_t h hb22
          refine WE.reg ?_
          refine LE.p (v := (Value.float .f64 (4616189618054758400 : Nat))) (Wn.no rfl) rfl (R.assign rfl) ?_
          refine LE.nil ?_
          exact ⟨_, h, f16, rfl, f18, f19, f20⟩
        · intro hb22
          replace h := M.ite_f h hb22
          refine WE.skip ?_
          exact ⟨_, h, f16, f17, f18, f19, f20⟩
    · rintro e23 w24 ⟨x10, h, f25, f26, f27, f28, f29⟩
      subst hJ9
      refine WE.seq ?_
      refine WE.seq ?_
      refine WE.reg ?_
      refine LE.p (v := (Value.pointer r1)) (Wn.no rfl) rfl (R.move f28) ?_
      refine LE.p (v := (Value.int .u32 r5)) (Wn.no rfl) rfl (R.move f25) ?_
      refine LE.p (v := (Value.agg #[(Value.int .u32 r5), (Value.int .i64 (32 : Int))])) (Wn.no rfl) rfl (R.bld (by exact (Ls.cons (R.Pr rfl) (Ls.cons (R.Pr rfl) Ls.nil))) (fun w => bu28_0_1 r5 (32 : Int) w)) ?_
      refine LE.p (v := (Value.int .i64 r7)) (Wn.no rfl) rfl (R.move f29) ?_
      refine LE.p (v := (Value.float .f64 x10)) (Wn.no rfl) rfl (R.move f26) ?_
      refine LE.p (v := (Value.agg #[(Value.int .u32 r5), (Value.int .i64 (32 : Int)), (Value.bool true), (Value.int .i64 r7), (Value.int .u32 (0 : Int)), (Value.float .f64 x10)])) (Wn.no rfl) rfl (R.bld (by exact (Ls.cons (R.Pr rfl) (Ls.cons (R.Pr rfl) (Ls.cons (R.Pr rfl) (Ls.cons (R.Pr rfl) Ls.nil))))) (fun w => bu32_0_1_2_4 r5 (32 : Int) true r7 x10 w)) ?_
      refine LE.c (Wn.no rfl) rfl (R.call bd9 (Ls.cons rfl (Ls.cons rfl Ls.nil)) rfl) (Calls.mono h ?_)
      rintro _ w32 ⟨r30, r31, rfl, h⟩
      refine ⟨_, rfl, ?_⟩
      refine LE.p (v := (Value.tuple #[(Value.bool r30), (Value.int .i64 r31)])) (Wn.no rfl) rfl (R.move rfl) ?_
      refine LE.p (v := (Value.bool r30)) (Wn.no rfl) rfl (R.ext rfl rfl) ?_
      refine LE.p (v := (Value.int .i64 r31)) (Wn.no rfl) rfl (R.ext rfl rfl) ?_
      refine LE.p (v := (Value.bool r30)) (Wn.no rfl) rfl (R.assign rfl) ?_
      refine LE.p (v := (Value.int .i64 r31)) (Wn.no rfl) rfl (R.assign rfl) ?_
      refine LE.nil ?_
      refine WE.seq ?_
      refine WE.reg ?_
      refine LE.p (v := (Value.int .i64 r31)) (Wn.no rfl) rfl (R.move rfl) ?_
      refine LE.p (v := (Value.bool (r31 != (0 : Int)))) (Wn.no rfl) rfl (R.neq rfl rfl) ?_
      refine LE.nil ?_
      refine WE.condT rfl (b := (r31 != (0 : Int))) rfl ?_ ?_
      · intro hb33
        replace h := M.ite_t h hb33
        refine WE.seq ?_
        refine WE.reg ?_
        refine LE.p (v := (Value.bool false)) (Wn.no rfl) rfl (R.assign rfl) ?_
        refine LE.nil ?_
        refine WE.ret ?_
        exact ⟨_, (Res.tmp rfl Res.nil), _, rfl, h⟩
      · intro hb33
        replace h := M.ite_f h hb33
        refine WE.skip ?_
        refine WE.seq ?_
        refine WE.reg ?_
        refine LE.p (v := (Value.pointer r1)) (Wn.no rfl) rfl (R.move f28) ?_
        refine LE.p (v := (Value.int .u32 r5)) (Wn.no rfl) rfl (R.move f25) ?_
        refine LE.p (v := (Value.int .i64 p4)) (Wn.no rfl) rfl (R.move f27) ?_
        refine LE.c (Wn.no rfl) rfl (R.call bd6 (Ls.cons rfl (Ls.cons rfl (Ls.cons rfl Ls.nil))) rfl) (Calls.mono h ?_)
        rintro _ w35 ⟨r34, rfl, h⟩
        refine ⟨_, rfl, ?_⟩
        refine LE.c (Wn.no rfl) rfl (R.call bd10 (Ls.cons rfl (Ls.cons rfl (Ls.cons rfl Ls.nil))) rfl) (Calls.mono h ?_)
        rintro _ w39 ⟨r36, r37, r38, rfl, h⟩
        refine ⟨_, rfl, ?_⟩
        refine LE.p (v := (Value.tuple #[(Value.agg #[(Value.int .i64 r36), (Value.float .f64 r37)]), (Value.int .i64 r38)])) (Wn.no rfl) rfl (R.move rfl) ?_
        refine LE.p (v := (Value.agg #[(Value.int .i64 r36), (Value.float .f64 r37)])) (Wn.no rfl) rfl (R.ext rfl rfl) ?_
        refine LE.p (v := (Value.int .i64 r38)) (Wn.no rfl) rfl (R.ext rfl rfl) ?_
        obtain ⟨b41, hpb41, w40, hww40, h⟩ := M.new_use h
        refine LE.r (v := (Value.pointer (some b41))) (Wn.no rfl) rfl (R.alloc (cs := #[(Value.int .i64 (0 : Int)), (Value.float .f64 (0 : Nat))]) ze37 rfl hpb41 hww40) ?_
        obtain ⟨w42, hww42, h43, h⟩ := M.stA_use h
        refine LE.s (Wn.no rfl) rfl (R.stA (a := b41) [(Value.int .i64 r36), (Value.float .f64 r37)] sz37 rfl rfl rfl (by simp [Value.oneCell']) h43 hww42) ?_
        refine LE.p (v := (Value.int .i64 r38)) (Wn.no rfl) rfl (R.assign rfl) ?_
        refine LE.nil ?_
        refine WE.seq ?_
        refine WE.reg ?_
        refine LE.p (v := (Value.pointer r1)) (Wn.no rfl) rfl (R.move f28) ?_
        refine LE.p (v := (Value.int .u32 r5)) (Wn.no rfl) rfl (R.move f25) ?_
        refine LE.c (Wn.no rfl) rfl (R.call bd11 (Ls.cons rfl (Ls.cons rfl (Ls.cons rfl Ls.nil))) rfl) (Calls.mono h ?_)
        rintro _ w45 ⟨r44, rfl, h⟩
        refine ⟨_, rfl, ?_⟩
        refine LE.p (v := (SV.v r44)) (Wn.no rfl) rfl (R.assign rfl) ?_
        refine LE.nil ?_
        refine WE.seq ?_
        obtain ⟨J46, hJ46, h⟩ := M.join_use h
        refine WE.regJ (fun e w => ∃ (x47 : Bool), J46 x47 w ∧ e 10 = (Value.bool x47)) ?_ ?_
        · clear hJ46
          refine LE.p (v := (Value.int .i64 r38)) (Wn.no rfl) rfl (R.move rfl) ?_
          refine LE.p (v := (Value.bool (r38 == (0 : Int)))) (Wn.no rfl) rfl (R.eql rfl rfl) ?_
          refine LE.p (v := (Value.bool (r38 == (0 : Int)))) (Wn.no rfl) rfl (R.move rfl) ?_
          rcases M.ite_use h with ⟨hb48, h⟩ | ⟨hb48, h⟩
          · refine LE.p (v := (Value.pointer (some b41))) (Wn.yes 2 62 true rfl rfl rfl (congrArg Value.bool hb48)) rfl (R.fld (off := 0) fa37_0 rfl) ?_
            obtain ⟨t49, h50, h⟩ := h
            refine LE.r (v := (Value.int .i64 t49)) (Wn.yes 2 62 true rfl rfl rfl (congrArg Value.bool hb48)) rfl (R.ld sc3 rfl h50) ?_
            refine LE.p (v := (Value.int .i64 r7)) (Wn.yes 2 62 true rfl rfl rfl (congrArg Value.bool hb48)) rfl (R.move f29) ?_
            refine LE.p (v := (Value.bool (t49 == r7))) (Wn.yes 2 62 true rfl rfl rfl (congrArg Value.bool hb48)) rfl (R.eql rfl rfl) ?_
            refine LE.p (v := (Value.bool (t49 == r7))) (Wn.no rfl) rfl (R.pickT (congrArg Value.bool hb48) rfl) ?_
            refine LE.p (v := (Value.bool (t49 == r7))) (Wn.no rfl) rfl (R.move rfl) ?_
            rcases M.ite_use h with ⟨hb51, h⟩ | ⟨hb51, h⟩
            · refine LE.p (v := (Value.pointer (some (b41.add 1)))) (Wn.yes 8 68 true rfl rfl rfl (congrArg Value.bool hb51)) rfl (R.fld (off := 1) fa37_1 rfl) ?_
              obtain ⟨t52, h53, h⟩ := h
              refine LE.r (v := (Value.float .f64 t52)) (Wn.yes 8 68 true rfl rfl rfl (congrArg Value.bool hb51)) rfl (R.ld sc22 rfl h53) ?_
              refine LE.p (v := (Value.float .f64 x10)) (Wn.yes 8 68 true rfl rfl rfl (congrArg Value.bool hb51)) rfl (R.move f26) ?_
              refine LE.p (v := (Value.bool (fEql t52 x10))) (Wn.yes 8 68 true rfl rfl rfl (congrArg Value.bool hb51)) rfl (R.feql rfl rfl) ?_
              refine LE.p (v := (Value.bool (fEql t52 x10))) (Wn.no rfl) rfl (R.pickT (congrArg Value.bool hb51) rfl) ?_
              refine LE.p (v := (Value.bool (fEql t52 x10))) (Wn.no rfl) rfl (R.move rfl) ?_
              rcases M.ite_use h with ⟨hb54, h⟩ | ⟨hb54, h⟩
              · refine LE.p (v := (SV.v r44)) (Wn.yes 14 74 true rfl rfl rfl (congrArg Value.bool hb54)) rfl (R.move rfl) ?_
                refine LE.p (v := (Value.int .i64 (r44.len : Int))) (Wn.yes 14 74 true rfl rfl rfl (congrArg Value.bool hb54)) rfl (R.len sl40 rfl) ?_
                refine LE.p (v := (Value.bool ((r44.len : Int) == (1 : Int)))) (Wn.yes 14 74 true rfl rfl rfl (congrArg Value.bool hb54)) rfl (R.eql rfl rfl) ?_
                refine LE.p (v := (Value.bool ((r44.len : Int) == (1 : Int)))) (Wn.no rfl) rfl (R.pickT (congrArg Value.bool hb54) rfl) ?_
                refine LE.p (v := (Value.bool ((r44.len : Int) == (1 : Int)))) (Wn.no rfl) rfl (R.move rfl) ?_
                rcases M.ite_use h with ⟨hb55, h⟩ | ⟨hb55, h⟩
                · refine LE.p (v := (SV.v r44)) (Wn.yes 19 79 true rfl rfl rfl (congrArg Value.bool hb55)) rfl (R.move rfl) ?_
                  obtain ⟨a56, h57, h58, h59, h⟩ := h
                  refine LE.p (v := (Value.pointer (some (a56.add ((0 : Int).toNat * 2))))) (Wn.yes 19 79 true rfl rfl rfl (congrArg Value.bool hb55)) rfl (R.idx (s := r44) sl40 rfl rfl h57 h58 h59) ?_
                  obtain ⟨t60, h61, h⟩ := h
                  obtain ⟨t62, h63, h⟩ := h
                  refine LE.r (v := (Value.agg #[(Value.int .u32 t60), (Value.int .i64 t62)])) (Wn.yes 19 79 true rfl rfl rfl (congrArg Value.bool hb55)) rfl (R.ldA ag28 sz28 rfl rfl (Cs.cons h61 (Cs.cons h63 Cs.nil))) ?_
                  refine LE.p (v := (Value.int .u32 r5)) (Wn.yes 19 79 true rfl rfl rfl (congrArg Value.bool hb55)) rfl (R.move f25) ?_
                  refine LE.p (v := (Value.agg #[(Value.int .u32 r5), (Value.int .i64 (32 : Int))])) (Wn.yes 19 79 true rfl rfl rfl (congrArg Value.bool hb55)) rfl (R.bld (by exact (Ls.cons (R.Pr rfl) (Ls.cons (R.Pr rfl) Ls.nil))) (fun w => bu28_0_1 r5 (32 : Int) w)) ?_
                  refine LE.p (v := (Value.bool ((t60 == r5) && (t62 == (32 : Int))))) (Wn.yes 19 79 true rfl rfl rfl (congrArg Value.bool hb55)) rfl (R.eqS (fun w => eq28 t60 r5 t62 (32 : Int) w) sg28 rfl rfl) ?_
                  refine LE.p (v := (Value.bool ((t60 == r5) && (t62 == (32 : Int))))) (Wn.no rfl) rfl (R.pickT (congrArg Value.bool hb55) rfl) ?_
                  refine LE.p (v := (Value.bool ((t60 == r5) && (t62 == (32 : Int))))) (Wn.no rfl) rfl (R.move rfl) ?_
                  rcases M.ite_use h with ⟨hb64, h⟩ | ⟨hb64, h⟩
                  · refine LE.c (Wn.yes 27 87 true rfl rfl rfl (congrArg Value.bool hb64)) rfl (R.call bd12 Ls.nil rfl) (Calls.mono h ?_)
                    rintro _ w66 ⟨r65, rfl, h⟩
                    refine ⟨_, rfl, ?_⟩
                    refine LE.p (v := (Value.bool r65)) (Wn.no rfl) rfl (R.pickT (congrArg Value.bool hb64) rfl) ?_
                    refine LE.p (v := (Value.bool r65)) (Wn.no rfl) rfl (R.assign rfl) ?_
                    refine LE.nil ?_
                    exact ⟨_, h, rfl⟩
                  · refine LE.u (Un.no 27 87 true rfl rfl rfl (congrArg Value.bool hb64)) ?_
                    refine LE.p (v := (Value.bool false)) (Wn.no rfl) rfl (R.pickF (congrArg Value.bool hb64) rfl) ?_
                    refine LE.p (v := (Value.bool false)) (Wn.no rfl) rfl (R.assign rfl) ?_
                    refine LE.nil ?_
                    exact ⟨_, h, rfl⟩
                · refine LE.u (Un.no 19 79 true rfl rfl rfl (congrArg Value.bool hb55)) ?_
                  refine LE.u (Un.no 19 79 true rfl rfl rfl (congrArg Value.bool hb55)) ?_
                  refine LE.u (Un.no 19 79 true rfl rfl rfl (congrArg Value.bool hb55)) ?_
                  refine LE.u (Un.no 19 79 true rfl rfl rfl (congrArg Value.bool hb55)) ?_
                  refine LE.u (Un.no 19 79 true rfl rfl rfl (congrArg Value.bool hb55)) ?_
                  refine LE.u (Un.no 19 79 true rfl rfl rfl (congrArg Value.bool hb55)) ?_
                  refine LE.p (v := (Value.bool false)) (Wn.no rfl) rfl (R.pickF (congrArg Value.bool hb55) rfl) ?_
                  refine LE.p (v := (Value.bool false)) (Wn.no rfl) rfl (R.move rfl) ?_
                  refine LE.u (Un.no 27 87 true rfl rfl rfl rfl) ?_
                  refine LE.p (v := (Value.bool false)) (Wn.no rfl) rfl (R.pickF rfl rfl) ?_
                  refine LE.p (v := (Value.bool false)) (Wn.no rfl) rfl (R.assign rfl) ?_
                  refine LE.nil ?_
                  exact ⟨_, h, rfl⟩
              · refine LE.u (Un.no 14 74 true rfl rfl rfl (congrArg Value.bool hb54)) ?_
                refine LE.u (Un.no 14 74 true rfl rfl rfl (congrArg Value.bool hb54)) ?_
                refine LE.u (Un.no 14 74 true rfl rfl rfl (congrArg Value.bool hb54)) ?_
                refine LE.p (v := (Value.bool false)) (Wn.no rfl) rfl (R.pickF (congrArg Value.bool hb54) rfl) ?_
                refine LE.p (v := (Value.bool false)) (Wn.no rfl) rfl (R.move rfl) ?_
                refine LE.u (Un.no 19 79 true rfl rfl rfl rfl) ?_
                refine LE.u (Un.no 19 79 true rfl rfl rfl rfl) ?_
                refine LE.u (Un.no 19 79 true rfl rfl rfl rfl) ?_
                refine LE.u (Un.no 19 79 true rfl rfl rfl rfl) ?_
                refine LE.u (Un.no 19 79 true rfl rfl rfl rfl) ?_
                refine LE.u (Un.no 19 79 true rfl rfl rfl rfl) ?_
                refine LE.p (v := (Value.bool false)) (Wn.no rfl) rfl (R.pickF rfl rfl) ?_
                refine LE.p (v := (Value.bool false)) (Wn.no rfl) rfl (R.move rfl) ?_
                refine LE.u (Un.no 27 87 true rfl rfl rfl rfl) ?_
                refine LE.p (v := (Value.bool false)) (Wn.no rfl) rfl (R.pickF rfl rfl) ?_
                refine LE.p (v := (Value.bool false)) (Wn.no rfl) rfl (R.assign rfl) ?_
                refine LE.nil ?_
                exact ⟨_, h, rfl⟩
            · refine LE.u (Un.no 8 68 true rfl rfl rfl (congrArg Value.bool hb51)) ?_
              refine LE.u (Un.no 8 68 true rfl rfl rfl (congrArg Value.bool hb51)) ?_
              refine LE.u (Un.no 8 68 true rfl rfl rfl (congrArg Value.bool hb51)) ?_
              refine LE.u (Un.no 8 68 true rfl rfl rfl (congrArg Value.bool hb51)) ?_
              refine LE.p (v := (Value.bool false)) (Wn.no rfl) rfl (R.pickF (congrArg Value.bool hb51) rfl) ?_
              refine LE.p (v := (Value.bool false)) (Wn.no rfl) rfl (R.move rfl) ?_
              refine LE.u (Un.no 14 74 true rfl rfl rfl rfl) ?_
              refine LE.u (Un.no 14 74 true rfl rfl rfl rfl) ?_
              refine LE.u (Un.no 14 74 true rfl rfl rfl rfl) ?_
              refine LE.p (v := (Value.bool false)) (Wn.no rfl) rfl (R.pickF rfl rfl) ?_
              refine LE.p (v := (Value.bool false)) (Wn.no rfl) rfl (R.move rfl) ?_
              refine LE.u (Un.no 19 79 true rfl rfl rfl rfl) ?_
              refine LE.u (Un.no 19 79 true rfl rfl rfl rfl) ?_
              refine LE.u (Un.no 19 79 true rfl rfl rfl rfl) ?_
              refine LE.u (Un.no 19 79 true rfl rfl rfl rfl) ?_
              refine LE.u (Un.no 19 79 true rfl rfl rfl rfl) ?_
              refine LE.u (Un.no 19 79 true rfl rfl rfl rfl) ?_
              refine LE.p (v := (Value.bool false)) (Wn.no rfl) rfl (R.pickF rfl rfl) ?_
              refine LE.p (v := (Value.bool false)) (Wn.no rfl) rfl (R.move rfl) ?_
              refine LE.u (Un.no 27 87 true rfl rfl rfl rfl) ?_
              refine LE.p (v := (Value.bool false)) (Wn.no rfl) rfl (R.pickF rfl rfl) ?_
              refine LE.p (v := (Value.bool false)) (Wn.no rfl) rfl (R.assign rfl) ?_
              refine LE.nil ?_
              exact ⟨_, h, rfl⟩
          · refine LE.u (Un.no 2 62 true rfl rfl rfl (congrArg Value.bool hb48)) ?_
            refine LE.u (Un.no 2 62 true rfl rfl rfl (congrArg Value.bool hb48)) ?_
            refine LE.u (Un.no 2 62 true rfl rfl rfl (congrArg Value.bool hb48)) ?_
            refine LE.u (Un.no 2 62 true rfl rfl rfl (congrArg Value.bool hb48)) ?_
            refine LE.p (v := (Value.bool false)) (Wn.no rfl) rfl (R.pickF (congrArg Value.bool hb48) rfl) ?_
            refine LE.p (v := (Value.bool false)) (Wn.no rfl) rfl (R.move rfl) ?_
            refine LE.u (Un.no 8 68 true rfl rfl rfl rfl) ?_
            refine LE.u (Un.no 8 68 true rfl rfl rfl rfl) ?_
            refine LE.u (Un.no 8 68 true rfl rfl rfl rfl) ?_
            refine LE.u (Un.no 8 68 true rfl rfl rfl rfl) ?_
            refine LE.p (v := (Value.bool false)) (Wn.no rfl) rfl (R.pickF rfl rfl) ?_
            refine LE.p (v := (Value.bool false)) (Wn.no rfl) rfl (R.move rfl) ?_
            refine LE.u (Un.no 14 74 true rfl rfl rfl rfl) ?_
            refine LE.u (Un.no 14 74 true rfl rfl rfl rfl) ?_
            refine LE.u (Un.no 14 74 true rfl rfl rfl rfl) ?_
            refine LE.p (v := (Value.bool false)) (Wn.no rfl) rfl (R.pickF rfl rfl) ?_
            refine LE.p (v := (Value.bool false)) (Wn.no rfl) rfl (R.move rfl) ?_
            refine LE.u (Un.no 19 79 true rfl rfl rfl rfl) ?_
            refine LE.u (Un.no 19 79 true rfl rfl rfl rfl) ?_
            refine LE.u (Un.no 19 79 true rfl rfl rfl rfl) ?_
            refine LE.u (Un.no 19 79 true rfl rfl rfl rfl) ?_
            refine LE.u (Un.no 19 79 true rfl rfl rfl rfl) ?_
            refine LE.u (Un.no 19 79 true rfl rfl rfl rfl) ?_
            refine LE.p (v := (Value.bool false)) (Wn.no rfl) rfl (R.pickF rfl rfl) ?_
            refine LE.p (v := (Value.bool false)) (Wn.no rfl) rfl (R.move rfl) ?_
            refine LE.u (Un.no 27 87 true rfl rfl rfl rfl) ?_
            refine LE.p (v := (Value.bool false)) (Wn.no rfl) rfl (R.pickF rfl rfl) ?_
            refine LE.p (v := (Value.bool false)) (Wn.no rfl) rfl (R.assign rfl) ?_
            refine LE.nil ?_
            exact ⟨_, h, rfl⟩
        · rintro e67 w68 ⟨x47, h, f69⟩
          subst hJ46
          refine WE.ret ?_
          exact ⟨_, (Res.tmp f69 Res.nil), _, rfl, h⟩
/-- The formula of signpost.signpostlaw16.NexthopDepends. -/
def F5 (p0 : SV) (p1 : Int) (p2 : Int) (p3_0 : Int) (p3_1 : Int) (p3_2 : Bool) (p3_3 : Int) (p3_4 : Int) (p3_5 : Nat) (p4 : Bool) (K : Bool → World → Prop) (w0 : World) : Prop :=
M.new (.cells #[(Value.int .u32 p3_0), (Value.int .i64 p3_1), (Value.bool p3_2), (Value.int .i64 p3_3), (Value.int .u32 p3_4), (Value.float .f64 p3_5)] 32) w0 fun b2 w1 =>
Calls Try.prog 13 #[(SV.v p0), (Value.bool true)] w1 (R13 fun r3 r4 w5 =>
M.ite (Option.isNone r3) (
K false w5) (
Calls Try.prog 6 #[(Value.int .i64 p2), (Value.int .i64 (1 : Int)), (Value.int .i64 (8 : Int))] w5 (R6 fun r7 w8 =>
Calls Try.prog 14 #[(Value.int .u32 p1)] w8 (R14 fun r9 w10 =>
∃ (t11 : Int) (t12 : Int) (t13 : Bool) (t14 : Int) (t15 : Int) (t16 : Nat), Cs w10 b2 0 [(Value.int .u32 t11), (Value.int .i64 t12), (Value.bool t13), (Value.int .i64 t14), (Value.int .u32 t15), (Value.float .f64 t16)] ∧
Calls Try.prog 15 #[(Value.agg #[(Value.int .u32 t11), (Value.int .i64 t12), (Value.bool t13), (Value.int .i64 t14), (Value.int .u32 t15), (Value.float .f64 t16)])] w10 (R15 fun r18 r19 r20 r21 r22 r23 w24 =>
M.stA b2 [(Value.int .u32 r18), (Value.int .i64 r19), (Value.bool r20), (Value.int .i64 r21), (Value.int .u32 r22), (Value.float .f64 r23)] w24 fun w25 =>
Calls Try.prog 10 #[(Value.pointer r3), (Value.int .u32 r9), (Value.int .i64 r7)] w25 (R10 fun r27 r28 r29 w30 =>
M.new (.cells #[(Value.int .i64 (0 : Int)), (Value.float .f64 (0 : Nat))] 37) w30 fun b32 w31 =>
M.stA b32 [(Value.int .i64 r27), (Value.float .f64 r28)] w31 fun w33 =>
Calls Try.prog 11 #[(Value.pointer r3), (Value.int .u32 r9), (Value.int .i64 r7)] w33 (R11 fun r35 w36 =>
M.ld (Value.int .u32) b2 w36 fun t37 =>
M.ld (Value.int .i64) (b2.add 1) w36 fun t39 =>
Calls Try.prog 16 #[(Value.pointer r3), (Value.int .u32 r9), (Value.int .i64 r7), (Value.agg #[(Value.int .u32 t37), (Value.int .i64 t39)])] w36 (R16 fun r41 w42 =>
M.join (fun (w62 : World) => 
Calls Try.prog 10 #[(Value.pointer r3), (Value.int .u32 r9), (Value.int .i64 r7)] w62 (R10 fun r71 r72 r73 w74 =>
M.new (.cells #[(Value.int .i64 (0 : Int)), (Value.float .f64 (0 : Nat))] 37) w74 fun b76 w75 =>
M.stA b76 [(Value.int .i64 r71), (Value.float .f64 r72)] w75 fun w77 =>
M.ite r41 (
M.join (fun (x81 : Bool) (w92 : World) => 
K x81 w92) fun J80 => 
M.ld (Value.int .u32) b2 w77 fun t82 =>
M.ld (Value.int .i64) (b2.add 1) w77 fun t84 =>
Calls Try.prog 16 #[(Value.pointer r3), (Value.int .u32 r9), (Value.int .i64 r7), (Value.agg #[(Value.int .u32 t82), (Value.int .i64 t84)])] w77 (R16 fun r86 w87 =>
M.ite r86 (
Calls Try.prog 12 #[] w87 (R12 fun r89 w90 =>
J80 r89 w90)) (
J80 false w87))) (
M.join (fun (x95 : Bool) (w123 : World) => 
K x95 w123) fun J94 => 
M.drew w77 fun w96 => 
M.ld (Value.int .i64) b32 w96 fun t97 =>
M.ld (Value.int .i64) b76 w96 fun t99 =>
M.ite (t97 == t99) (
M.ld (Value.float .f64) (b32.add 1) w96 fun t102 =>
M.ld (Value.float .f64) (b76.add 1) w96 fun t104 =>
M.ite ((t102 : Int) == (t104 : Int)) (
M.ite (r29 == r73) (
Calls Try.prog 11 #[(Value.pointer r3), (Value.int .u32 r9), (Value.int .i64 r7)] w96 (R11 fun r108 w109 =>
Calls Try.prog 19 #[(SV.v r35), (SV.v r108)] w109 (R19 fun r110 w111 =>
M.ite r110 (
M.ld (Value.int .u32) b2 w111 fun t113 =>
M.ld (Value.int .i64) (b2.add 1) w111 fun t115 =>
Calls Try.prog 16 #[(Value.pointer r3), (Value.int .u32 r9), (Value.int .i64 r7), (Value.agg #[(Value.int .u32 t113), (Value.int .i64 t115)])] w111 (R16 fun r117 w118 =>
M.ite (!r117) (
Calls Try.prog 12 #[] w118 (R12 fun r120 w121 =>
J94 r120 w121)) (
J94 false w118))) (
J94 false w111)))) (
J94 false w96)) (
J94 false w96)) (
J94 false w96)))) fun J43 => 
M.ite p4 (
M.ld (Value.int .u32) b2 w42 fun t45 =>
M.ld (Value.int .i64) (b2.add 1) w42 fun t47 =>
Calls Try.prog 17 #[(Value.pointer r3), (Value.agg #[(Value.int .u32 t45), (Value.int .i64 t47)])] w42 (R17 fun r49 w50 =>
J43 w50)) (
∃ (t51 : Int) (t52 : Int) (t53 : Bool) (t54 : Int) (t55 : Int) (t56 : Nat), Cs w42 b2 0 [(Value.int .u32 t51), (Value.int .i64 t52), (Value.bool t53), (Value.int .i64 t54), (Value.int .u32 t55), (Value.float .f64 t56)] ∧
Calls Try.prog 9 #[(Value.pointer r3), (Value.agg #[(Value.int .u32 t51), (Value.int .i64 t52), (Value.bool t53), (Value.int .i64 t54), (Value.int .u32 t55), (Value.float .f64 t56)])] w42 (R9 fun r58 r59 w60 =>
J43 w60))))))))))
theorem F5_ok {w0 : World} {p0 : SV} {p1 : Int} {p2 : Int} {p3_0 : Int} {p3_1 : Int} {p3_2 : Bool} {p3_3 : Int} {p3_4 : Int} {p3_5 : Nat} {p4 : Bool} {K : Bool → World → Prop} (h : F5 p0 p1 p2 p3_0 p3_1 p3_2 p3_3 p3_4 p3_5 p4 K w0) : Calls Try.prog 5 #[(SV.v p0), (Value.int .u32 p1), (Value.int .i64 p2), (Value.agg #[(Value.int .u32 p3_0), (Value.int .i64 p3_1), (Value.bool p3_2), (Value.int .i64 p3_3), (Value.int .u32 p3_4), (Value.float .f64 p3_5)]), (Value.bool p4)] w0 (R5 K) := by
  refine calls_of_WE (args := [(SV.v p0), (Value.int .u32 p1), (Value.int .i64 p2), (Value.agg #[(Value.int .u32 p3_0), (Value.int .i64 p3_1), (Value.bool p3_2), (Value.int .i64 p3_3), (Value.int .u32 p3_4), (Value.float .f64 p3_5)]), (Value.bool p4)]) (rs := [.tmp 10]) Try.func5 rfl (N := 114) rfl rfl rfl rfl ?_
  refine WE.seq ?_
  refine WE.reg ?_
  obtain ⟨b2, hpb2, w1, hww1, h⟩ := M.new_use h
  refine LE.r (v := (Value.pointer (some b2))) (Wn.no rfl) rfl (R.box (cs := #[(Value.int .u32 p3_0), (Value.int .i64 p3_1), (Value.bool p3_2), (Value.int .i64 p3_3), (Value.int .u32 p3_4), (Value.float .f64 p3_5)]) rfl rfl hpb2 hww1) ?_
  refine LE.p (v := (Value.bool false)) (Wn.no rfl) rfl (R.assign rfl) ?_
  refine LE.nil ?_
  refine WE.seq ?_
  refine WE.reg ?_
  refine LE.p (v := (SV.v p0)) (Wn.no rfl) rfl (R.move rfl) ?_
  refine LE.c (Wn.no rfl) rfl (R.call bd13 (Ls.cons rfl (Ls.cons rfl Ls.nil)) rfl) (Calls.mono h ?_)
  rintro _ w5 ⟨r3, r4, rfl, h⟩
  refine ⟨_, rfl, ?_⟩
  refine LE.p (v := (Value.tuple #[(Value.pointer r3), (Value.pointer r4)])) (Wn.no rfl) rfl (R.move rfl) ?_
  refine LE.p (v := (Value.pointer r3)) (Wn.no rfl) rfl (R.ext rfl rfl) ?_
  refine LE.p (v := (Value.pointer r4)) (Wn.no rfl) rfl (R.ext rfl rfl) ?_
  refine LE.p (v := (Value.pointer r3)) (Wn.no rfl) rfl (R.assign rfl) ?_
  refine LE.p (v := (Value.pointer r4)) (Wn.no rfl) rfl (R.assign rfl) ?_
  refine LE.nil ?_
  refine WE.seq ?_
  refine WE.seq ?_
  refine WE.reg ?_
  refine LE.p (v := (Value.pointer r3)) (Wn.no rfl) rfl (R.move rfl) ?_
  refine LE.p (v := (Value.bool (Option.isNone r3))) (Wn.no rfl) rfl (R.peqNil pt24 rfl rfl) ?_
  refine LE.nil ?_
  refine WE.condT rfl (b := (Option.isNone r3)) rfl ?_ ?_
  · intro hb6
    replace h := M.ite_t h hb6
    refine WE.seq ?_
    refine WE.reg ?_
    refine LE.p (v := (Value.bool false)) (Wn.no rfl) rfl (R.assign rfl) ?_
    refine LE.nil ?_
    refine WE.ret ?_
    exact ⟨_, (Res.tmp rfl Res.nil), _, rfl, h⟩
  · intro hb6
    replace h := M.ite_f h hb6
    refine WE.skip ?_
    refine WE.seq ?_
    refine WE.reg ?_
    refine LE.p (v := (Value.int .i64 p2)) (Wn.no rfl) rfl (R.move rfl) ?_
    refine LE.c (Wn.no rfl) rfl (R.call bd6 (Ls.cons rfl (Ls.cons rfl (Ls.cons rfl Ls.nil))) rfl) (Calls.mono h ?_)
    rintro _ w8 ⟨r7, rfl, h⟩
    refine ⟨_, rfl, ?_⟩
    refine LE.p (v := (Value.int .i64 r7)) (Wn.no rfl) rfl (R.assign rfl) ?_
    refine LE.nil ?_
    refine WE.seq ?_
    refine WE.reg ?_
    refine LE.p (v := (Value.int .u32 p1)) (Wn.no rfl) rfl (R.move rfl) ?_
    refine LE.c (Wn.no rfl) rfl (R.call bd14 (Ls.cons rfl Ls.nil) rfl) (Calls.mono h ?_)
    rintro _ w10 ⟨r9, rfl, h⟩
    refine ⟨_, rfl, ?_⟩
    refine LE.p (v := (Value.int .u32 r9)) (Wn.no rfl) rfl (R.assign rfl) ?_
    refine LE.nil ?_
    refine WE.seq ?_
    refine WE.reg ?_
    obtain ⟨t11, t12, t13, t14, t15, t16, h17, h⟩ := h
    refine LE.r (v := (Value.agg #[(Value.int .u32 t11), (Value.int .i64 t12), (Value.bool t13), (Value.int .i64 t14), (Value.int .u32 t15), (Value.float .f64 t16)])) (Wn.no rfl) rfl (R.ldA ag32 sz32 rfl rfl h17) ?_
    refine LE.c (Wn.no rfl) rfl (R.call bd15 (Ls.cons rfl Ls.nil) rfl) (Calls.mono h ?_)
    rintro _ w24 ⟨r18, r19, r20, r21, r22, r23, rfl, h⟩
    refine ⟨_, rfl, ?_⟩
    obtain ⟨w25, hww25, h26, h⟩ := M.stA_use h
    refine LE.s (Wn.no rfl) rfl (R.stA (a := b2) [(Value.int .u32 r18), (Value.int .i64 r19), (Value.bool r20), (Value.int .i64 r21), (Value.int .u32 r22), (Value.float .f64 r23)] sz32 rfl rfl rfl (by simp [Value.oneCell']) h26 hww25) ?_
    refine LE.nil ?_
    refine WE.seq ?_
    refine WE.reg ?_
    refine LE.p (v := (Value.pointer r3)) (Wn.no rfl) rfl (R.move rfl) ?_
    refine LE.p (v := (Value.int .u32 r9)) (Wn.no rfl) rfl (R.move rfl) ?_
    refine LE.p (v := (Value.int .i64 r7)) (Wn.no rfl) rfl (R.move rfl) ?_
    refine LE.c (Wn.no rfl) rfl (R.call bd10 (Ls.cons rfl (Ls.cons rfl (Ls.cons rfl Ls.nil))) rfl) (Calls.mono h ?_)
    rintro _ w30 ⟨r27, r28, r29, rfl, h⟩
    refine ⟨_, rfl, ?_⟩
    refine LE.p (v := (Value.tuple #[(Value.agg #[(Value.int .i64 r27), (Value.float .f64 r28)]), (Value.int .i64 r29)])) (Wn.no rfl) rfl (R.move rfl) ?_
    refine LE.p (v := (Value.agg #[(Value.int .i64 r27), (Value.float .f64 r28)])) (Wn.no rfl) rfl (R.ext rfl rfl) ?_
    refine LE.p (v := (Value.int .i64 r29)) (Wn.no rfl) rfl (R.ext rfl rfl) ?_
    obtain ⟨b32, hpb32, w31, hww31, h⟩ := M.new_use h
    refine LE.r (v := (Value.pointer (some b32))) (Wn.no rfl) rfl (R.alloc (cs := #[(Value.int .i64 (0 : Int)), (Value.float .f64 (0 : Nat))]) ze37 rfl hpb32 hww31) ?_
    obtain ⟨w33, hww33, h34, h⟩ := M.stA_use h
    refine LE.s (Wn.no rfl) rfl (R.stA (a := b32) [(Value.int .i64 r27), (Value.float .f64 r28)] sz37 rfl rfl rfl (by simp [Value.oneCell']) h34 hww33) ?_
    refine LE.p (v := (Value.int .i64 r29)) (Wn.no rfl) rfl (R.assign rfl) ?_
    refine LE.nil ?_
    refine WE.seq ?_
    refine WE.reg ?_
    refine LE.p (v := (Value.pointer r3)) (Wn.no rfl) rfl (R.move rfl) ?_
    refine LE.p (v := (Value.int .u32 r9)) (Wn.no rfl) rfl (R.move rfl) ?_
    refine LE.p (v := (Value.int .i64 r7)) (Wn.no rfl) rfl (R.move rfl) ?_
    refine LE.c (Wn.no rfl) rfl (R.call bd11 (Ls.cons rfl (Ls.cons rfl (Ls.cons rfl Ls.nil))) rfl) (Calls.mono h ?_)
    rintro _ w36 ⟨r35, rfl, h⟩
    refine ⟨_, rfl, ?_⟩
    refine LE.p (v := (SV.v r35)) (Wn.no rfl) rfl (R.assign rfl) ?_
    refine LE.nil ?_
    refine WE.seq ?_
    refine WE.reg ?_
    refine LE.p (v := (Value.pointer r3)) (Wn.no rfl) rfl (R.move rfl) ?_
    refine LE.p (v := (Value.int .u32 r9)) (Wn.no rfl) rfl (R.move rfl) ?_
    refine LE.p (v := (Value.int .i64 r7)) (Wn.no rfl) rfl (R.move rfl) ?_
    refine LE.p (v := (Value.pointer (some b2))) (Wn.no rfl) rfl (R.fld (off := 0) fa32_0 rfl) ?_
    obtain ⟨t37, h38, h⟩ := h
    obtain ⟨t39, h40, h⟩ := h
    refine LE.r (v := (Value.agg #[(Value.int .u32 t37), (Value.int .i64 t39)])) (Wn.no rfl) rfl (R.ldA ag28 sz28 rfl rfl (Cs.cons h38 (Cs.cons h40 Cs.nil))) ?_
    refine LE.c (Wn.no rfl) rfl (R.call bd16 (Ls.cons rfl (Ls.cons rfl (Ls.cons rfl (Ls.cons rfl Ls.nil)))) rfl) (Calls.mono h ?_)
    rintro _ w42 ⟨r41, rfl, h⟩
    refine ⟨_, rfl, ?_⟩
    refine LE.p (v := (Value.bool r41)) (Wn.no rfl) rfl (R.assign rfl) ?_
    refine LE.nil ?_
    obtain ⟨J43, hJ43, h⟩ := M.join_use h
    refine WE.join (fun e w => J43 w ∧ e 1 = (Value.int .u32 r9) ∧ e 8 = (Value.pointer (some b2)) ∧ e 11 = (Value.pointer r3) ∧ e 13 = (Value.int .i64 r7) ∧ e 14 = (Value.pointer (some b32)) ∧ e 15 = (Value.int .i64 r29) ∧ e 16 = (SV.v r35) ∧ e 17 = (Value.bool r41)) ?_ ?_
    · clear hJ43
      refine WE.seq ?_
      refine WE.reg ?_
      refine LE.p (v := (Value.bool p4)) (Wn.no rfl) rfl (R.move rfl) ?_
      refine LE.nil ?_
      refine WE.condT rfl (b := p4) rfl ?_ ?_
      · intro hb44
        replace h := M.ite_t h hb44
        refine WE.reg ?_
        refine LE.p (v := (Value.pointer r3)) (Wn.no rfl) rfl (R.move rfl) ?_
        refine LE.p (v := (Value.pointer (some b2))) (Wn.no rfl) rfl (R.fld (off := 0) fa32_0 rfl) ?_
        obtain ⟨t45, h46, h⟩ := h
        obtain ⟨t47, h48, h⟩ := h
        refine LE.r (v := (Value.agg #[(Value.int .u32 t45), (Value.int .i64 t47)])) (Wn.no rfl) rfl (R.ldA ag28 sz28 rfl rfl (Cs.cons h46 (Cs.cons h48 Cs.nil))) ?_
        refine LE.c (Wn.no rfl) rfl (R.call bd17 (Ls.cons rfl (Ls.cons rfl Ls.nil)) rfl) (Calls.mono h ?_)
        rintro _ w50 ⟨r49, rfl, h⟩
        refine ⟨_, rfl, ?_⟩
        refine LE.nil ?_
        exact ⟨h, rfl, rfl, rfl, rfl, rfl, rfl, rfl, rfl⟩
      · intro hb44
        replace h := M.ite_f h hb44
        refine WE.reg ?_
        refine LE.p (v := (Value.pointer r3)) (Wn.no rfl) rfl (R.move rfl) ?_
        obtain ⟨t51, t52, t53, t54, t55, t56, h57, h⟩ := h
        refine LE.r (v := (Value.agg #[(Value.int .u32 t51), (Value.int .i64 t52), (Value.bool t53), (Value.int .i64 t54), (Value.int .u32 t55), (Value.float .f64 t56)])) (Wn.no rfl) rfl (R.ldA ag32 sz32 rfl rfl h57) ?_
        refine LE.c (Wn.no rfl) rfl (R.call bd9 (Ls.cons rfl (Ls.cons rfl Ls.nil)) rfl) (Calls.mono h ?_)
        rintro _ w60 ⟨r58, r59, rfl, h⟩
        refine ⟨_, rfl, ?_⟩
        refine LE.nil ?_
        exact ⟨h, rfl, rfl, rfl, rfl, rfl, rfl, rfl, rfl⟩
    · rintro e61 w62 ⟨h, f63, f64, f65, f66, f67, f68, f69, f70⟩
      subst hJ43
      refine WE.seq ?_
      refine WE.reg ?_
      refine LE.p (v := (Value.pointer r3)) (Wn.no rfl) rfl (R.move f65) ?_
      refine LE.p (v := (Value.int .u32 r9)) (Wn.no rfl) rfl (R.move f63) ?_
      refine LE.p (v := (Value.int .i64 r7)) (Wn.no rfl) rfl (R.move f66) ?_
      refine LE.c (Wn.no rfl) rfl (R.call bd10 (Ls.cons rfl (Ls.cons rfl (Ls.cons rfl Ls.nil))) rfl) (Calls.mono h ?_)
      rintro _ w74 ⟨r71, r72, r73, rfl, h⟩
      refine ⟨_, rfl, ?_⟩
      refine LE.p (v := (Value.tuple #[(Value.agg #[(Value.int .i64 r71), (Value.float .f64 r72)]), (Value.int .i64 r73)])) (Wn.no rfl) rfl (R.move rfl) ?_
      refine LE.p (v := (Value.agg #[(Value.int .i64 r71), (Value.float .f64 r72)])) (Wn.no rfl) rfl (R.ext rfl rfl) ?_
      refine LE.p (v := (Value.int .i64 r73)) (Wn.no rfl) rfl (R.ext rfl rfl) ?_
      obtain ⟨b76, hpb76, w75, hww75, h⟩ := M.new_use h
      refine LE.r (v := (Value.pointer (some b76))) (Wn.no rfl) rfl (R.alloc (cs := #[(Value.int .i64 (0 : Int)), (Value.float .f64 (0 : Nat))]) ze37 rfl hpb76 hww75) ?_
      obtain ⟨w77, hww77, h78, h⟩ := M.stA_use h
      refine LE.s (Wn.no rfl) rfl (R.stA (a := b76) [(Value.int .i64 r71), (Value.float .f64 r72)] sz37 rfl rfl rfl (by simp [Value.oneCell']) h78 hww77) ?_
      refine LE.p (v := (Value.int .i64 r73)) (Wn.no rfl) rfl (R.assign rfl) ?_
      refine LE.nil ?_
      refine WE.seq ?_
      refine WE.seq ?_
      refine WE.reg ?_
      refine LE.p (v := (Value.bool r41)) (Wn.no rfl) rfl (R.move f70) ?_
      refine LE.nil ?_
      refine WE.condT rfl (b := r41) rfl ?_ ?_
      · intro hb79
        replace h := M.ite_t h hb79
        refine WE.seq ?_
        obtain ⟨J80, hJ80, h⟩ := M.join_use h
        refine WE.regJ (fun e w => ∃ (x81 : Bool), J80 x81 w ∧ e 10 = (Value.bool x81)) ?_ ?_
        · clear hJ80
          refine LE.p (v := (Value.pointer r3)) (Wn.no rfl) rfl (R.move f65) ?_
          refine LE.p (v := (Value.int .u32 r9)) (Wn.no rfl) rfl (R.move f63) ?_
          refine LE.p (v := (Value.int .i64 r7)) (Wn.no rfl) rfl (R.move f66) ?_
          refine LE.p (v := (Value.pointer (some b2))) (Wn.no rfl) rfl (R.fld (off := 0) fa32_0 f64) ?_
          obtain ⟨t82, h83, h⟩ := h
          obtain ⟨t84, h85, h⟩ := h
          refine LE.r (v := (Value.agg #[(Value.int .u32 t82), (Value.int .i64 t84)])) (Wn.no rfl) rfl (R.ldA ag28 sz28 rfl rfl (Cs.cons h83 (Cs.cons h85 Cs.nil))) ?_
          refine LE.c (Wn.no rfl) rfl (R.call bd16 (Ls.cons rfl (Ls.cons rfl (Ls.cons rfl (Ls.cons rfl Ls.nil)))) rfl) (Calls.mono h ?_)
          rintro _ w87 ⟨r86, rfl, h⟩
          refine ⟨_, rfl, ?_⟩
          refine LE.p (v := (Value.bool r86)) (Wn.no rfl) rfl (R.move rfl) ?_
          rcases M.ite_use h with ⟨hb88, h⟩ | ⟨hb88, h⟩
          · refine LE.c (Wn.yes 6 72 true rfl rfl rfl (congrArg Value.bool hb88)) rfl (R.call bd12 Ls.nil rfl) (Calls.mono h ?_)
            rintro _ w90 ⟨r89, rfl, h⟩
            refine ⟨_, rfl, ?_⟩
            refine LE.p (v := (Value.bool r89)) (Wn.no rfl) rfl (R.pickT (congrArg Value.bool hb88) rfl) ?_
            refine LE.p (v := (Value.bool r89)) (Wn.no rfl) rfl (R.assign rfl) ?_
            refine LE.nil ?_
            exact ⟨_, h, rfl⟩
          · refine LE.u (Un.no 6 72 true rfl rfl rfl (congrArg Value.bool hb88)) ?_
            refine LE.p (v := (Value.bool false)) (Wn.no rfl) rfl (R.pickF (congrArg Value.bool hb88) rfl) ?_
            refine LE.p (v := (Value.bool false)) (Wn.no rfl) rfl (R.assign rfl) ?_
            refine LE.nil ?_
            exact ⟨_, h, rfl⟩
        · rintro e91 w92 ⟨x81, h, f93⟩
          subst hJ80
          refine WE.ret ?_
          exact ⟨_, (Res.tmp f93 Res.nil), _, rfl, h⟩
      · intro hb79
        replace h := M.ite_f h hb79
        refine WE.skip ?_
        refine WE.seq ?_
        obtain ⟨J94, hJ94, h⟩ := M.join_use h
        refine WE.drawJ (fun e w => ∃ (x95 : Bool), J94 x95 w ∧ e 10 = (Value.bool x95)) mix ?_ ?_
        · clear hJ94
          obtain ⟨w96, hww96, h⟩ := M.drew_use h
          rw [← hww96]
          clear hww96
          refine DE.t 0 (v := (Value.pointer (some b32))) rfl (by kernel_rfl) (Wn.no rfl) rfl (R.fld (off := 0) fa37_0 f67) ?_
          refine DE.t 2 (v := (Value.pointer (some b76))) rfl (by kernel_rfl) (Wn.no rfl) rfl (R.fld (off := 0) fa37_0 rfl) ?_
          obtain ⟨t97, h98, h⟩ := h
          refine DE.hold 1 (fun w => w.cell? b32 = some (Value.int .i64 t97)) (v := (Value.int .i64 t97)) rfl (by kernel_rfl) (Wn.no rfl) rfl h98 (fun w hs => R.ld sc3 rfl hs) ?_
          obtain ⟨t99, h100, h⟩ := h
          refine DE.main 3 (by kernel_rfl) ?_
          refine One.r 3 (v := (Value.int .i64 t99)) rfl (Wn.no rfl) rfl (R.ld sc3 rfl h100) (.inl rfl) ?_
          refine DE.t 4 (v := (Value.bool (t97 == t99))) rfl (by kernel_rfl) (Wn.no rfl) rfl (R.eql rfl rfl) ?_
          refine DE.t 5 (v := (Value.bool (t97 == t99))) rfl (by kernel_rfl) (Wn.no rfl) rfl (R.move rfl) ?_
          rcases M.ite_use h with ⟨hb101, h⟩ | ⟨hb101, h⟩
          · refine DE.t 6 (v := (Value.pointer (some (b32.add 1)))) rfl (by kernel_rfl) (Wn.yes 5 80 true rfl rfl rfl (congrArg Value.bool hb101)) rfl (R.fld (off := 1) fa37_1 f67) ?_
            refine DE.t 9 (v := (Value.pointer (some (b76.add 1)))) rfl (by kernel_rfl) (Wn.yes 5 80 true rfl rfl rfl (congrArg Value.bool hb101)) rfl (R.fld (off := 1) fa37_1 rfl) ?_
            obtain ⟨t102, h103, h⟩ := h
            refine DE.hold 7 (fun w => w.cell? (b32.add 1) = some (Value.float .f64 t102)) (v := (Value.float .f64 t102)) rfl (by kernel_rfl) (Wn.yes 5 80 true rfl rfl rfl (congrArg Value.bool hb101)) rfl h103 (fun w hs => R.ld sc22 rfl hs) ?_
            obtain ⟨t104, h105, h⟩ := h
            refine DE.hold 10 (fun w => w.cell? (b76.add 1) = some (Value.float .f64 t104)) (v := (Value.float .f64 t104)) rfl (by kernel_rfl) (Wn.yes 5 80 true rfl rfl rfl (congrArg Value.bool hb101)) rfl h105 (fun w hs => R.ld sc22 rfl hs) ?_
            refine DE.main 8 (by kernel_rfl) ?_
            refine One.r 8 (v := (Value.int .u64 (t102 : Int))) rfl (Wn.yes 5 80 true rfl rfl rfl (congrArg Value.bool hb101)) rfl (R.callx (xt18 t102) (by exact (Ls.cons rfl Ls.nil)) rfl _) (.inl rfl) ?_
            refine DE.main 11 (by kernel_rfl) ?_
            refine One.r 11 (v := (Value.int .u64 (t104 : Int))) rfl (Wn.yes 5 80 true rfl rfl rfl (congrArg Value.bool hb101)) rfl (R.callx (xt18 t104) (by exact (Ls.cons rfl Ls.nil)) rfl _) (.inl rfl) ?_
            refine DE.t 12 (v := (Value.bool ((t102 : Int) == (t104 : Int)))) rfl (by kernel_rfl) (Wn.yes 5 80 true rfl rfl rfl (congrArg Value.bool hb101)) rfl (R.eql rfl rfl) ?_
            refine DE.t 13 (v := (Value.bool ((t102 : Int) == (t104 : Int)))) rfl (by kernel_rfl) (Wn.no rfl) rfl (R.pickT (congrArg Value.bool hb101) rfl) ?_
            refine DE.t 14 (v := (Value.bool ((t102 : Int) == (t104 : Int)))) rfl (by kernel_rfl) (Wn.no rfl) rfl (R.move rfl) ?_
            rcases M.ite_use h with ⟨hb106, h⟩ | ⟨hb106, h⟩
            · refine DE.t 15 (v := (Value.int .i64 r29)) rfl (by kernel_rfl) (Wn.yes 14 89 true rfl rfl rfl (congrArg Value.bool hb106)) rfl (R.move f68) ?_
              refine DE.t 16 (v := (Value.int .i64 r73)) rfl (by kernel_rfl) (Wn.yes 14 89 true rfl rfl rfl (congrArg Value.bool hb106)) rfl (R.move rfl) ?_
              refine DE.t 17 (v := (Value.bool (r29 == r73))) rfl (by kernel_rfl) (Wn.yes 14 89 true rfl rfl rfl (congrArg Value.bool hb106)) rfl (R.eql rfl rfl) ?_
              refine DE.t 18 (v := (Value.bool (r29 == r73))) rfl (by kernel_rfl) (Wn.no rfl) rfl (R.pickT (congrArg Value.bool hb106) rfl) ?_
              refine DE.t 19 (v := (Value.bool (r29 == r73))) rfl (by kernel_rfl) (Wn.no rfl) rfl (R.move rfl) ?_
              rcases M.ite_use h with ⟨hb107, h⟩ | ⟨hb107, h⟩
              · refine DE.t 20 (v := (SV.v r35)) rfl (by kernel_rfl) (Wn.yes 19 94 true rfl rfl rfl (congrArg Value.bool hb107)) rfl (R.move f69) ?_
                refine DE.t 21 (v := (Value.pointer r3)) rfl (by kernel_rfl) (Wn.yes 19 94 true rfl rfl rfl (congrArg Value.bool hb107)) rfl (R.move f65) ?_
                refine DE.t 22 (v := (Value.int .u32 r9)) rfl (by kernel_rfl) (Wn.yes 19 94 true rfl rfl rfl (congrArg Value.bool hb107)) rfl (R.move f63) ?_
                refine DE.t 23 (v := (Value.int .i64 r7)) rfl (by kernel_rfl) (Wn.yes 19 94 true rfl rfl rfl (congrArg Value.bool hb107)) rfl (R.move f66) ?_
                refine DE.main 24 (by kernel_rfl) ?_
                refine One.c 24 rfl (Wn.yes 19 94 true rfl rfl rfl (congrArg Value.bool hb107)) rfl (R.call bd11 (Ls.cons rfl (Ls.cons rfl (Ls.cons rfl Ls.nil))) rfl) (Calls.mono h ?_)
                rintro _ w109 ⟨r108, rfl, h⟩
                refine ⟨_, rfl, ⟨aftT (by kernel_rfl), aftT (by kernel_rfl), aftT (by kernel_rfl), trivial⟩, ?_⟩
                refine DE.main 25 (by kernel_rfl) ?_
                refine One.c 25 rfl (Wn.yes 19 94 true rfl rfl rfl (congrArg Value.bool hb107)) rfl (R.call bd19 (Ls.cons rfl (Ls.cons rfl Ls.nil)) rfl) (Calls.mono h ?_)
                rintro _ w111 ⟨r110, rfl, h⟩
                refine ⟨_, rfl, ⟨aftT (by kernel_rfl), aftT (by kernel_rfl), aftT (by kernel_rfl), trivial⟩, ?_⟩
                refine DE.t 26 (v := (Value.bool r110)) rfl (by kernel_rfl) (Wn.no rfl) rfl (R.pickT (congrArg Value.bool hb107) rfl) ?_
                refine DE.t 27 (v := (Value.bool r110)) rfl (by kernel_rfl) (Wn.no rfl) rfl (R.move rfl) ?_
                rcases M.ite_use h with ⟨hb112, h⟩ | ⟨hb112, h⟩
                · refine DE.t 28 (v := (Value.pointer r3)) rfl (by kernel_rfl) (Wn.yes 27 102 true rfl rfl rfl (congrArg Value.bool hb112)) rfl (R.move f65) ?_
                  refine DE.t 29 (v := (Value.int .u32 r9)) rfl (by kernel_rfl) (Wn.yes 27 102 true rfl rfl rfl (congrArg Value.bool hb112)) rfl (R.move f63) ?_
                  refine DE.t 30 (v := (Value.int .i64 r7)) rfl (by kernel_rfl) (Wn.yes 27 102 true rfl rfl rfl (congrArg Value.bool hb112)) rfl (R.move f66) ?_
                  refine DE.t 31 (v := (Value.pointer (some b2))) rfl (by kernel_rfl) (Wn.yes 27 102 true rfl rfl rfl (congrArg Value.bool hb112)) rfl (R.fld (off := 0) fa32_0 f64) ?_
                  obtain ⟨t113, h114, h⟩ := h
                  obtain ⟨t115, h116, h⟩ := h
                  refine DE.main 32 (by kernel_rfl) ?_
                  refine One.r 32 (v := (Value.agg #[(Value.int .u32 t113), (Value.int .i64 t115)])) rfl (Wn.yes 27 102 true rfl rfl rfl (congrArg Value.bool hb112)) rfl (R.ldA ag28 sz28 rfl rfl (Cs.cons h114 (Cs.cons h116 Cs.nil))) (.inl rfl) ?_
                  refine DE.main 33 (by kernel_rfl) ?_
                  refine One.c 33 rfl (Wn.yes 27 102 true rfl rfl rfl (congrArg Value.bool hb112)) rfl (R.call bd16 (Ls.cons rfl (Ls.cons rfl (Ls.cons rfl (Ls.cons rfl Ls.nil)))) rfl) (Calls.mono h ?_)
                  rintro _ w118 ⟨r117, rfl, h⟩
                  refine ⟨_, rfl, ⟨aftT (by kernel_rfl), aftT (by kernel_rfl), aftT (by kernel_rfl), trivial⟩, ?_⟩
                  refine DE.t 34 (v := (Value.bool (!r117))) rfl (by kernel_rfl) (Wn.yes 27 102 true rfl rfl rfl (congrArg Value.bool hb112)) rfl (R.not rfl) ?_
                  refine DE.t 35 (v := (Value.bool (!r117))) rfl (by kernel_rfl) (Wn.no rfl) rfl (R.pickT (congrArg Value.bool hb112) rfl) ?_
                  refine DE.t 36 (v := (Value.bool (!r117))) rfl (by kernel_rfl) (Wn.no rfl) rfl (R.move rfl) ?_
                  rcases M.ite_use h with ⟨hb119, h⟩ | ⟨hb119, h⟩
                  · refine DE.main 37 (by kernel_rfl) ?_
                    refine One.c 37 rfl (Wn.yes 36 111 true rfl rfl rfl (congrArg Value.bool hb119)) rfl (R.call bd12 Ls.nil rfl) (Calls.mono h ?_)
                    rintro _ w121 ⟨r120, rfl, h⟩
                    refine ⟨_, rfl, ⟨aftT (by kernel_rfl), aftT (by kernel_rfl), aftT (by kernel_rfl), trivial⟩, ?_⟩
                    refine DE.t 38 (v := (Value.bool r120)) rfl (by kernel_rfl) (Wn.no rfl) rfl (R.pickT (congrArg Value.bool hb119) rfl) ?_
                    refine DE.t 39 (v := (Value.bool r120)) rfl (by kernel_rfl) (Wn.no rfl) rfl (R.assign rfl) ?_
                    refine DE.done (by kernel_rfl) ?_
                    exact ⟨_, h, rfl⟩
                  · refine DE.u 37 rfl (by kernel_rfl) (Un.no 36 111 true rfl rfl rfl (congrArg Value.bool hb119)) ?_
                    refine DE.t 38 (v := (Value.bool false)) rfl (by kernel_rfl) (Wn.no rfl) rfl (R.pickF (congrArg Value.bool hb119) rfl) ?_
                    refine DE.t 39 (v := (Value.bool false)) rfl (by kernel_rfl) (Wn.no rfl) rfl (R.assign rfl) ?_
                    refine DE.done (by kernel_rfl) ?_
                    exact ⟨_, h, rfl⟩
                · refine DE.u 28 rfl (by kernel_rfl) (Un.no 27 102 true rfl rfl rfl (congrArg Value.bool hb112)) ?_
                  refine DE.u 29 rfl (by kernel_rfl) (Un.no 27 102 true rfl rfl rfl (congrArg Value.bool hb112)) ?_
                  refine DE.u 30 rfl (by kernel_rfl) (Un.no 27 102 true rfl rfl rfl (congrArg Value.bool hb112)) ?_
                  refine DE.u 31 rfl (by kernel_rfl) (Un.no 27 102 true rfl rfl rfl (congrArg Value.bool hb112)) ?_
                  refine DE.u 32 rfl (by kernel_rfl) (Un.no 27 102 true rfl rfl rfl (congrArg Value.bool hb112)) ?_
                  refine DE.u 33 rfl (by kernel_rfl) (Un.no 27 102 true rfl rfl rfl (congrArg Value.bool hb112)) ?_
                  refine DE.u 34 rfl (by kernel_rfl) (Un.no 27 102 true rfl rfl rfl (congrArg Value.bool hb112)) ?_
                  refine DE.t 35 (v := (Value.bool false)) rfl (by kernel_rfl) (Wn.no rfl) rfl (R.pickF (congrArg Value.bool hb112) rfl) ?_
                  refine DE.t 36 (v := (Value.bool false)) rfl (by kernel_rfl) (Wn.no rfl) rfl (R.move rfl) ?_
                  refine DE.u 37 rfl (by kernel_rfl) (Un.no 36 111 true rfl rfl rfl rfl) ?_
                  refine DE.t 38 (v := (Value.bool false)) rfl (by kernel_rfl) (Wn.no rfl) rfl (R.pickF rfl rfl) ?_
                  refine DE.t 39 (v := (Value.bool false)) rfl (by kernel_rfl) (Wn.no rfl) rfl (R.assign rfl) ?_
                  refine DE.done (by kernel_rfl) ?_
                  exact ⟨_, h, rfl⟩
              · refine DE.u 20 rfl (by kernel_rfl) (Un.no 19 94 true rfl rfl rfl (congrArg Value.bool hb107)) ?_
                refine DE.u 21 rfl (by kernel_rfl) (Un.no 19 94 true rfl rfl rfl (congrArg Value.bool hb107)) ?_
                refine DE.u 22 rfl (by kernel_rfl) (Un.no 19 94 true rfl rfl rfl (congrArg Value.bool hb107)) ?_
                refine DE.u 23 rfl (by kernel_rfl) (Un.no 19 94 true rfl rfl rfl (congrArg Value.bool hb107)) ?_
                refine DE.u 24 rfl (by kernel_rfl) (Un.no 19 94 true rfl rfl rfl (congrArg Value.bool hb107)) ?_
                refine DE.u 25 rfl (by kernel_rfl) (Un.no 19 94 true rfl rfl rfl (congrArg Value.bool hb107)) ?_
                refine DE.t 26 (v := (Value.bool false)) rfl (by kernel_rfl) (Wn.no rfl) rfl (R.pickF (congrArg Value.bool hb107) rfl) ?_
                refine DE.t 27 (v := (Value.bool false)) rfl (by kernel_rfl) (Wn.no rfl) rfl (R.move rfl) ?_
                refine DE.u 28 rfl (by kernel_rfl) (Un.no 27 102 true rfl rfl rfl rfl) ?_
                refine DE.u 29 rfl (by kernel_rfl) (Un.no 27 102 true rfl rfl rfl rfl) ?_
                refine DE.u 30 rfl (by kernel_rfl) (Un.no 27 102 true rfl rfl rfl rfl) ?_
                refine DE.u 31 rfl (by kernel_rfl) (Un.no 27 102 true rfl rfl rfl rfl) ?_
                refine DE.u 32 rfl (by kernel_rfl) (Un.no 27 102 true rfl rfl rfl rfl) ?_
                refine DE.u 33 rfl (by kernel_rfl) (Un.no 27 102 true rfl rfl rfl rfl) ?_
                refine DE.u 34 rfl (by kernel_rfl) (Un.no 27 102 true rfl rfl rfl rfl) ?_
                refine DE.t 35 (v := (Value.bool false)) rfl (by kernel_rfl) (Wn.no rfl) rfl (R.pickF rfl rfl) ?_
                refine DE.t 36 (v := (Value.bool false)) rfl (by kernel_rfl) (Wn.no rfl) rfl (R.move rfl) ?_
                refine DE.u 37 rfl (by kernel_rfl) (Un.no 36 111 true rfl rfl rfl rfl) ?_
                refine DE.t 38 (v := (Value.bool false)) rfl (by kernel_rfl) (Wn.no rfl) rfl (R.pickF rfl rfl) ?_
                refine DE.t 39 (v := (Value.bool false)) rfl (by kernel_rfl) (Wn.no rfl) rfl (R.assign rfl) ?_
                refine DE.done (by kernel_rfl) ?_
                exact ⟨_, h, rfl⟩
            · refine DE.u 15 rfl (by kernel_rfl) (Un.no 14 89 true rfl rfl rfl (congrArg Value.bool hb106)) ?_
              refine DE.u 16 rfl (by kernel_rfl) (Un.no 14 89 true rfl rfl rfl (congrArg Value.bool hb106)) ?_
              refine DE.u 17 rfl (by kernel_rfl) (Un.no 14 89 true rfl rfl rfl (congrArg Value.bool hb106)) ?_
              refine DE.t 18 (v := (Value.bool false)) rfl (by kernel_rfl) (Wn.no rfl) rfl (R.pickF (congrArg Value.bool hb106) rfl) ?_
              refine DE.t 19 (v := (Value.bool false)) rfl (by kernel_rfl) (Wn.no rfl) rfl (R.move rfl) ?_
              refine DE.u 20 rfl (by kernel_rfl) (Un.no 19 94 true rfl rfl rfl rfl) ?_
              refine DE.u 21 rfl (by kernel_rfl) (Un.no 19 94 true rfl rfl rfl rfl) ?_
              refine DE.u 22 rfl (by kernel_rfl) (Un.no 19 94 true rfl rfl rfl rfl) ?_
              refine DE.u 23 rfl (by kernel_rfl) (Un.no 19 94 true rfl rfl rfl rfl) ?_
              refine DE.u 24 rfl (by kernel_rfl) (Un.no 19 94 true rfl rfl rfl rfl) ?_
              refine DE.u 25 rfl (by kernel_rfl) (Un.no 19 94 true rfl rfl rfl rfl) ?_
              refine DE.t 26 (v := (Value.bool false)) rfl (by kernel_rfl) (Wn.no rfl) rfl (R.pickF rfl rfl) ?_
              refine DE.t 27 (v := (Value.bool false)) rfl (by kernel_rfl) (Wn.no rfl) rfl (R.move rfl) ?_
              refine DE.u 28 rfl (by kernel_rfl) (Un.no 27 102 true rfl rfl rfl rfl) ?_
              refine DE.u 29 rfl (by kernel_rfl) (Un.no 27 102 true rfl rfl rfl rfl) ?_
              refine DE.u 30 rfl (by kernel_rfl) (Un.no 27 102 true rfl rfl rfl rfl) ?_
              refine DE.u 31 rfl (by kernel_rfl) (Un.no 27 102 true rfl rfl rfl rfl) ?_
              refine DE.u 32 rfl (by kernel_rfl) (Un.no 27 102 true rfl rfl rfl rfl) ?_
              refine DE.u 33 rfl (by kernel_rfl) (Un.no 27 102 true rfl rfl rfl rfl) ?_
              refine DE.u 34 rfl (by kernel_rfl) (Un.no 27 102 true rfl rfl rfl rfl) ?_
              refine DE.t 35 (v := (Value.bool false)) rfl (by kernel_rfl) (Wn.no rfl) rfl (R.pickF rfl rfl) ?_
              refine DE.t 36 (v := (Value.bool false)) rfl (by kernel_rfl) (Wn.no rfl) rfl (R.move rfl) ?_
              refine DE.u 37 rfl (by kernel_rfl) (Un.no 36 111 true rfl rfl rfl rfl) ?_
              refine DE.t 38 (v := (Value.bool false)) rfl (by kernel_rfl) (Wn.no rfl) rfl (R.pickF rfl rfl) ?_
              refine DE.t 39 (v := (Value.bool false)) rfl (by kernel_rfl) (Wn.no rfl) rfl (R.assign rfl) ?_
              refine DE.done (by kernel_rfl) ?_
              exact ⟨_, h, rfl⟩
          · refine DE.u 6 rfl (by kernel_rfl) (Un.no 5 80 true rfl rfl rfl (congrArg Value.bool hb101)) ?_
            refine DE.u 7 rfl (by kernel_rfl) (Un.no 5 80 true rfl rfl rfl (congrArg Value.bool hb101)) ?_
            refine DE.u 8 rfl (by kernel_rfl) (Un.no 5 80 true rfl rfl rfl (congrArg Value.bool hb101)) ?_
            refine DE.u 9 rfl (by kernel_rfl) (Un.no 5 80 true rfl rfl rfl (congrArg Value.bool hb101)) ?_
            refine DE.u 10 rfl (by kernel_rfl) (Un.no 5 80 true rfl rfl rfl (congrArg Value.bool hb101)) ?_
            refine DE.u 11 rfl (by kernel_rfl) (Un.no 5 80 true rfl rfl rfl (congrArg Value.bool hb101)) ?_
            refine DE.u 12 rfl (by kernel_rfl) (Un.no 5 80 true rfl rfl rfl (congrArg Value.bool hb101)) ?_
            refine DE.t 13 (v := (Value.bool false)) rfl (by kernel_rfl) (Wn.no rfl) rfl (R.pickF (congrArg Value.bool hb101) rfl) ?_
            refine DE.t 14 (v := (Value.bool false)) rfl (by kernel_rfl) (Wn.no rfl) rfl (R.move rfl) ?_
            refine DE.u 15 rfl (by kernel_rfl) (Un.no 14 89 true rfl rfl rfl rfl) ?_
            refine DE.u 16 rfl (by kernel_rfl) (Un.no 14 89 true rfl rfl rfl rfl) ?_
            refine DE.u 17 rfl (by kernel_rfl) (Un.no 14 89 true rfl rfl rfl rfl) ?_
            refine DE.t 18 (v := (Value.bool false)) rfl (by kernel_rfl) (Wn.no rfl) rfl (R.pickF rfl rfl) ?_
            refine DE.t 19 (v := (Value.bool false)) rfl (by kernel_rfl) (Wn.no rfl) rfl (R.move rfl) ?_
            refine DE.u 20 rfl (by kernel_rfl) (Un.no 19 94 true rfl rfl rfl rfl) ?_
            refine DE.u 21 rfl (by kernel_rfl) (Un.no 19 94 true rfl rfl rfl rfl) ?_
            refine DE.u 22 rfl (by kernel_rfl) (Un.no 19 94 true rfl rfl rfl rfl) ?_
            refine DE.u 23 rfl (by kernel_rfl) (Un.no 19 94 true rfl rfl rfl rfl) ?_
            refine DE.u 24 rfl (by kernel_rfl) (Un.no 19 94 true rfl rfl rfl rfl) ?_
            refine DE.u 25 rfl (by kernel_rfl) (Un.no 19 94 true rfl rfl rfl rfl) ?_
            refine DE.t 26 (v := (Value.bool false)) rfl (by kernel_rfl) (Wn.no rfl) rfl (R.pickF rfl rfl) ?_
            refine DE.t 27 (v := (Value.bool false)) rfl (by kernel_rfl) (Wn.no rfl) rfl (R.move rfl) ?_
            refine DE.u 28 rfl (by kernel_rfl) (Un.no 27 102 true rfl rfl rfl rfl) ?_
            refine DE.u 29 rfl (by kernel_rfl) (Un.no 27 102 true rfl rfl rfl rfl) ?_
            refine DE.u 30 rfl (by kernel_rfl) (Un.no 27 102 true rfl rfl rfl rfl) ?_
            refine DE.u 31 rfl (by kernel_rfl) (Un.no 27 102 true rfl rfl rfl rfl) ?_
            refine DE.u 32 rfl (by kernel_rfl) (Un.no 27 102 true rfl rfl rfl rfl) ?_
            refine DE.u 33 rfl (by kernel_rfl) (Un.no 27 102 true rfl rfl rfl rfl) ?_
            refine DE.u 34 rfl (by kernel_rfl) (Un.no 27 102 true rfl rfl rfl rfl) ?_
            refine DE.t 35 (v := (Value.bool false)) rfl (by kernel_rfl) (Wn.no rfl) rfl (R.pickF rfl rfl) ?_
            refine DE.t 36 (v := (Value.bool false)) rfl (by kernel_rfl) (Wn.no rfl) rfl (R.move rfl) ?_
            refine DE.u 37 rfl (by kernel_rfl) (Un.no 36 111 true rfl rfl rfl rfl) ?_
            refine DE.t 38 (v := (Value.bool false)) rfl (by kernel_rfl) (Wn.no rfl) rfl (R.pickF rfl rfl) ?_
            refine DE.t 39 (v := (Value.bool false)) rfl (by kernel_rfl) (Wn.no rfl) rfl (R.assign rfl) ?_
            refine DE.done (by kernel_rfl) ?_
            exact ⟨_, h, rfl⟩
        · rintro e122 w123 ⟨x95, h, f124⟩
          subst hJ94
          refine WE.ret ?_
          exact ⟨_, (Res.tmp f124 Res.nil), _, rfl, h⟩
/-- The formula of signpost.signpostbook.Within. -/
def F6 (p0 : Int) (p1 : Int) (p2 : Int) (K : Int → World → Prop) (w0 : World) : Prop :=
M.nz (IntKind.i64.wrap ((IntKind.i64.wrap (p2 - p1)) + (1 : Int))) <|
M.join (fun (x3 : Int) (w6 : World) => 
K (IntKind.i64.wrap (p1 + x3)) w6) fun J2 => 
M.ite (decide ((Int.tmod p0 (IntKind.i64.wrap ((IntKind.i64.wrap (p2 - p1)) + (1 : Int)))) < (0 : Int))) (
J2 (IntKind.i64.wrap ((IntKind.i64.wrap ((IntKind.i64.wrap ((Int.tmod p0 (IntKind.i64.wrap ((IntKind.i64.wrap (p2 - p1)) + (1 : Int)))) + p2)) - p1)) + (1 : Int))) w0) (
J2 (Int.tmod p0 (IntKind.i64.wrap ((IntKind.i64.wrap (p2 - p1)) + (1 : Int)))) w0)
theorem F6_ok {w0 : World} {p0 : Int} {p1 : Int} {p2 : Int} {K : Int → World → Prop} (h : F6 p0 p1 p2 K w0) : Calls Try.prog 6 #[(Value.int .i64 p0), (Value.int .i64 p1), (Value.int .i64 p2)] w0 (R6 K) := by
  refine calls_of_WE (args := [(Value.int .i64 p0), (Value.int .i64 p1), (Value.int .i64 p2)]) (rs := [.tmp 6]) Try.func6 rfl (N := 24) rfl rfl rfl rfl ?_
  refine WE.seq ?_
  refine WE.reg ?_
  refine LE.p (v := (Value.int .i64 (0 : Int))) (Wn.no rfl) rfl (R.assign rfl) ?_
  refine LE.nil ?_
  refine WE.seq ?_
  refine WE.reg ?_
  refine LE.p (v := (Value.int .i64 p0)) (Wn.no rfl) rfl (R.move rfl) ?_
  refine LE.p (v := (Value.int .i64 p2)) (Wn.no rfl) rfl (R.move rfl) ?_
  refine LE.p (v := (Value.int .i64 p1)) (Wn.no rfl) rfl (R.move rfl) ?_
  refine LE.p (v := (Value.int .i64 (IntKind.i64.wrap (p2 - p1)))) (Wn.no rfl) rfl (R.sub rfl rfl) ?_
  refine LE.p (v := (Value.int .i64 (IntKind.i64.wrap ((IntKind.i64.wrap (p2 - p1)) + (1 : Int))))) (Wn.no rfl) rfl (R.add rfl rfl) ?_
  obtain ⟨h1, h⟩ := h
  refine LE.p (v := (Value.int .i64 (Int.tmod p0 (IntKind.i64.wrap ((IntKind.i64.wrap (p2 - p1)) + (1 : Int)))))) (Wn.no rfl) rfl (R.rem rfl rfl h1) ?_
  refine LE.p (v := (Value.int .i64 (Int.tmod p0 (IntKind.i64.wrap ((IntKind.i64.wrap (p2 - p1)) + (1 : Int)))))) (Wn.no rfl) rfl (R.assign rfl) ?_
  refine LE.nil ?_
  obtain ⟨J2, hJ2, h⟩ := M.join_use h
  refine WE.join (fun e w => ∃ (x3 : Int), J2 x3 w ∧ e 0 = (Value.int .i64 x3) ∧ e 1 = (Value.int .i64 p1)) ?_ ?_
  · clear hJ2
    refine WE.seq ?_
    refine WE.reg ?_
    refine LE.p (v := (Value.int .i64 (Int.tmod p0 (IntKind.i64.wrap ((IntKind.i64.wrap (p2 - p1)) + (1 : Int)))))) (Wn.no rfl) rfl (R.move rfl) ?_
    refine LE.p (v := (Value.bool (decide ((Int.tmod p0 (IntKind.i64.wrap ((IntKind.i64.wrap (p2 - p1)) + (1 : Int)))) < (0 : Int))))) (Wn.no rfl) rfl (R.lss rfl rfl) ?_
    refine LE.nil ?_
    refine WE.condT rfl (b := (decide ((Int.tmod p0 (IntKind.i64.wrap ((IntKind.i64.wrap (p2 - p1)) + (1 : Int)))) < (0 : Int)))) rfl ?_ ?_
    · intro hb4
      replace h := M.ite_t h hb4
      refine WE.reg ?_
      refine LE.p (v := (Value.int .i64 (Int.tmod p0 (IntKind.i64.wrap ((IntKind.i64.wrap (p2 - p1)) + (1 : Int)))))) (Wn.no rfl) rfl (R.move rfl) ?_
      refine LE.p (v := (Value.int .i64 p2)) (Wn.no rfl) rfl (R.move rfl) ?_
      refine LE.p (v := (Value.int .i64 (IntKind.i64.wrap ((Int.tmod p0 (IntKind.i64.wrap ((IntKind.i64.wrap (p2 - p1)) + (1 : Int)))) + p2)))) (Wn.no rfl) rfl (R.add rfl rfl) ?_
      refine LE.p (v := (Value.int .i64 p1)) (Wn.no rfl) rfl (R.move rfl) ?_
      refine LE.p (v := (Value.int .i64 (IntKind.i64.wrap ((IntKind.i64.wrap ((Int.tmod p0 (IntKind.i64.wrap ((IntKind.i64.wrap (p2 - p1)) + (1 : Int)))) + p2)) - p1)))) (Wn.no rfl) rfl (R.sub rfl rfl) ?_
      refine LE.p (v := (Value.int .i64 (IntKind.i64.wrap ((IntKind.i64.wrap ((IntKind.i64.wrap ((Int.tmod p0 (IntKind.i64.wrap ((IntKind.i64.wrap (p2 - p1)) + (1 : Int)))) + p2)) - p1)) + (1 : Int))))) (Wn.no rfl) rfl (R.add rfl rfl) ?_
      refine LE.p (v := (Value.int .i64 (IntKind.i64.wrap ((IntKind.i64.wrap ((IntKind.i64.wrap ((Int.tmod p0 (IntKind.i64.wrap ((IntKind.i64.wrap (p2 - p1)) + (1 : Int)))) + p2)) - p1)) + (1 : Int))))) (Wn.no rfl) rfl (R.assign rfl) ?_
      refine LE.nil ?_
      exact ⟨_, h, rfl, rfl⟩
    · intro hb4
      replace h := M.ite_f h hb4
      refine WE.skip ?_
      exact ⟨_, h, rfl, rfl⟩
  · rintro e5 w6 ⟨x3, h, f7, f8⟩
    subst hJ2
    refine WE.seq ?_
    refine WE.reg ?_
    refine LE.p (v := (Value.int .i64 p1)) (Wn.no rfl) rfl (R.move f8) ?_
    refine LE.p (v := (Value.int .i64 x3)) (Wn.no rfl) rfl (R.move f7) ?_
    refine LE.p (v := (Value.int .i64 (IntKind.i64.wrap (p1 + x3)))) (Wn.no rfl) rfl (R.add rfl rfl) ?_
    refine LE.p (v := (Value.int .i64 (IntKind.i64.wrap (p1 + x3)))) (Wn.no rfl) rfl (R.assign rfl) ?_
    refine LE.nil ?_
    refine WE.ret ?_
    exact ⟨_, (Res.tmp rfl Res.nil), _, rfl, h⟩
/-- The formula of signpost.igp.New. -/
def F7  (K : Option Addr → World → Prop) (w0 : World) : Prop :=
Calls Try.prog 20 #[] w0 (R20 fun r1 w2 =>
Calls Try.prog 20 #[] w2 (R20 fun r3 w4 =>
M.new (.map #[] 0) w4 fun b6 w5 =>
M.new (.cells #[(Value.pointer r1), (Value.pointer r3), (Value.map (some (Addr.block b6)))] 61) w5 fun b8 w7 =>
K (some b8) w7))
theorem F7_ok {w0 : World}  {K : Option Addr → World → Prop} (h : F7 K w0) : Calls Try.prog 7 #[] w0 (R7 K) := by
  refine calls_of_WE (args := []) (rs := [.tmp 0]) Try.func7 rfl (N := 6) rfl rfl rfl rfl ?_
  refine WE.seq ?_
  refine WE.reg ?_
  refine LE.p (v := (Value.pointer (none : Option Addr))) (Wn.no rfl) rfl (R.assign rfl) ?_
  refine LE.nil ?_
  refine WE.seq ?_
  refine WE.reg ?_
  refine LE.c (Wn.no rfl) rfl (R.call bd20 Ls.nil rfl) (Calls.mono h ?_)
  rintro _ w2 ⟨r1, rfl, h⟩
  refine ⟨_, rfl, ?_⟩
  refine LE.c (Wn.no rfl) rfl (R.call bd20 Ls.nil rfl) (Calls.mono h ?_)
  rintro _ w4 ⟨r3, rfl, h⟩
  refine ⟨_, rfl, ?_⟩
  obtain ⟨b6, hpb6, w5, hww5, h⟩ := M.new_use h
  refine LE.r (v := (Value.map (some (Addr.block b6)))) (Wn.no rfl) rfl (R.mkmap hpb6 hww5) ?_
  refine LE.p (v := (Value.agg #[(Value.pointer r1), (Value.pointer r3), (Value.map (some (Addr.block b6)))])) (Wn.no rfl) rfl (R.bld (by exact (Ls.cons (R.Pr rfl) (Ls.cons (R.Pr rfl) (Ls.cons (R.Pr rfl) Ls.nil)))) (fun w => bu61_0_1_2 r1 r3 (some (Addr.block b6)) w)) ?_
  obtain ⟨b8, hpb8, w7, hww7, h⟩ := M.new_use h
  refine LE.r (v := (Value.pointer (some b8))) (Wn.no rfl) rfl (R.box (cs := #[(Value.pointer r1), (Value.pointer r3), (Value.map (some (Addr.block b6)))]) rfl rfl hpb8 hww7) ?_
  refine LE.p (v := (Value.pointer (some b8))) (Wn.no rfl) rfl (R.assign rfl) ?_
  refine LE.nil ?_
  refine WE.ret ?_
  exact ⟨_, (Res.tmp rfl Res.nil), _, rfl, h⟩
/-- The formula of signpost.signpostkeep.Any. -/
def F8 (p0 : Int) (p1 : Int) (K : Int → Int → World → Prop) (w0 : World) : Prop :=
M.new (.cells #[(Value.int .u32 (0 : Int)), (Value.int .i64 (0 : Int))] 28) w0 fun b2 w1 =>
Calls Try.prog 6 #[(Value.int .i64 p1), (Value.int .i64 (0 : Int)), (Value.int .i64 (32 : Int))] w1 (R6 fun r3 w4 =>
Calls Try.prog 21 #[(Value.int .u32 p0), (Value.int .i64 r3)] w4 (R21 fun r5 r6 w7 =>
M.stA b2 [(Value.int .u32 r5), (Value.int .i64 r6)] w7 fun w8 =>
M.ld (Value.int .u32) b2 w8 fun t10 =>
M.ld (Value.int .i64) (b2.add 1) w8 fun t12 =>
K t10 t12 w8))
theorem F8_ok {w0 : World} {p0 : Int} {p1 : Int} {K : Int → Int → World → Prop} (h : F8 p0 p1 K w0) : Calls Try.prog 8 #[(Value.int .u32 p0), (Value.int .i64 p1)] w0 (R8 K) := by
  refine calls_of_WE (args := [(Value.int .u32 p0), (Value.int .i64 p1)]) (rs := [.cell 4 28]) Try.func8 rfl (N := 9) rfl rfl rfl rfl ?_
  refine WE.seq ?_
  refine WE.reg ?_
  obtain ⟨b2, hpb2, w1, hww1, h⟩ := M.new_use h
  refine LE.r (v := (Value.pointer (some b2))) (Wn.no rfl) rfl (R.alloc (cs := #[(Value.int .u32 (0 : Int)), (Value.int .i64 (0 : Int))]) ze28 rfl hpb2 hww1) ?_
  refine LE.nil ?_
  refine WE.seq ?_
  refine WE.reg ?_
  refine LE.p (v := (Value.int .u32 p0)) (Wn.no rfl) rfl (R.move rfl) ?_
  refine LE.p (v := (Value.int .i64 p1)) (Wn.no rfl) rfl (R.move rfl) ?_
  refine LE.c (Wn.no rfl) rfl (R.call bd6 (Ls.cons rfl (Ls.cons rfl (Ls.cons rfl Ls.nil))) rfl) (Calls.mono h ?_)
  rintro _ w4 ⟨r3, rfl, h⟩
  refine ⟨_, rfl, ?_⟩
  refine LE.c (Wn.no rfl) rfl (R.call bd21 (Ls.cons rfl (Ls.cons rfl Ls.nil)) rfl) (Calls.mono h ?_)
  rintro _ w7 ⟨r5, r6, rfl, h⟩
  refine ⟨_, rfl, ?_⟩
  obtain ⟨w8, hww8, h9, h⟩ := M.stA_use h
  refine LE.s (Wn.no rfl) rfl (R.stA (a := b2) [(Value.int .u32 r5), (Value.int .i64 r6)] sz28 rfl rfl rfl (by simp [Value.oneCell']) h9 hww8) ?_
  refine LE.nil ?_
  refine WE.ret ?_
  obtain ⟨t10, h11, h⟩ := h
  obtain ⟨t12, h13, h⟩ := h
  exact ⟨_, (Res.cell rfl (R.ldCellA ag28 sz28 rfl (Cs.cons h11 (Cs.cons h13 Cs.nil))) Res.nil), _, _, rfl, h⟩
/-- The formula of (*signpost.igp.Table).Put. -/
def F9 (p0 : Option Addr) (p1_0 : Int) (p1_1 : Int) (p1_2 : Bool) (p1_3 : Int) (p1_4 : Int) (p1_5 : Nat) (K : Bool → Int → World → Prop) (w0 : World) : Prop :=
M.new (.cells #[(Value.int .u32 p1_0), (Value.int .i64 p1_1), (Value.bool p1_2), (Value.int .i64 p1_3), (Value.int .u32 p1_4), (Value.float .f64 p1_5)] 32) w0 fun b2 w1 =>
∃ (t3 : Int) (t4 : Int) (t5 : Bool) (t6 : Int) (t7 : Int) (t8 : Nat), Cs w1 b2 0 [(Value.int .u32 t3), (Value.int .i64 t4), (Value.bool t5), (Value.int .i64 t6), (Value.int .u32 t7), (Value.float .f64 t8)] ∧
Calls Try.prog 22 #[(Value.agg #[(Value.int .u32 t3), (Value.int .i64 t4), (Value.bool t5), (Value.int .i64 t6), (Value.int .u32 t7), (Value.float .f64 t8)])] w1 (R22 fun r10 w11 =>
M.ite (!r10) (
K false (12 : Int) w11) (
M.drew w11 fun w13 => 
M.nil p0 fun a14 =>
M.ld Value.map (a14.add 2) w13 fun t16 =>
M.ld (Value.int .u32) b2 w13 fun t18 =>
M.ld (Value.int .i64) (b2.add 1) w13 fun t20 =>
∃ (t22 : Int) (t23 : Int) (t24 : Bool) (t25 : Int) (t26 : Int) (t27 : Nat) (t29 : Bool), (Instr.lookup 59 (Value.map t16) (Value.agg #[(Value.int .u32 t18), (Value.int .i64 t20)]) true).run Try.prog w13 = .ok (Value.tuple #[(Value.agg #[(Value.int .u32 t22), (Value.int .i64 t23), (Value.bool t24), (Value.int .i64 t25), (Value.int .u32 t26), (Value.float .f64 t27)]), (Value.bool t29)]) w13 ∧
M.new (.cells #[(Value.int .u32 (0 : Int)), (Value.int .i64 (0 : Int)), (Value.bool false), (Value.int .i64 (0 : Int)), (Value.int .u32 (0 : Int)), (Value.float .f64 (0 : Nat))] 32) w13 fun b31 w30 =>
M.keep ((Instr.lookup 59 (Value.map t16) (Value.agg #[(Value.int .u32 t18), (Value.int .i64 t20)]) true).run Try.prog w30 = .ok (Value.tuple #[(Value.agg #[(Value.int .u32 t22), (Value.int .i64 t23), (Value.bool t24), (Value.int .i64 t25), (Value.int .u32 t26), (Value.float .f64 t27)]), (Value.bool t29)]) w30) <|
M.keep (w30.cell? b2 = some (Value.int .u32 t18)) <|
M.keep (w30.cell? (b2.add 1) = some (Value.int .i64 t20)) <|
M.keep (w30.cell? (a14.add 2) = some (Value.map t16)) <|
M.stA b31 [(Value.int .u32 t22), (Value.int .i64 t23), (Value.bool t24), (Value.int .i64 t25), (Value.int .u32 t26), (Value.float .f64 t27)] w30 fun w36 =>
M.join (fun (x39 : Bool) (w48 : World) => 
M.ite x39 (
K false (13 : Int) w48) (
M.ld (Value.float .f64) (b2.add 5) w48 fun t55 =>
Calls Try.prog 23 #[(Value.float .f64 t55)] w48 (R23 fun r57 w58 =>
M.st (b2.add 5) (Value.float .f64 r57) w58 fun w59 =>
M.drew w59 fun w62 => 
M.nil p0 fun a63 =>
M.ld Value.map (a63.add 2) w62 fun t65 =>
M.ld (Value.int .u32) b2 w62 fun t67 =>
M.ld (Value.int .i64) (b2.add 1) w62 fun t69 =>
∃ (t71 : Int) (t72 : Int) (t73 : Bool) (t74 : Int) (t75 : Int) (t76 : Nat), Cs w62 b2 0 [(Value.int .u32 t71), (Value.int .i64 t72), (Value.bool t73), (Value.int .i64 t74), (Value.int .u32 t75), (Value.float .f64 t76)] ∧
∃ w78, (Instr.mapUpdate 59 (Value.map t65) (Value.agg #[(Value.int .u32 t67), (Value.int .i64 t69)]) (Value.agg #[(Value.int .u32 t71), (Value.int .i64 t72), (Value.bool t73), (Value.int .i64 t74), (Value.int .u32 t75), (Value.float .f64 t76)])).run Try.prog w62 = .ok () w78 ∧
M.drew w78 fun w80 => 
M.nil p0 fun a81 =>
M.ld Value.pointer a81 w80 fun t83 =>
M.ld (Value.int .u32) b2 w80 fun t85 =>
M.ld (Value.int .i64) (b2.add 1) w80 fun t87 =>
Calls Try.prog 24 #[(Value.pointer t83), (Value.agg #[(Value.int .u32 t85), (Value.int .i64 t87)]), (Value.int .i64 (0 : Int))] w80 (R24 fun r89 w90 =>
M.join (fun (w120 : World) => 
M.join (fun (x125 : Bool) (x126 : Int) (w145 : World) => 
K x125 x126 w145) fun J124 => 
M.ite (!t29) (
J124 true (0 : Int) w120) (
∃ (t128 : Int) (t129 : Int) (t130 : Bool) (t131 : Int) (t132 : Int) (t133 : Nat), Cs w120 b31 0 [(Value.int .u32 t128), (Value.int .i64 t129), (Value.bool t130), (Value.int .i64 t131), (Value.int .u32 t132), (Value.float .f64 t133)] ∧
∃ (t135 : Int) (t136 : Int) (t137 : Bool) (t138 : Int) (t139 : Int) (t140 : Nat), Cs w120 b2 0 [(Value.int .u32 t135), (Value.int .i64 t136), (Value.bool t137), (Value.int .i64 t138), (Value.int .u32 t139), (Value.float .f64 t140)] ∧
Calls Try.prog 27 #[(Value.agg #[(Value.int .u32 t128), (Value.int .i64 t129), (Value.bool t130), (Value.int .i64 t131), (Value.int .u32 t132), (Value.float .f64 t133)]), (Value.agg #[(Value.int .u32 t135), (Value.int .i64 t136), (Value.bool t137), (Value.int .i64 t138), (Value.int .u32 t139), (Value.float .f64 t140)])] w120 (R27 fun r142 w143 =>
J124 (!r142) (0 : Int) w143))) fun J91 => 
M.ld (Value.float .f64) (b2.add 5) w90 fun t92 =>
Calls Try.prog 25 #[(Value.float .f64 t92), (Value.int .i64 (1 : Int))] w90 (R25 fun r94 w95 =>
M.ite r94 (
M.drew w95 fun w97 => 
M.nil p0 fun a98 =>
M.ld Value.pointer (a98.add 1) w97 fun t100 =>
M.ld (Value.int .u32) b2 w97 fun t102 =>
M.ld (Value.int .i64) (b2.add 1) w97 fun t104 =>
Calls Try.prog 26 #[(Value.pointer t100), (Value.agg #[(Value.int .u32 t102), (Value.int .i64 t104)])] w97 (R26 fun r106 w107 =>
J91 w107)) (
M.drew w95 fun w108 => 
M.nil p0 fun a109 =>
M.ld Value.pointer (a109.add 1) w108 fun t111 =>
M.ld (Value.int .u32) b2 w108 fun t113 =>
M.ld (Value.int .i64) (b2.add 1) w108 fun t115 =>
Calls Try.prog 24 #[(Value.pointer t111), (Value.agg #[(Value.int .u32 t113), (Value.int .i64 t115)]), (Value.int .i64 (0 : Int))] w108 (R24 fun r117 w118 =>
J91 w118))))))) fun J38 => 
M.ite (!t29) (
M.nil p0 fun a41 =>
M.ld Value.map (a41.add 2) w36 fun t43 =>
∃ (t45 : Int), (Builtin.len_ #[59] 3 #[(Value.map t43)]).run Try.prog w36 = .ok (.int .i64 t45) w36 ∧
J38 (decide ((64 : Int) ≤ t45)) w36) (
J38 false w36)))
theorem F9_ok {w0 : World} {p0 : Option Addr} {p1_0 : Int} {p1_1 : Int} {p1_2 : Bool} {p1_3 : Int} {p1_4 : Int} {p1_5 : Nat} {K : Bool → Int → World → Prop} (h : F9 p0 p1_0 p1_1 p1_2 p1_3 p1_4 p1_5 K w0) : Calls Try.prog 9 #[(Value.pointer p0), (Value.agg #[(Value.int .u32 p1_0), (Value.int .i64 p1_1), (Value.bool p1_2), (Value.int .i64 p1_3), (Value.int .u32 p1_4), (Value.float .f64 p1_5)])] w0 (R9 K) := by
  refine calls_of_WE (args := [(Value.pointer p0), (Value.agg #[(Value.int .u32 p1_0), (Value.int .i64 p1_1), (Value.bool p1_2), (Value.int .i64 p1_3), (Value.int .u32 p1_4), (Value.float .f64 p1_5)])]) (rs := [.tmp 4, .tmp 5]) Try.func9 rfl (N := 74) rfl rfl rfl rfl ?_
  refine WE.seq ?_
  refine WE.reg ?_
  obtain ⟨b2, hpb2, w1, hww1, h⟩ := M.new_use h
  refine LE.r (v := (Value.pointer (some b2))) (Wn.no rfl) rfl (R.box (cs := #[(Value.int .u32 p1_0), (Value.int .i64 p1_1), (Value.bool p1_2), (Value.int .i64 p1_3), (Value.int .u32 p1_4), (Value.float .f64 p1_5)]) rfl rfl hpb2 hww1) ?_
  refine LE.p (v := (Value.bool false)) (Wn.no rfl) rfl (R.assign rfl) ?_
  refine LE.p (v := (Value.int .i64 (0 : Int))) (Wn.no rfl) rfl (R.assign rfl) ?_
  refine LE.nil ?_
  refine WE.seq ?_
  refine WE.seq ?_
  refine WE.reg ?_
  obtain ⟨t3, t4, t5, t6, t7, t8, h9, h⟩ := h
  refine LE.r (v := (Value.agg #[(Value.int .u32 t3), (Value.int .i64 t4), (Value.bool t5), (Value.int .i64 t6), (Value.int .u32 t7), (Value.float .f64 t8)])) (Wn.no rfl) rfl (R.ldA ag32 sz32 rfl rfl h9) ?_
  refine LE.c (Wn.no rfl) rfl (R.call bd22 (Ls.cons rfl Ls.nil) rfl) (Calls.mono h ?_)
  rintro _ w11 ⟨r10, rfl, h⟩
  refine ⟨_, rfl, ?_⟩
  refine LE.p (v := (Value.bool (!r10))) (Wn.no rfl) rfl (R.not rfl) ?_
  refine LE.nil ?_
  refine WE.condT rfl (b := (!r10)) rfl ?_ ?_
  · intro hb12
    replace h := M.ite_t h hb12
    refine WE.seq ?_
    refine WE.reg ?_
    refine LE.p (v := (Value.bool false)) (Wn.no rfl) rfl (R.assign rfl) ?_
    refine LE.p (v := (Value.int .i64 (12 : Int))) (Wn.no rfl) rfl (R.assign rfl) ?_
    refine LE.nil ?_
    refine WE.ret ?_
    exact ⟨_, (Res.tmp rfl (Res.tmp rfl Res.nil)), _, _, rfl, h⟩
  · intro hb12
    replace h := M.ite_f h hb12
    refine WE.skip ?_
    refine WE.seq ?_
    refine WE.draw mix ?_
    obtain ⟨w13, hww13, h⟩ := M.drew_use h
    rw [← hww13]
    clear hww13
    refine DE.t 0 (v := (Value.pointer p0)) rfl (by kernel_rfl) (Wn.no rfl) rfl (R.move rfl) ?_
    obtain ⟨a14, h15, h⟩ := h
    refine DE.t 1 (v := (Value.pointer (some a14))) rfl (by kernel_rfl) (Wn.no rfl) rfl (R.nilC (congrArg Value.pointer h15)) ?_
    refine DE.t 2 (v := (Value.pointer (some (a14.add 2)))) rfl (by kernel_rfl) (Wn.no rfl) rfl (R.fld (off := 2) fa61_2 rfl) ?_
    refine DE.t 4 (v := (Value.pointer (some b2))) rfl (by kernel_rfl) (Wn.no rfl) rfl (R.fld (off := 0) fa32_0 rfl) ?_
    obtain ⟨t16, h17, h⟩ := h
    refine DE.hold 3 (fun w => w.cell? (a14.add 2) = some (Value.map t16)) (v := (Value.map t16)) rfl (by kernel_rfl) (Wn.no rfl) rfl h17 (fun w hs => R.ld sc59 rfl hs) ?_
    obtain ⟨t18, h19, h⟩ := h
    obtain ⟨t20, h21, h⟩ := h
    refine DE.hold 5 (fun w => w.cell? b2 = some (Value.int .u32 t18) ∧ w.cell? (b2.add 1) = some (Value.int .i64 t20)) (v := (Value.agg #[(Value.int .u32 t18), (Value.int .i64 t20)])) rfl (by kernel_rfl) (Wn.no rfl) rfl ⟨h19, h21⟩ (fun w hs => R.ldA ag28 sz28 rfl rfl (Cs.cons hs.1 (Cs.cons hs.2 Cs.nil))) ?_
    obtain ⟨t22, t23, t24, t25, t26, t27, t29, h28, h⟩ := h
    refine DE.hold 6 (fun w => (Instr.lookup 59 (Value.map t16) (Value.agg #[(Value.int .u32 t18), (Value.int .i64 t20)]) true).run Try.prog w = .ok (Value.tuple #[(Value.agg #[(Value.int .u32 t22), (Value.int .i64 t23), (Value.bool t24), (Value.int .i64 t25), (Value.int .u32 t26), (Value.float .f64 t27)]), (Value.bool t29)]) w) (v := (Value.tuple #[(Value.agg #[(Value.int .u32 t22), (Value.int .i64 t23), (Value.bool t24), (Value.int .i64 t25), (Value.int .u32 t26), (Value.float .f64 t27)]), (Value.bool t29)])) rfl (by kernel_rfl) (Wn.no rfl) rfl h28 (fun w hs => R.look rfl rfl hs) ?_
    refine DE.t 7 (v := (Value.tuple #[(Value.agg #[(Value.int .u32 t22), (Value.int .i64 t23), (Value.bool t24), (Value.int .i64 t25), (Value.int .u32 t26), (Value.float .f64 t27)]), (Value.bool t29)])) rfl (by kernel_rfl) (Wn.no rfl) rfl (R.move rfl) ?_
    refine DE.t 8 (v := (Value.agg #[(Value.int .u32 t22), (Value.int .i64 t23), (Value.bool t24), (Value.int .i64 t25), (Value.int .u32 t26), (Value.float .f64 t27)])) rfl (by kernel_rfl) (Wn.no rfl) rfl (R.ext rfl rfl) ?_
    refine DE.t 9 (v := (Value.bool t29)) rfl (by kernel_rfl) (Wn.no rfl) rfl (R.ext rfl rfl) ?_
    obtain ⟨b31, hpb31, w30, hww30, h⟩ := M.new_use h
    obtain ⟨k32, h⟩ := h
    obtain ⟨k33, h⟩ := h
    obtain ⟨k34, h⟩ := h
    obtain ⟨k35, h⟩ := h
    refine DE.main 10 (by kernel_rfl) ?_
    refine One.r 10 (v := (Value.pointer (some b31))) rfl (Wn.no rfl) rfl (R.alloc (cs := #[(Value.int .u32 (0 : Int)), (Value.int .i64 (0 : Int)), (Value.bool false), (Value.int .i64 (0 : Int)), (Value.int .u32 (0 : Int)), (Value.float .f64 (0 : Nat))]) ze32 rfl hpb31 hww30) (.inr ⟨fun _ => k32, fun _ => ⟨k33, k34⟩, fun _ => k35, trivial⟩) ?_
    obtain ⟨w36, hww36, h37, h⟩ := M.stA_use h
    refine DE.main 11 (by kernel_rfl) ?_
    refine One.s 11 rfl (Wn.no rfl) rfl (R.stA (a := b31) [(Value.int .u32 t22), (Value.int .i64 t23), (Value.bool t24), (Value.int .i64 t25), (Value.int .u32 t26), (Value.float .f64 t27)] sz32 rfl rfl rfl (by simp [Value.oneCell']) h37 hww36) ⟨aftT (by kernel_rfl), aftT (by kernel_rfl), aftT (by kernel_rfl), trivial⟩ ?_
    refine DE.t 12 (v := (Value.bool t29)) rfl (by kernel_rfl) (Wn.no rfl) rfl (R.assign rfl) ?_
    refine DE.done (by kernel_rfl) ?_
    refine WE.seq ?_
    refine WE.seq ?_
    obtain ⟨J38, hJ38, h⟩ := M.join_use h
    refine WE.regJ (fun e w => ∃ (x39 : Bool), J38 x39 w ∧ e 0 = (Value.pointer p0) ∧ e 3 = (Value.pointer (some b2)) ∧ e 6 = (Value.pointer (some b31)) ∧ e 7 = (Value.bool t29) ∧ e 30 = (Value.bool x39)) ?_ ?_
    · clear hJ38
      refine LE.p (v := (Value.bool t29)) (Wn.no rfl) rfl (R.move rfl) ?_
      refine LE.p (v := (Value.bool (!t29))) (Wn.no rfl) rfl (R.not rfl) ?_
      refine LE.p (v := (Value.bool (!t29))) (Wn.no rfl) rfl (R.move rfl) ?_
      rcases M.ite_use h with ⟨hb40, h⟩ | ⟨hb40, h⟩
      · refine LE.p (v := (Value.pointer p0)) (Wn.yes 2 23 true rfl rfl rfl (congrArg Value.bool hb40)) rfl (R.move rfl) ?_
        obtain ⟨a41, h42, h⟩ := h
        refine LE.p (v := (Value.pointer (some a41))) (Wn.yes 2 23 true rfl rfl rfl (congrArg Value.bool hb40)) rfl (R.nilC (congrArg Value.pointer h42)) ?_
        refine LE.p (v := (Value.pointer (some (a41.add 2)))) (Wn.yes 2 23 true rfl rfl rfl (congrArg Value.bool hb40)) rfl (R.fld (off := 2) fa61_2 rfl) ?_
        obtain ⟨t43, h44, h⟩ := h
        refine LE.r (v := (Value.map t43)) (Wn.yes 2 23 true rfl rfl rfl (congrArg Value.bool hb40)) rfl (R.ld sc59 rfl h44) ?_
        obtain ⟨t45, h46, h⟩ := h
        refine LE.r (v := (Value.int .i64 t45)) (Wn.yes 2 23 true rfl rfl rfl (congrArg Value.bool hb40)) rfl (R.mlen rfl h46) ?_
        refine LE.p (v := (Value.bool (decide ((64 : Int) ≤ t45)))) (Wn.yes 2 23 true rfl rfl rfl (congrArg Value.bool hb40)) rfl (R.geq rfl rfl) ?_
        refine LE.p (v := (Value.bool (decide ((64 : Int) ≤ t45)))) (Wn.no rfl) rfl (R.pickT (congrArg Value.bool hb40) rfl) ?_
        refine LE.nil ?_
        exact ⟨_, h, rfl, rfl, rfl, rfl, rfl⟩
      · refine LE.u (Un.no 2 23 true rfl rfl rfl (congrArg Value.bool hb40)) ?_
        refine LE.u (Un.no 2 23 true rfl rfl rfl (congrArg Value.bool hb40)) ?_
        refine LE.u (Un.no 2 23 true rfl rfl rfl (congrArg Value.bool hb40)) ?_
        refine LE.u (Un.no 2 23 true rfl rfl rfl (congrArg Value.bool hb40)) ?_
        refine LE.u (Un.no 2 23 true rfl rfl rfl (congrArg Value.bool hb40)) ?_
        refine LE.u (Un.no 2 23 true rfl rfl rfl (congrArg Value.bool hb40)) ?_
        refine LE.p (v := (Value.bool false)) (Wn.no rfl) rfl (R.pickF (congrArg Value.bool hb40) rfl) ?_
        refine LE.nil ?_
        exact ⟨_, h, rfl, rfl, rfl, rfl, rfl⟩
    · rintro e47 w48 ⟨x39, h, f49, f50, f51, f52, f53⟩
      subst hJ38
      refine WE.condT rfl (b := x39) f53 ?_ ?_
      · intro hb54
        replace h := M.ite_t h hb54
        refine WE.seq ?_
        refine WE.reg ?_
        refine LE.p (v := (Value.bool false)) (Wn.no rfl) rfl (R.assign rfl) ?_
        refine LE.p (v := (Value.int .i64 (13 : Int))) (Wn.no rfl) rfl (R.assign rfl) ?_
        refine LE.nil ?_
        refine WE.ret ?_
        exact ⟨_, (Res.tmp rfl (Res.tmp rfl Res.nil)), _, _, rfl, h⟩
      · intro hb54
        replace h := M.ite_f h hb54
        refine WE.skip ?_
        refine WE.seq ?_
        refine WE.reg ?_
        refine LE.p (v := (Value.pointer (some (b2.add 5)))) (Wn.no rfl) rfl (R.fld (off := 5) fa32_4 f50) ?_
        obtain ⟨t55, h56, h⟩ := h
        refine LE.r (v := (Value.float .f64 t55)) (Wn.no rfl) rfl (R.ld sc22 rfl h56) ?_
        refine LE.c (Wn.no rfl) rfl (R.call bd23 (Ls.cons rfl Ls.nil) rfl) (Calls.mono h ?_)
        rintro _ w58 ⟨r57, rfl, h⟩
        refine ⟨_, rfl, ?_⟩
        refine LE.p (v := (Value.pointer (some (b2.add 5)))) (Wn.no rfl) rfl (R.fld (off := 5) fa32_4 f50) ?_
        obtain ⟨w59, hww59, h60, h61, h⟩ := M.st_use h
        refine LE.s (Wn.no rfl) rfl (R.st (a := (b2.add 5)) (v := (Value.float .f64 r57)) sz22 rfl rfl rfl rfl h60 h61 hww59) ?_
        refine LE.nil ?_
        refine WE.seq ?_
        refine WE.draw mix ?_
        obtain ⟨w62, hww62, h⟩ := M.drew_use h
        rw [← hww62]
        clear hww62
        refine DE.t 0 (v := (Value.pointer p0)) rfl (by kernel_rfl) (Wn.no rfl) rfl (R.move f49) ?_
        obtain ⟨a63, h64, h⟩ := h
        refine DE.t 1 (v := (Value.pointer (some a63))) rfl (by kernel_rfl) (Wn.no rfl) rfl (R.nilC (congrArg Value.pointer h64)) ?_
        refine DE.t 2 (v := (Value.pointer (some (a63.add 2)))) rfl (by kernel_rfl) (Wn.no rfl) rfl (R.fld (off := 2) fa61_2 rfl) ?_
        refine DE.t 4 (v := (Value.pointer (some b2))) rfl (by kernel_rfl) (Wn.no rfl) rfl (R.fld (off := 0) fa32_0 f50) ?_
        obtain ⟨t65, h66, h⟩ := h
        refine DE.hold 3 (fun w => w.cell? (a63.add 2) = some (Value.map t65)) (v := (Value.map t65)) rfl (by kernel_rfl) (Wn.no rfl) rfl h66 (fun w hs => R.ld sc59 rfl hs) ?_
        obtain ⟨t67, h68, h⟩ := h
        obtain ⟨t69, h70, h⟩ := h
        refine DE.hold 5 (fun w => w.cell? b2 = some (Value.int .u32 t67) ∧ w.cell? (b2.add 1) = some (Value.int .i64 t69)) (v := (Value.agg #[(Value.int .u32 t67), (Value.int .i64 t69)])) rfl (by kernel_rfl) (Wn.no rfl) rfl ⟨h68, h70⟩ (fun w hs => R.ldA ag28 sz28 rfl rfl (Cs.cons hs.1 (Cs.cons hs.2 Cs.nil))) ?_
        obtain ⟨t71, t72, t73, t74, t75, t76, h77, h⟩ := h
        refine DE.main 6 (by kernel_rfl) ?_
        refine One.r 6 (v := (Value.agg #[(Value.int .u32 t71), (Value.int .i64 t72), (Value.bool t73), (Value.int .i64 t74), (Value.int .u32 t75), (Value.float .f64 t76)])) rfl (Wn.no rfl) rfl (R.ldA ag32 sz32 f50 rfl h77) (.inl rfl) ?_
        obtain ⟨w78, h79, h⟩ := h
        refine DE.main 7 (by kernel_rfl) ?_
        refine One.s 7 rfl (Wn.no rfl) rfl (R.upd rfl rfl rfl h79) ⟨aftT (by kernel_rfl), aftT (by kernel_rfl), trivial⟩ ?_
        refine DE.done (by kernel_rfl) ?_
        refine WE.seq ?_
        refine WE.draw mix ?_
        obtain ⟨w80, hww80, h⟩ := M.drew_use h
        rw [← hww80]
        clear hww80
        refine DE.t 0 (v := (Value.pointer p0)) rfl (by kernel_rfl) (Wn.no rfl) rfl (R.move f49) ?_
        obtain ⟨a81, h82, h⟩ := h
        refine DE.t 1 (v := (Value.pointer (some a81))) rfl (by kernel_rfl) (Wn.no rfl) rfl (R.nilC (congrArg Value.pointer h82)) ?_
        refine DE.t 2 (v := (Value.pointer (some a81))) rfl (by kernel_rfl) (Wn.no rfl) rfl (R.fld (off := 0) fa61_0 rfl) ?_
        refine DE.t 4 (v := (Value.pointer (some b2))) rfl (by kernel_rfl) (Wn.no rfl) rfl (R.fld (off := 0) fa32_0 f50) ?_
        obtain ⟨t83, h84, h⟩ := h
        refine DE.hold 3 (fun w => w.cell? a81 = some (Value.pointer t83)) (v := (Value.pointer t83)) rfl (by kernel_rfl) (Wn.no rfl) rfl h84 (fun w hs => R.ld sc57 rfl hs) ?_
        obtain ⟨t85, h86, h⟩ := h
        obtain ⟨t87, h88, h⟩ := h
        refine DE.main 5 (by kernel_rfl) ?_
        refine One.r 5 (v := (Value.agg #[(Value.int .u32 t85), (Value.int .i64 t87)])) rfl (Wn.no rfl) rfl (R.ldA ag28 sz28 rfl rfl (Cs.cons h86 (Cs.cons h88 Cs.nil))) (.inl rfl) ?_
        refine DE.main 6 (by kernel_rfl) ?_
        refine One.c 6 rfl (Wn.no rfl) rfl (R.call bd24 (Ls.cons rfl (Ls.cons rfl (Ls.cons rfl Ls.nil))) rfl) (Calls.mono h ?_)
        rintro _ w90 ⟨r89, rfl, h⟩
        refine ⟨_, rfl, ⟨aftT (by kernel_rfl), trivial⟩, ?_⟩
        refine DE.done (by kernel_rfl) ?_
        obtain ⟨J91, hJ91, h⟩ := M.join_use h
        refine WE.join (fun e w => J91 w ∧ e 3 = (Value.pointer (some b2)) ∧ e 6 = (Value.pointer (some b31)) ∧ e 7 = (Value.bool t29)) ?_ ?_
        · clear hJ91
          refine WE.seq ?_
          refine WE.reg ?_
          refine LE.p (v := (Value.pointer (some (b2.add 5)))) (Wn.no rfl) rfl (R.fld (off := 5) fa32_4 f50) ?_
          obtain ⟨t92, h93, h⟩ := h
          refine LE.r (v := (Value.float .f64 t92)) (Wn.no rfl) rfl (R.ld sc22 rfl h93) ?_
          refine LE.c (Wn.no rfl) rfl (R.call bd25 (Ls.cons rfl (Ls.cons rfl Ls.nil)) rfl) (Calls.mono h ?_)
          rintro _ w95 ⟨r94, rfl, h⟩
          refine ⟨_, rfl, ?_⟩
          refine LE.nil ?_
          refine WE.condT rfl (b := r94) rfl ?_ ?_
          · intro hb96
            replace h := M.ite_t h hb96
            refine WE.draw mix ?_
            obtain ⟨w97, hww97, h⟩ := M.drew_use h
            rw [← hww97]
            clear hww97
            refine DE.t 0 (v := (Value.pointer p0)) rfl (by kernel_rfl) (Wn.no rfl) rfl (R.move f49) ?_
            obtain ⟨a98, h99, h⟩ := h
            refine DE.t 1 (v := (Value.pointer (some a98))) rfl (by kernel_rfl) (Wn.no rfl) rfl (R.nilC (congrArg Value.pointer h99)) ?_
            refine DE.t 2 (v := (Value.pointer (some (a98.add 1)))) rfl (by kernel_rfl) (Wn.no rfl) rfl (R.fld (off := 1) fa61_1 rfl) ?_
            refine DE.t 4 (v := (Value.pointer (some b2))) rfl (by kernel_rfl) (Wn.no rfl) rfl (R.fld (off := 0) fa32_0 f50) ?_
            obtain ⟨t100, h101, h⟩ := h
            refine DE.hold 3 (fun w => w.cell? (a98.add 1) = some (Value.pointer t100)) (v := (Value.pointer t100)) rfl (by kernel_rfl) (Wn.no rfl) rfl h101 (fun w hs => R.ld sc57 rfl hs) ?_
            obtain ⟨t102, h103, h⟩ := h
            obtain ⟨t104, h105, h⟩ := h
            refine DE.main 5 (by kernel_rfl) ?_
            refine One.r 5 (v := (Value.agg #[(Value.int .u32 t102), (Value.int .i64 t104)])) rfl (Wn.no rfl) rfl (R.ldA ag28 sz28 rfl rfl (Cs.cons h103 (Cs.cons h105 Cs.nil))) (.inl rfl) ?_
            refine DE.main 6 (by kernel_rfl) ?_
            refine One.c 6 rfl (Wn.no rfl) rfl (R.call bd26 (Ls.cons rfl (Ls.cons rfl Ls.nil)) rfl) (Calls.mono h ?_)
            rintro _ w107 ⟨r106, rfl, h⟩
            refine ⟨_, rfl, ⟨aftT (by kernel_rfl), trivial⟩, ?_⟩
            refine DE.done (by kernel_rfl) ?_
            exact ⟨h, f50, f51, f52⟩
          · intro hb96
            replace h := M.ite_f h hb96
            refine WE.draw mix ?_
            obtain ⟨w108, hww108, h⟩ := M.drew_use h
            rw [← hww108]
            clear hww108
            refine DE.t 0 (v := (Value.pointer p0)) rfl (by kernel_rfl) (Wn.no rfl) rfl (R.move f49) ?_
            obtain ⟨a109, h110, h⟩ := h
            refine DE.t 1 (v := (Value.pointer (some a109))) rfl (by kernel_rfl) (Wn.no rfl) rfl (R.nilC (congrArg Value.pointer h110)) ?_
            refine DE.t 2 (v := (Value.pointer (some (a109.add 1)))) rfl (by kernel_rfl) (Wn.no rfl) rfl (R.fld (off := 1) fa61_1 rfl) ?_
            refine DE.t 4 (v := (Value.pointer (some b2))) rfl (by kernel_rfl) (Wn.no rfl) rfl (R.fld (off := 0) fa32_0 f50) ?_
            obtain ⟨t111, h112, h⟩ := h
            refine DE.hold 3 (fun w => w.cell? (a109.add 1) = some (Value.pointer t111)) (v := (Value.pointer t111)) rfl (by kernel_rfl) (Wn.no rfl) rfl h112 (fun w hs => R.ld sc57 rfl hs) ?_
            obtain ⟨t113, h114, h⟩ := h
            obtain ⟨t115, h116, h⟩ := h
            refine DE.main 5 (by kernel_rfl) ?_
            refine One.r 5 (v := (Value.agg #[(Value.int .u32 t113), (Value.int .i64 t115)])) rfl (Wn.no rfl) rfl (R.ldA ag28 sz28 rfl rfl (Cs.cons h114 (Cs.cons h116 Cs.nil))) (.inl rfl) ?_
            refine DE.main 6 (by kernel_rfl) ?_
            refine One.c 6 rfl (Wn.no rfl) rfl (R.call bd24 (Ls.cons rfl (Ls.cons rfl (Ls.cons rfl Ls.nil))) rfl) (Calls.mono h ?_)
            rintro _ w118 ⟨r117, rfl, h⟩
            refine ⟨_, rfl, ⟨aftT (by kernel_rfl), trivial⟩, ?_⟩
            refine DE.done (by kernel_rfl) ?_
            exact ⟨h, f50, f51, f52⟩
        · rintro e119 w120 ⟨h, f121, f122, f123⟩
          subst hJ91
          refine WE.seq ?_
          obtain ⟨J124, hJ124, h⟩ := M.join_use h
          refine WE.regJ (fun e w => ∃ (x125 : Bool) (x126 : Int), J124 x125 x126 w ∧ e 4 = (Value.bool x125) ∧ e 5 = (Value.int .i64 x126)) ?_ ?_
          · clear hJ124
            refine LE.p (v := (Value.bool t29)) (Wn.no rfl) rfl (R.move f123) ?_
            refine LE.p (v := (Value.bool (!t29))) (Wn.no rfl) rfl (R.not rfl) ?_
            refine LE.p (v := (Value.bool (!t29))) (Wn.no rfl) rfl (R.move rfl) ?_
            rcases M.ite_use h with ⟨hb127, h⟩ | ⟨hb127, h⟩
            · refine LE.u (Un.no 2 68 false rfl rfl rfl (congrArg Value.bool hb127)) ?_
              refine LE.u (Un.no 2 68 false rfl rfl rfl (congrArg Value.bool hb127)) ?_
              refine LE.u (Un.no 2 68 false rfl rfl rfl (congrArg Value.bool hb127)) ?_
              refine LE.u (Un.no 2 68 false rfl rfl rfl (congrArg Value.bool hb127)) ?_
              refine LE.p (v := (Value.bool true)) (Wn.no rfl) rfl (R.pickT (congrArg Value.bool hb127) rfl) ?_
              refine LE.p (v := (Value.bool true)) (Wn.no rfl) rfl (R.assign rfl) ?_
              refine LE.p (v := (Value.int .i64 (0 : Int))) (Wn.no rfl) rfl (R.assign rfl) ?_
              refine LE.nil ?_
              exact ⟨_, _, h, rfl, rfl⟩
            · obtain ⟨t128, t129, t130, t131, t132, t133, h134, h⟩ := h
              refine LE.r (v := (Value.agg #[(Value.int .u32 t128), (Value.int .i64 t129), (Value.bool t130), (Value.int .i64 t131), (Value.int .u32 t132), (Value.float .f64 t133)])) (Wn.yes 2 68 false rfl rfl rfl (congrArg Value.bool hb127)) rfl (R.ldA ag32 sz32 f122 rfl h134) ?_
              obtain ⟨t135, t136, t137, t138, t139, t140, h141, h⟩ := h
              refine LE.r (v := (Value.agg #[(Value.int .u32 t135), (Value.int .i64 t136), (Value.bool t137), (Value.int .i64 t138), (Value.int .u32 t139), (Value.float .f64 t140)])) (Wn.yes 2 68 false rfl rfl rfl (congrArg Value.bool hb127)) rfl (R.ldA ag32 sz32 f121 rfl h141) ?_
              refine LE.c (Wn.yes 2 68 false rfl rfl rfl (congrArg Value.bool hb127)) rfl (R.call bd27 (Ls.cons rfl (Ls.cons rfl Ls.nil)) rfl) (Calls.mono h ?_)
              rintro _ w143 ⟨r142, rfl, h⟩
              refine ⟨_, rfl, ?_⟩
              refine LE.p (v := (Value.bool (!r142))) (Wn.yes 2 68 false rfl rfl rfl (congrArg Value.bool hb127)) rfl (R.not rfl) ?_
              refine LE.p (v := (Value.bool (!r142))) (Wn.no rfl) rfl (R.pickF (congrArg Value.bool hb127) rfl) ?_
              refine LE.p (v := (Value.bool (!r142))) (Wn.no rfl) rfl (R.assign rfl) ?_
              refine LE.p (v := (Value.int .i64 (0 : Int))) (Wn.no rfl) rfl (R.assign rfl) ?_
              refine LE.nil ?_
              exact ⟨_, _, h, rfl, rfl⟩
          · rintro e144 w145 ⟨x125, x126, h, f146, f147⟩
            subst hJ124
            refine WE.ret ?_
            exact ⟨_, (Res.tmp f146 (Res.tmp f147 Res.nil)), _, _, rfl, h⟩
/-- The formula of signpost.nexthop.Resolve. -/
def F10 (p0 : Option Addr) (p1 : Int) (p2 : Int) (K : Int → Nat → Int → World → Prop) (w0 : World) : Prop :=
M.new (.cells #[(Value.int .i64 (0 : Int)), (Value.float .f64 (0 : Nat))] 37) w0 fun b2 w1 =>
Calls Try.prog 28 #[(Value.pointer p0), (Value.int .u32 p1), (Value.int .i64 p2)] w1 (R28 fun r3 r4 r5 r6 r7 w8 =>
M.new (.cells #[(Value.int .i64 (0 : Int)), (Value.float .f64 (0 : Nat)), (SV.v SV.nil), (SV.v SV.nil)] 70) w8 fun b10 w9 =>
M.stA b10 [(Value.int .i64 r3), (Value.float .f64 r4), (SV.v r5), (SV.v r6)] w9 fun w11 =>
M.ite (r7 != (0 : Int)) (
M.stA b2 [(Value.int .i64 (0 : Int)), (Value.float .f64 (0 : Nat))] w11 fun w14 =>
M.ld (Value.int .i64) b2 w14 fun t16 =>
M.ld (Value.float .f64) (b2.add 1) w14 fun t18 =>
K t16 t18 r7 w14) (
M.ld (Value.int .i64) b10 w11 fun t20 =>
M.ld (Value.float .f64) (b10.add 1) w11 fun t22 =>
M.stA b2 [(Value.int .i64 t20), (Value.float .f64 t22)] w11 fun w24 =>
M.ld (Value.int .i64) b2 w24 fun t26 =>
M.ld (Value.float .f64) (b2.add 1) w24 fun t28 =>
K t26 t28 (0 : Int) w24))
theorem F10_ok {w0 : World} {p0 : Option Addr} {p1 : Int} {p2 : Int} {K : Int → Nat → Int → World → Prop} (h : F10 p0 p1 p2 K w0) : Calls Try.prog 10 #[(Value.pointer p0), (Value.int .u32 p1), (Value.int .i64 p2)] w0 (R10 K) := by
  refine calls_of_WE (args := [(Value.pointer p0), (Value.int .u32 p1), (Value.int .i64 p2)]) (rs := [.cell 6 37, .tmp 7]) Try.func10 rfl (N := 23) rfl rfl rfl rfl ?_
  refine WE.seq ?_
  refine WE.reg ?_
  obtain ⟨b2, hpb2, w1, hww1, h⟩ := M.new_use h
  refine LE.r (v := (Value.pointer (some b2))) (Wn.no rfl) rfl (R.alloc (cs := #[(Value.int .i64 (0 : Int)), (Value.float .f64 (0 : Nat))]) ze37 rfl hpb2 hww1) ?_
  refine LE.p (v := (Value.int .i64 (0 : Int))) (Wn.no rfl) rfl (R.assign rfl) ?_
  refine LE.nil ?_
  refine WE.seq ?_
  refine WE.reg ?_
  refine LE.p (v := (Value.pointer p0)) (Wn.no rfl) rfl (R.move rfl) ?_
  refine LE.p (v := (Value.int .u32 p1)) (Wn.no rfl) rfl (R.move rfl) ?_
  refine LE.p (v := (Value.int .i64 p2)) (Wn.no rfl) rfl (R.move rfl) ?_
  refine LE.c (Wn.no rfl) rfl (R.call bd28 (Ls.cons rfl (Ls.cons rfl (Ls.cons rfl Ls.nil))) rfl) (Calls.mono h ?_)
  rintro _ w8 ⟨r3, r4, r5, r6, r7, rfl, h⟩
  refine ⟨_, rfl, ?_⟩
  refine LE.p (v := (Value.tuple #[(Value.agg #[(Value.int .i64 r3), (Value.float .f64 r4), (SV.v r5), (SV.v r6)]), (Value.int .i64 r7)])) (Wn.no rfl) rfl (R.move rfl) ?_
  refine LE.p (v := (Value.agg #[(Value.int .i64 r3), (Value.float .f64 r4), (SV.v r5), (SV.v r6)])) (Wn.no rfl) rfl (R.ext rfl rfl) ?_
  refine LE.p (v := (Value.int .i64 r7)) (Wn.no rfl) rfl (R.ext rfl rfl) ?_
  obtain ⟨b10, hpb10, w9, hww9, h⟩ := M.new_use h
  refine LE.r (v := (Value.pointer (some b10))) (Wn.no rfl) rfl (R.alloc (cs := #[(Value.int .i64 (0 : Int)), (Value.float .f64 (0 : Nat)), (SV.v SV.nil), (SV.v SV.nil)]) ze70 rfl hpb10 hww9) ?_
  obtain ⟨w11, hww11, h12, h⟩ := M.stA_use h
  refine LE.s (Wn.no rfl) rfl (R.stA (a := b10) [(Value.int .i64 r3), (Value.float .f64 r4), (SV.v r5), (SV.v r6)] sz70 rfl rfl rfl (by simp [Value.oneCell']) h12 hww11) ?_
  refine LE.p (v := (Value.int .i64 r7)) (Wn.no rfl) rfl (R.assign rfl) ?_
  refine LE.nil ?_
  refine WE.seq ?_
  refine WE.seq ?_
  refine WE.reg ?_
  refine LE.p (v := (Value.int .i64 r7)) (Wn.no rfl) rfl (R.move rfl) ?_
  refine LE.p (v := (Value.bool (r7 != (0 : Int)))) (Wn.no rfl) rfl (R.neq rfl rfl) ?_
  refine LE.nil ?_
  refine WE.condT rfl (b := (r7 != (0 : Int))) rfl ?_ ?_
  · intro hb13
    replace h := M.ite_t h hb13
    refine WE.seq ?_
    refine WE.reg ?_
    refine LE.p (v := (Value.agg #[(Value.int .i64 (0 : Int)), (Value.float .f64 (0 : Nat))])) (Wn.no rfl) rfl (R.bld (by exact Ls.nil) (fun w => bu37_  w)) ?_
    refine LE.p (v := (Value.int .i64 r7)) (Wn.no rfl) rfl (R.move rfl) ?_
    obtain ⟨w14, hww14, h15, h⟩ := M.stA_use h
    refine LE.s (Wn.no rfl) rfl (R.stA (a := b2) [(Value.int .i64 (0 : Int)), (Value.float .f64 (0 : Nat))] sz37 rfl rfl rfl (by simp [Value.oneCell']) h15 hww14) ?_
    refine LE.p (v := (Value.int .i64 r7)) (Wn.no rfl) rfl (R.assign rfl) ?_
    refine LE.nil ?_
    refine WE.ret ?_
    obtain ⟨t16, h17, h⟩ := h
    obtain ⟨t18, h19, h⟩ := h
    exact ⟨_, (Res.cell rfl (R.ldCellA ag37 sz37 rfl (Cs.cons h17 (Cs.cons h19 Cs.nil))) (Res.tmp rfl Res.nil)), _, _, _, rfl, h⟩
  · intro hb13
    replace h := M.ite_f h hb13
    refine WE.skip ?_
    refine WE.seq ?_
    refine WE.reg ?_
    refine LE.p (v := (Value.pointer (some b10))) (Wn.no rfl) rfl (R.fld (off := 0) fa70_0 rfl) ?_
    obtain ⟨t20, h21, h⟩ := h
    obtain ⟨t22, h23, h⟩ := h
    refine LE.r (v := (Value.agg #[(Value.int .i64 t20), (Value.float .f64 t22)])) (Wn.no rfl) rfl (R.ldA ag37 sz37 rfl rfl (Cs.cons h21 (Cs.cons h23 Cs.nil))) ?_
    obtain ⟨w24, hww24, h25, h⟩ := M.stA_use h
    refine LE.s (Wn.no rfl) rfl (R.stA (a := b2) [(Value.int .i64 t20), (Value.float .f64 t22)] sz37 rfl rfl rfl (by simp [Value.oneCell']) h25 hww24) ?_
    refine LE.p (v := (Value.int .i64 (0 : Int))) (Wn.no rfl) rfl (R.assign rfl) ?_
    refine LE.nil ?_
    refine WE.ret ?_
    obtain ⟨t26, h27, h⟩ := h
    obtain ⟨t28, h29, h⟩ := h
    exact ⟨_, (Res.cell rfl (R.ldCellA ag37 sz37 rfl (Cs.cons h27 (Cs.cons h29 Cs.nil))) (Res.tmp rfl Res.nil)), _, _, _, rfl, h⟩
/-- The formula of signpost.nexthop.Trail. -/
def F11 (p0 : Option Addr) (p1 : Int) (p2 : Int) (K : SV → World → Prop) (w0 : World) : Prop :=
Calls Try.prog 28 #[(Value.pointer p0), (Value.int .u32 p1), (Value.int .i64 p2)] w0 (R28 fun r1 r2 r3 r4 r5 w6 =>
M.new (.cells #[(Value.int .i64 (0 : Int)), (Value.float .f64 (0 : Nat)), (SV.v SV.nil), (SV.v SV.nil)] 70) w6 fun b8 w7 =>
M.stA b8 [(Value.int .i64 r1), (Value.float .f64 r2), (SV.v r3), (SV.v r4)] w7 fun w9 =>
M.ld SV.v (b8.add 2) w9 fun t11 =>
K t11 w9)
theorem F11_ok {w0 : World} {p0 : Option Addr} {p1 : Int} {p2 : Int} {K : SV → World → Prop} (h : F11 p0 p1 p2 K w0) : Calls Try.prog 11 #[(Value.pointer p0), (Value.int .u32 p1), (Value.int .i64 p2)] w0 (R11 K) := by
  refine calls_of_WE (args := [(Value.pointer p0), (Value.int .u32 p1), (Value.int .i64 p2)]) (rs := [.tmp 6]) Try.func11 rfl (N := 18) rfl rfl rfl rfl ?_
  refine WE.seq ?_
  refine WE.reg ?_
  refine LE.p (v := (SV.v SV.nil)) (Wn.no rfl) rfl (R.assign rfl) ?_
  refine LE.nil ?_
  refine WE.seq ?_
  refine WE.reg ?_
  refine LE.p (v := (Value.pointer p0)) (Wn.no rfl) rfl (R.move rfl) ?_
  refine LE.p (v := (Value.int .u32 p1)) (Wn.no rfl) rfl (R.move rfl) ?_
  refine LE.p (v := (Value.int .i64 p2)) (Wn.no rfl) rfl (R.move rfl) ?_
  refine LE.c (Wn.no rfl) rfl (R.call bd28 (Ls.cons rfl (Ls.cons rfl (Ls.cons rfl Ls.nil))) rfl) (Calls.mono h ?_)
  rintro _ w6 ⟨r1, r2, r3, r4, r5, rfl, h⟩
  refine ⟨_, rfl, ?_⟩
  refine LE.p (v := (Value.tuple #[(Value.agg #[(Value.int .i64 r1), (Value.float .f64 r2), (SV.v r3), (SV.v r4)]), (Value.int .i64 r5)])) (Wn.no rfl) rfl (R.move rfl) ?_
  refine LE.p (v := (Value.agg #[(Value.int .i64 r1), (Value.float .f64 r2), (SV.v r3), (SV.v r4)])) (Wn.no rfl) rfl (R.ext rfl rfl) ?_
  refine LE.p (v := (Value.int .i64 r5)) (Wn.no rfl) rfl (R.ext rfl rfl) ?_
  obtain ⟨b8, hpb8, w7, hww7, h⟩ := M.new_use h
  refine LE.r (v := (Value.pointer (some b8))) (Wn.no rfl) rfl (R.alloc (cs := #[(Value.int .i64 (0 : Int)), (Value.float .f64 (0 : Nat)), (SV.v SV.nil), (SV.v SV.nil)]) ze70 rfl hpb8 hww7) ?_
  obtain ⟨w9, hww9, h10, h⟩ := M.stA_use h
  refine LE.s (Wn.no rfl) rfl (R.stA (a := b8) [(Value.int .i64 r1), (Value.float .f64 r2), (SV.v r3), (SV.v r4)] sz70 rfl rfl rfl (by simp [Value.oneCell']) h10 hww9) ?_
  refine LE.p (v := (Value.int .i64 r5)) (Wn.no rfl) rfl (R.assign rfl) ?_
  refine LE.nil ?_
  refine WE.seq ?_
  refine WE.reg ?_
  refine LE.p (v := (Value.pointer (some (b8.add 2)))) (Wn.no rfl) rfl (R.fld (off := 2) fa70_1 rfl) ?_
  obtain ⟨t11, h12, h⟩ := h
  refine LE.r (v := (SV.v t11)) (Wn.no rfl) rfl (R.ld sc40 rfl h12) ?_
  refine LE.p (v := (SV.v t11)) (Wn.no rfl) rfl (R.assign rfl) ?_
  refine LE.nil ?_
  refine WE.ret ?_
  exact ⟨_, (Res.tmp rfl Res.nil), _, rfl, h⟩
/-- The formula of signpost.signpostlaw16.known. -/
def F12  (K : Bool → World → Prop) (w0 : World) : Prop :=
M.new (.cells #[(Value.int .u32 (167772160 : Int)), (Value.int .i64 (8 : Int)), (Value.bool false), (Value.int .i64 (0 : Int)), (Value.int .u32 (16843009 : Int)), (Value.float .f64 (4611686018427387904 : Nat)), (Value.int .u32 (16843008 : Int)), (Value.int .i64 (24 : Int)), (Value.bool true), (Value.int .i64 (3 : Int)), (Value.int .u32 (0 : Int)), (Value.float .f64 (4617315517961601024 : Nat))] 32) w0 fun b3 w1 =>
Calls Try.prog 13 #[(SV.v (SV.mk (some b3) 2 2)), (Value.bool false)] w1 (R13 fun r4 r5 w6 =>
M.ite (Option.isNone r4) (
K false w6) (
Calls Try.prog 10 #[(Value.pointer r4), (Value.int .u32 (167772161 : Int)), (Value.int .i64 (2 : Int))] w6 (R10 fun r8 r9 r10 w11 =>
M.new (.cells #[(Value.int .i64 (0 : Int)), (Value.float .f64 (0 : Nat))] 37) w11 fun b13 w12 =>
M.stA b13 [(Value.int .i64 r8), (Value.float .f64 r9)] w12 fun w14 =>
Calls Try.prog 10 #[(Value.pointer r4), (Value.int .u32 (167772161 : Int)), (Value.int .i64 (1 : Int))] w14 (R10 fun r16 r17 r18 w19 =>
M.new (.cells #[(Value.int .i64 (0 : Int)), (Value.float .f64 (0 : Nat))] 37) w19 fun b21 w20 =>
M.stA b21 [(Value.int .i64 r16), (Value.float .f64 r17)] w20 fun w22 =>
M.join (fun (x25 : Bool) (w37 : World) => 
K x25 w37) fun J24 => 
M.ld (Value.int .i64) b13 w22 fun t26 =>
M.ite (t26 == (3 : Int)) (
M.ld (Value.float .f64) (b13.add 1) w22 fun t29 =>
M.ite (fEql t29 (4619567317775286272 : Nat)) (
M.ite (r10 == (0 : Int)) (
M.ite (r18 == (27 : Int)) (
Calls Try.prog 11 #[(Value.pointer r4), (Value.int .u32 (167772161 : Int)), (Value.int .i64 (2 : Int))] w22 (R11 fun r34 w35 =>
J24 ((r34.len : Int) == (2 : Int)) w35)) (
J24 false w22)) (
J24 false w22)) (
J24 false w22)) (
J24 false w22)))))
theorem F12_ok {w0 : World}  {K : Bool → World → Prop} (h : F12 K w0) : Calls Try.prog 12 #[] w0 (R12 K) := by
  refine calls_of_WE (args := []) (rs := [.tmp 0]) Try.func12 rfl (N := 50) rfl rfl rfl rfl ?_
  refine WE.seq ?_
  refine WE.reg ?_
  refine LE.p (v := (Value.bool false)) (Wn.no rfl) rfl (R.assign rfl) ?_
  refine LE.nil ?_
  refine WE.seq ?_
  refine WE.reg ?_
  refine LE.p (v := (Value.agg #[(Value.int .u32 (167772160 : Int)), (Value.int .i64 (8 : Int))])) (Wn.no rfl) rfl (R.bld (by exact (Ls.cons (R.Pr rfl) (Ls.cons (R.Pr rfl) Ls.nil))) (fun w => bu28_0_1 (167772160 : Int) (8 : Int) w)) ?_
  refine LE.p (v := (Value.agg #[(Value.int .u32 (167772160 : Int)), (Value.int .i64 (8 : Int)), (Value.bool false), (Value.int .i64 (0 : Int)), (Value.int .u32 (16843009 : Int)), (Value.float .f64 (4611686018427387904 : Nat))])) (Wn.no rfl) rfl (R.bld (by exact (Ls.cons (R.Pr rfl) (Ls.cons (R.Pr rfl) (Ls.cons (R.Pr rfl) Ls.nil)))) (fun w => bu32_0_3_4 (167772160 : Int) (8 : Int) (16843009 : Int) (4611686018427387904 : Nat) w)) ?_
  refine LE.p (v := (Value.agg #[(Value.int .u32 (16843008 : Int)), (Value.int .i64 (24 : Int))])) (Wn.no rfl) rfl (R.bld (by exact (Ls.cons (R.Pr rfl) (Ls.cons (R.Pr rfl) Ls.nil))) (fun w => bu28_0_1 (16843008 : Int) (24 : Int) w)) ?_
  refine LE.p (v := (Value.agg #[(Value.int .u32 (16843008 : Int)), (Value.int .i64 (24 : Int)), (Value.bool true), (Value.int .i64 (3 : Int)), (Value.int .u32 (0 : Int)), (Value.float .f64 (4617315517961601024 : Nat))])) (Wn.no rfl) rfl (R.bld (by exact (Ls.cons (R.Pr rfl) (Ls.cons (R.Pr rfl) (Ls.cons (R.Pr rfl) (Ls.cons (R.Pr rfl) Ls.nil))))) (fun w => bu32_0_1_2_4 (16843008 : Int) (24 : Int) true (3 : Int) (4617315517961601024 : Nat) w)) ?_
  obtain ⟨b3, hpb3, w1, hww1, h⟩ := M.new_use h
  refine LE.r (v := (SV.v (SV.mk (some b3) 2 2))) (Wn.no rfl) rfl (R.bsl (by exact (Ls.cons (R.Pr rfl) (Ls.cons (R.Pr rfl) Ls.nil))) (fun w => bs44_2 (167772160 : Int) (8 : Int) false (0 : Int) (16843009 : Int) (4611686018427387904 : Nat) (16843008 : Int) (24 : Int) true (3 : Int) (0 : Int) (4617315517961601024 : Nat) w) hpb3 hww1) ?_
  refine LE.c (Wn.no rfl) rfl (R.call bd13 (Ls.cons rfl (Ls.cons rfl Ls.nil)) rfl) (Calls.mono h ?_)
  rintro _ w6 ⟨r4, r5, rfl, h⟩
  refine ⟨_, rfl, ?_⟩
  refine LE.p (v := (Value.tuple #[(Value.pointer r4), (Value.pointer r5)])) (Wn.no rfl) rfl (R.move rfl) ?_
  refine LE.p (v := (Value.pointer r4)) (Wn.no rfl) rfl (R.ext rfl rfl) ?_
  refine LE.p (v := (Value.pointer r5)) (Wn.no rfl) rfl (R.ext rfl rfl) ?_
  refine LE.p (v := (Value.pointer r4)) (Wn.no rfl) rfl (R.assign rfl) ?_
  refine LE.p (v := (Value.pointer r5)) (Wn.no rfl) rfl (R.assign rfl) ?_
  refine LE.nil ?_
  refine WE.seq ?_
  refine WE.seq ?_
  refine WE.reg ?_
  refine LE.p (v := (Value.pointer r4)) (Wn.no rfl) rfl (R.move rfl) ?_
  refine LE.p (v := (Value.bool (Option.isNone r4))) (Wn.no rfl) rfl (R.peqNil pt24 rfl rfl) ?_
  refine LE.nil ?_
  refine WE.condT rfl (b := (Option.isNone r4)) rfl ?_ ?_
  · intro hb7
    replace h := M.ite_t h hb7
    refine WE.seq ?_
    refine WE.reg ?_
    refine LE.p (v := (Value.bool false)) (Wn.no rfl) rfl (R.assign rfl) ?_
    refine LE.nil ?_
    refine WE.ret ?_
    exact ⟨_, (Res.tmp rfl Res.nil), _, rfl, h⟩
  · intro hb7
    replace h := M.ite_f h hb7
    refine WE.skip ?_
    refine WE.seq ?_
    refine WE.reg ?_
    refine LE.p (v := (Value.pointer r4)) (Wn.no rfl) rfl (R.move rfl) ?_
    refine LE.c (Wn.no rfl) rfl (R.call bd10 (Ls.cons rfl (Ls.cons rfl (Ls.cons rfl Ls.nil))) rfl) (Calls.mono h ?_)
    rintro _ w11 ⟨r8, r9, r10, rfl, h⟩
    refine ⟨_, rfl, ?_⟩
    refine LE.p (v := (Value.tuple #[(Value.agg #[(Value.int .i64 r8), (Value.float .f64 r9)]), (Value.int .i64 r10)])) (Wn.no rfl) rfl (R.move rfl) ?_
    refine LE.p (v := (Value.agg #[(Value.int .i64 r8), (Value.float .f64 r9)])) (Wn.no rfl) rfl (R.ext rfl rfl) ?_
    refine LE.p (v := (Value.int .i64 r10)) (Wn.no rfl) rfl (R.ext rfl rfl) ?_
    obtain ⟨b13, hpb13, w12, hww12, h⟩ := M.new_use h
    refine LE.r (v := (Value.pointer (some b13))) (Wn.no rfl) rfl (R.alloc (cs := #[(Value.int .i64 (0 : Int)), (Value.float .f64 (0 : Nat))]) ze37 rfl hpb13 hww12) ?_
    obtain ⟨w14, hww14, h15, h⟩ := M.stA_use h
    refine LE.s (Wn.no rfl) rfl (R.stA (a := b13) [(Value.int .i64 r8), (Value.float .f64 r9)] sz37 rfl rfl rfl (by simp [Value.oneCell']) h15 hww14) ?_
    refine LE.p (v := (Value.int .i64 r10)) (Wn.no rfl) rfl (R.assign rfl) ?_
    refine LE.nil ?_
    refine WE.seq ?_
    refine WE.reg ?_
    refine LE.p (v := (Value.pointer r4)) (Wn.no rfl) rfl (R.move rfl) ?_
    refine LE.c (Wn.no rfl) rfl (R.call bd10 (Ls.cons rfl (Ls.cons rfl (Ls.cons rfl Ls.nil))) rfl) (Calls.mono h ?_)
    rintro _ w19 ⟨r16, r17, r18, rfl, h⟩
    refine ⟨_, rfl, ?_⟩
    refine LE.p (v := (Value.tuple #[(Value.agg #[(Value.int .i64 r16), (Value.float .f64 r17)]), (Value.int .i64 r18)])) (Wn.no rfl) rfl (R.move rfl) ?_
    refine LE.p (v := (Value.agg #[(Value.int .i64 r16), (Value.float .f64 r17)])) (Wn.no rfl) rfl (R.ext rfl rfl) ?_
    refine LE.p (v := (Value.int .i64 r18)) (Wn.no rfl) rfl (R.ext rfl rfl) ?_
    obtain ⟨b21, hpb21, w20, hww20, h⟩ := M.new_use h
    refine LE.r (v := (Value.pointer (some b21))) (Wn.no rfl) rfl (R.alloc (cs := #[(Value.int .i64 (0 : Int)), (Value.float .f64 (0 : Nat))]) ze37 rfl hpb21 hww20) ?_
    obtain ⟨w22, hww22, h23, h⟩ := M.stA_use h
    refine LE.s (Wn.no rfl) rfl (R.stA (a := b21) [(Value.int .i64 r16), (Value.float .f64 r17)] sz37 rfl rfl rfl (by simp [Value.oneCell']) h23 hww22) ?_
    refine LE.p (v := (Value.int .i64 r18)) (Wn.no rfl) rfl (R.assign rfl) ?_
    refine LE.nil ?_
    refine WE.seq ?_
    obtain ⟨J24, hJ24, h⟩ := M.join_use h
    refine WE.regJ (fun e w => ∃ (x25 : Bool), J24 x25 w ∧ e 0 = (Value.bool x25)) ?_ ?_
    · clear hJ24
      refine LE.p (v := (Value.pointer (some b13))) (Wn.no rfl) rfl (R.fld (off := 0) fa37_0 rfl) ?_
      obtain ⟨t26, h27, h⟩ := h
      refine LE.r (v := (Value.int .i64 t26)) (Wn.no rfl) rfl (R.ld sc3 rfl h27) ?_
      refine LE.p (v := (Value.bool (t26 == (3 : Int)))) (Wn.no rfl) rfl (R.eql rfl rfl) ?_
      refine LE.p (v := (Value.bool (t26 == (3 : Int)))) (Wn.no rfl) rfl (R.move rfl) ?_
      rcases M.ite_use h with ⟨hb28, h⟩ | ⟨hb28, h⟩
      · refine LE.p (v := (Value.pointer (some (b13.add 1)))) (Wn.yes 3 31 true rfl rfl rfl (congrArg Value.bool hb28)) rfl (R.fld (off := 1) fa37_1 rfl) ?_
        obtain ⟨t29, h30, h⟩ := h
        refine LE.r (v := (Value.float .f64 t29)) (Wn.yes 3 31 true rfl rfl rfl (congrArg Value.bool hb28)) rfl (R.ld sc22 rfl h30) ?_
        refine LE.p (v := (Value.bool (fEql t29 (4619567317775286272 : Nat)))) (Wn.yes 3 31 true rfl rfl rfl (congrArg Value.bool hb28)) rfl (R.feql rfl rfl) ?_
        refine LE.p (v := (Value.bool (fEql t29 (4619567317775286272 : Nat)))) (Wn.no rfl) rfl (R.pickT (congrArg Value.bool hb28) rfl) ?_
        refine LE.p (v := (Value.bool (fEql t29 (4619567317775286272 : Nat)))) (Wn.no rfl) rfl (R.move rfl) ?_
        rcases M.ite_use h with ⟨hb31, h⟩ | ⟨hb31, h⟩
        · refine LE.p (v := (Value.int .i64 r10)) (Wn.yes 8 36 true rfl rfl rfl (congrArg Value.bool hb31)) rfl (R.move rfl) ?_
          refine LE.p (v := (Value.bool (r10 == (0 : Int)))) (Wn.yes 8 36 true rfl rfl rfl (congrArg Value.bool hb31)) rfl (R.eql rfl rfl) ?_
          refine LE.p (v := (Value.bool (r10 == (0 : Int)))) (Wn.no rfl) rfl (R.pickT (congrArg Value.bool hb31) rfl) ?_
          refine LE.p (v := (Value.bool (r10 == (0 : Int)))) (Wn.no rfl) rfl (R.move rfl) ?_
          rcases M.ite_use h with ⟨hb32, h⟩ | ⟨hb32, h⟩
          · refine LE.p (v := (Value.int .i64 r18)) (Wn.yes 12 40 true rfl rfl rfl (congrArg Value.bool hb32)) rfl (R.move rfl) ?_
            refine LE.p (v := (Value.bool (r18 == (27 : Int)))) (Wn.yes 12 40 true rfl rfl rfl (congrArg Value.bool hb32)) rfl (R.eql rfl rfl) ?_
            refine LE.p (v := (Value.bool (r18 == (27 : Int)))) (Wn.no rfl) rfl (R.pickT (congrArg Value.bool hb32) rfl) ?_
            refine LE.p (v := (Value.bool (r18 == (27 : Int)))) (Wn.no rfl) rfl (R.move rfl) ?_
            rcases M.ite_use h with ⟨hb33, h⟩ | ⟨hb33, h⟩
            · refine LE.p (v := (Value.pointer r4)) (Wn.yes 16 44 true rfl rfl rfl (congrArg Value.bool hb33)) rfl (R.move rfl) ?_
              refine LE.c (Wn.yes 16 44 true rfl rfl rfl (congrArg Value.bool hb33)) rfl (R.call bd11 (Ls.cons rfl (Ls.cons rfl (Ls.cons rfl Ls.nil))) rfl) (Calls.mono h ?_)
              rintro _ w35 ⟨r34, rfl, h⟩
              refine ⟨_, rfl, ?_⟩
              refine LE.p (v := (Value.int .i64 (r34.len : Int))) (Wn.yes 16 44 true rfl rfl rfl (congrArg Value.bool hb33)) rfl (R.len sl40 rfl) ?_
              refine LE.p (v := (Value.bool ((r34.len : Int) == (2 : Int)))) (Wn.yes 16 44 true rfl rfl rfl (congrArg Value.bool hb33)) rfl (R.eql rfl rfl) ?_
              refine LE.p (v := (Value.bool ((r34.len : Int) == (2 : Int)))) (Wn.no rfl) rfl (R.pickT (congrArg Value.bool hb33) rfl) ?_
              refine LE.p (v := (Value.bool ((r34.len : Int) == (2 : Int)))) (Wn.no rfl) rfl (R.assign rfl) ?_
              refine LE.nil ?_
              exact ⟨_, h, rfl⟩
            · refine LE.u (Un.no 16 44 true rfl rfl rfl (congrArg Value.bool hb33)) ?_
              refine LE.u (Un.no 16 44 true rfl rfl rfl (congrArg Value.bool hb33)) ?_
              refine LE.u (Un.no 16 44 true rfl rfl rfl (congrArg Value.bool hb33)) ?_
              refine LE.u (Un.no 16 44 true rfl rfl rfl (congrArg Value.bool hb33)) ?_
              refine LE.p (v := (Value.bool false)) (Wn.no rfl) rfl (R.pickF (congrArg Value.bool hb33) rfl) ?_
              refine LE.p (v := (Value.bool false)) (Wn.no rfl) rfl (R.assign rfl) ?_
              refine LE.nil ?_
              exact ⟨_, h, rfl⟩
          · refine LE.u (Un.no 12 40 true rfl rfl rfl (congrArg Value.bool hb32)) ?_
            refine LE.u (Un.no 12 40 true rfl rfl rfl (congrArg Value.bool hb32)) ?_
            refine LE.p (v := (Value.bool false)) (Wn.no rfl) rfl (R.pickF (congrArg Value.bool hb32) rfl) ?_
            refine LE.p (v := (Value.bool false)) (Wn.no rfl) rfl (R.move rfl) ?_
            refine LE.u (Un.no 16 44 true rfl rfl rfl rfl) ?_
            refine LE.u (Un.no 16 44 true rfl rfl rfl rfl) ?_
            refine LE.u (Un.no 16 44 true rfl rfl rfl rfl) ?_
            refine LE.u (Un.no 16 44 true rfl rfl rfl rfl) ?_
            refine LE.p (v := (Value.bool false)) (Wn.no rfl) rfl (R.pickF rfl rfl) ?_
            refine LE.p (v := (Value.bool false)) (Wn.no rfl) rfl (R.assign rfl) ?_
            refine LE.nil ?_
            exact ⟨_, h, rfl⟩
        · refine LE.u (Un.no 8 36 true rfl rfl rfl (congrArg Value.bool hb31)) ?_
          refine LE.u (Un.no 8 36 true rfl rfl rfl (congrArg Value.bool hb31)) ?_
          refine LE.p (v := (Value.bool false)) (Wn.no rfl) rfl (R.pickF (congrArg Value.bool hb31) rfl) ?_
          refine LE.p (v := (Value.bool false)) (Wn.no rfl) rfl (R.move rfl) ?_
          refine LE.u (Un.no 12 40 true rfl rfl rfl rfl) ?_
          refine LE.u (Un.no 12 40 true rfl rfl rfl rfl) ?_
          refine LE.p (v := (Value.bool false)) (Wn.no rfl) rfl (R.pickF rfl rfl) ?_
          refine LE.p (v := (Value.bool false)) (Wn.no rfl) rfl (R.move rfl) ?_
          refine LE.u (Un.no 16 44 true rfl rfl rfl rfl) ?_
          refine LE.u (Un.no 16 44 true rfl rfl rfl rfl) ?_
          refine LE.u (Un.no 16 44 true rfl rfl rfl rfl) ?_
          refine LE.u (Un.no 16 44 true rfl rfl rfl rfl) ?_
          refine LE.p (v := (Value.bool false)) (Wn.no rfl) rfl (R.pickF rfl rfl) ?_
          refine LE.p (v := (Value.bool false)) (Wn.no rfl) rfl (R.assign rfl) ?_
          refine LE.nil ?_
          exact ⟨_, h, rfl⟩
      · refine LE.u (Un.no 3 31 true rfl rfl rfl (congrArg Value.bool hb28)) ?_
        refine LE.u (Un.no 3 31 true rfl rfl rfl (congrArg Value.bool hb28)) ?_
        refine LE.u (Un.no 3 31 true rfl rfl rfl (congrArg Value.bool hb28)) ?_
        refine LE.p (v := (Value.bool false)) (Wn.no rfl) rfl (R.pickF (congrArg Value.bool hb28) rfl) ?_
        refine LE.p (v := (Value.bool false)) (Wn.no rfl) rfl (R.move rfl) ?_
        refine LE.u (Un.no 8 36 true rfl rfl rfl rfl) ?_
        refine LE.u (Un.no 8 36 true rfl rfl rfl rfl) ?_
        refine LE.p (v := (Value.bool false)) (Wn.no rfl) rfl (R.pickF rfl rfl) ?_
        refine LE.p (v := (Value.bool false)) (Wn.no rfl) rfl (R.move rfl) ?_
        refine LE.u (Un.no 12 40 true rfl rfl rfl rfl) ?_
        refine LE.u (Un.no 12 40 true rfl rfl rfl rfl) ?_
        refine LE.p (v := (Value.bool false)) (Wn.no rfl) rfl (R.pickF rfl rfl) ?_
        refine LE.p (v := (Value.bool false)) (Wn.no rfl) rfl (R.move rfl) ?_
        refine LE.u (Un.no 16 44 true rfl rfl rfl rfl) ?_
        refine LE.u (Un.no 16 44 true rfl rfl rfl rfl) ?_
        refine LE.u (Un.no 16 44 true rfl rfl rfl rfl) ?_
        refine LE.u (Un.no 16 44 true rfl rfl rfl rfl) ?_
        refine LE.p (v := (Value.bool false)) (Wn.no rfl) rfl (R.pickF rfl rfl) ?_
        refine LE.p (v := (Value.bool false)) (Wn.no rfl) rfl (R.assign rfl) ?_
        refine LE.nil ?_
        exact ⟨_, h, rfl⟩
    · rintro e36 w37 ⟨x25, h, f38⟩
      subst hJ24
      refine WE.ret ?_
      exact ⟨_, (Res.tmp f38 Res.nil), _, rfl, h⟩
/-- The formula of signpost.signpostlaw16.tables. -/
def F13 (p0 : SV) (p1 : Bool) (K : Option Addr → Option Addr → World → Prop) (w0 : World) : Prop :=
Calls Try.prog 7 #[] w0 (R7 fun r1 w2 =>
M.new (.cells #[(SV.v SV.nil)] 74) w2 fun b4 w3 =>
M.loop1 (fun (J6 : Int → World → Prop) (x5 : Int) (w7 : World) => 
M.join (fun (x20 : Bool) (w24 : World) => 
M.ite x20 (
M.idx p0 x5 6 fun a32 =>
∃ (t36 : Int) (t37 : Int) (t38 : Bool) (t39 : Int) (t40 : Int) (t41 : Nat), Cs w24 (a32.add (x5.toNat * 6)) 0 [(Value.int .u32 t36), (Value.int .i64 t37), (Value.bool t38), (Value.int .i64 t39), (Value.int .u32 t40), (Value.float .f64 t41)] ∧
M.new (.cells #[(Value.int .u32 (0 : Int)), (Value.int .i64 (0 : Int)), (Value.bool false), (Value.int .i64 (0 : Int)), (Value.int .u32 (0 : Int)), (Value.float .f64 (0 : Nat))] 32) w24 fun b44 w43 =>
M.stA b44 [(Value.int .u32 t36), (Value.int .i64 t37), (Value.bool t38), (Value.int .i64 t39), (Value.int .u32 t40), (Value.float .f64 t41)] w43 fun w45 =>
M.join (fun (w66 : World) => 
∃ (t73 : Int) (t74 : Int) (t75 : Bool) (t76 : Int) (t77 : Int) (t78 : Nat), Cs w66 b44 0 [(Value.int .u32 t73), (Value.int .i64 t74), (Value.bool t75), (Value.int .i64 t76), (Value.int .u32 t77), (Value.float .f64 t78)] ∧
Calls Try.prog 9 #[(Value.pointer r1), (Value.agg #[(Value.int .u32 t73), (Value.int .i64 t74), (Value.bool t75), (Value.int .i64 t76), (Value.int .u32 t77), (Value.float .f64 t78)])] w66 (R9 fun r80 r81 w82 =>
∃ (t83 : Int) (t84 : Int) (t85 : Bool) (t86 : Int) (t87 : Int) (t88 : Nat), Cs w82 b44 0 [(Value.int .u32 t83), (Value.int .i64 t84), (Value.bool t85), (Value.int .i64 t86), (Value.int .u32 t87), (Value.float .f64 t88)] ∧
Calls Try.prog 29 #[(Value.pointer (some b4)), (Value.agg #[(Value.int .u32 t83), (Value.int .i64 t84), (Value.bool t85), (Value.int .i64 t86), (Value.int .u32 t87), (Value.float .f64 t88)])] w82 (R29 fun r90 r91 w92 =>
J6 (IntKind.i64.wrap (x5 + (1 : Int))) w92))) fun J47 => 
M.ite p1 (
∃ (t49 : Int) (t50 : Int) (t51 : Bool) (t52 : Int) (t53 : Int) (t54 : Nat), Cs w45 b44 0 [(Value.int .u32 t49), (Value.int .i64 t50), (Value.bool t51), (Value.int .i64 t52), (Value.int .u32 t53), (Value.float .f64 t54)] ∧
Calls Try.prog 15 #[(Value.agg #[(Value.int .u32 t49), (Value.int .i64 t50), (Value.bool t51), (Value.int .i64 t52), (Value.int .u32 t53), (Value.float .f64 t54)])] w45 (R15 fun r56 r57 r58 r59 r60 r61 w62 =>
M.stA b44 [(Value.int .u32 r56), (Value.int .i64 r57), (Value.bool r58), (Value.int .i64 r59), (Value.int .u32 r60), (Value.float .f64 r61)] w62 fun w63 =>
J47 w63)) (
J47 w45)) (
K r1 (some b4) w24)) fun J19 => 
M.ite (!(Option.isNone r1)) (
M.ite (decide (x5 < (p0.len : Int))) (
J19 (decide (x5 < (30 : Int))) w7) (
J19 false w7)) (
J19 false w7)) (0 : Int) w3)
theorem F13_ok {w0 : World} {p0 : SV} {p1 : Bool} {K : Option Addr → Option Addr → World → Prop} (h : F13 p0 p1 K w0) : Calls Try.prog 13 #[(SV.v p0), (Value.bool p1)] w0 (R13 K) := by
  refine calls_of_WE (args := [(SV.v p0), (Value.bool p1)]) (rs := [.tmp 4, .tmp 5]) Try.func13 rfl (N := 42) rfl rfl rfl rfl ?_
  refine WE.seq ?_
  refine WE.reg ?_
  refine LE.p (v := (Value.pointer (none : Option Addr))) (Wn.no rfl) rfl (R.assign rfl) ?_
  refine LE.p (v := (Value.pointer (none : Option Addr))) (Wn.no rfl) rfl (R.assign rfl) ?_
  refine LE.nil ?_
  refine WE.seq ?_
  refine WE.reg ?_
  refine LE.c (Wn.no rfl) rfl (R.call bd7 Ls.nil rfl) (Calls.mono h ?_)
  rintro _ w2 ⟨r1, rfl, h⟩
  refine ⟨_, rfl, ?_⟩
  refine LE.p (v := (Value.pointer r1)) (Wn.no rfl) rfl (R.assign rfl) ?_
  refine LE.nil ?_
  refine WE.seq ?_
  refine WE.reg ?_
  refine LE.p (v := (Value.agg #[(SV.v SV.nil)])) (Wn.no rfl) rfl (R.bld (by exact Ls.nil) (fun w => bu74_  w)) ?_
  obtain ⟨b4, hpb4, w3, hww3, h⟩ := M.new_use h
  refine LE.r (v := (Value.pointer (some b4))) (Wn.no rfl) rfl (R.box (cs := #[(SV.v SV.nil)]) rfl rfl hpb4 hww3) ?_
  refine LE.p (v := (Value.pointer (some b4))) (Wn.no rfl) rfl (R.assign rfl) ?_
  refine LE.nil ?_
  refine WE.seq ?_
  refine WE.seq ?_
  refine WE.reg ?_
  refine LE.p (v := (Value.int .i64 (0 : Int))) (Wn.no rfl) rfl (R.assign rfl) ?_
  refine LE.nil ?_
  refine WE.block ?_
  obtain ⟨I10, ⟨n9, h⟩, hr11⟩ := h
  refine WE.loop (fun n e w => ∃ (x5 : Int), I10 n x5 w ∧ e 0 = (SV.v p0) ∧ e 1 = (Value.bool p1) ∧ e 6 = (Value.pointer r1) ∧ e 7 = (Value.pointer (some b4)) ∧ e 8 = (Value.int .i64 x5)) n9 ⟨_, h, rfl, rfl, rfl, rfl, rfl⟩ ?_
  clear h
  rintro n9 e8 w7 ⟨x5, h, f14, f15, f16, f17, f18⟩
  replace h := hr11 n9 x5 w7 h
  refine WE.seq ?_
  refine WE.seq ?_
  obtain ⟨J19, hJ19, h⟩ := M.join_use h
  refine WE.regJ (fun e w => ∃ (x20 : Bool), J19 x20 w ∧ e 0 = (SV.v p0) ∧ e 1 = (Value.bool p1) ∧ e 6 = (Value.pointer r1) ∧ e 7 = (Value.pointer (some b4)) ∧ e 8 = (Value.int .i64 x5) ∧ e 24 = (Value.bool x20)) ?_ ?_
  · clear hJ19
    refine LE.p (v := (Value.pointer r1)) (Wn.no rfl) rfl (R.move f16) ?_
    refine LE.p (v := (Value.bool (!(Option.isNone r1)))) (Wn.no rfl) rfl (R.pneNil pt24 rfl rfl) ?_
    refine LE.p (v := (Value.bool (!(Option.isNone r1)))) (Wn.no rfl) rfl (R.move rfl) ?_
    rcases M.ite_use h with ⟨hb21, h⟩ | ⟨hb21, h⟩
    · refine LE.p (v := (Value.int .i64 x5)) (Wn.yes 2 15 true rfl rfl rfl (congrArg Value.bool hb21)) rfl (R.move f18) ?_
      refine LE.p (v := (SV.v p0)) (Wn.yes 2 15 true rfl rfl rfl (congrArg Value.bool hb21)) rfl (R.move f14) ?_
      refine LE.p (v := (Value.int .i64 (p0.len : Int))) (Wn.yes 2 15 true rfl rfl rfl (congrArg Value.bool hb21)) rfl (R.len sl44 rfl) ?_
      refine LE.p (v := (Value.bool (decide (x5 < (p0.len : Int))))) (Wn.yes 2 15 true rfl rfl rfl (congrArg Value.bool hb21)) rfl (R.lss rfl rfl) ?_
      refine LE.p (v := (Value.bool (decide (x5 < (p0.len : Int))))) (Wn.no rfl) rfl (R.pickT (congrArg Value.bool hb21) rfl) ?_
      refine LE.p (v := (Value.bool (decide (x5 < (p0.len : Int))))) (Wn.no rfl) rfl (R.move rfl) ?_
      rcases M.ite_use h with ⟨hb22, h⟩ | ⟨hb22, h⟩
      · refine LE.p (v := (Value.int .i64 x5)) (Wn.yes 8 21 true rfl rfl rfl (congrArg Value.bool hb22)) rfl (R.move f18) ?_
        refine LE.p (v := (Value.bool (decide (x5 < (30 : Int))))) (Wn.yes 8 21 true rfl rfl rfl (congrArg Value.bool hb22)) rfl (R.lss rfl rfl) ?_
        refine LE.p (v := (Value.bool (decide (x5 < (30 : Int))))) (Wn.no rfl) rfl (R.pickT (congrArg Value.bool hb22) rfl) ?_
        refine LE.nil ?_
        exact ⟨_, h, f14, f15, f16, f17, f18, rfl⟩
      · refine LE.u (Un.no 8 21 true rfl rfl rfl (congrArg Value.bool hb22)) ?_
        refine LE.u (Un.no 8 21 true rfl rfl rfl (congrArg Value.bool hb22)) ?_
        refine LE.p (v := (Value.bool false)) (Wn.no rfl) rfl (R.pickF (congrArg Value.bool hb22) rfl) ?_
        refine LE.nil ?_
        exact ⟨_, h, f14, f15, f16, f17, f18, rfl⟩
    · refine LE.u (Un.no 2 15 true rfl rfl rfl (congrArg Value.bool hb21)) ?_
      refine LE.u (Un.no 2 15 true rfl rfl rfl (congrArg Value.bool hb21)) ?_
      refine LE.u (Un.no 2 15 true rfl rfl rfl (congrArg Value.bool hb21)) ?_
      refine LE.u (Un.no 2 15 true rfl rfl rfl (congrArg Value.bool hb21)) ?_
      refine LE.p (v := (Value.bool false)) (Wn.no rfl) rfl (R.pickF (congrArg Value.bool hb21) rfl) ?_
      refine LE.p (v := (Value.bool false)) (Wn.no rfl) rfl (R.move rfl) ?_
      refine LE.u (Un.no 8 21 true rfl rfl rfl rfl) ?_
      refine LE.u (Un.no 8 21 true rfl rfl rfl rfl) ?_
      refine LE.p (v := (Value.bool false)) (Wn.no rfl) rfl (R.pickF rfl rfl) ?_
      refine LE.nil ?_
      exact ⟨_, h, f14, f15, f16, f17, f18, rfl⟩
  · rintro e23 w24 ⟨x20, h, f25, f26, f27, f28, f29, f30⟩
    subst hJ19
    refine WE.condT rfl (b := x20) f30 ?_ ?_
    · intro hb31
      replace h := M.ite_t h hb31
      refine WE.skip ?_
      refine WE.seq ?_
      refine WE.block ?_
      refine WE.seq ?_
      refine WE.reg ?_
      refine LE.p (v := (SV.v p0)) (Wn.no rfl) rfl (R.move f25) ?_
      refine LE.p (v := (Value.int .i64 x5)) (Wn.no rfl) rfl (R.move f29) ?_
      obtain ⟨a32, h33, h34, h35, h⟩ := h
      refine LE.p (v := (Value.pointer (some (a32.add (x5.toNat * 6))))) (Wn.no rfl) rfl (R.idx (s := p0) sl44 rfl rfl h33 h34 h35) ?_
      obtain ⟨t36, t37, t38, t39, t40, t41, h42, h⟩ := h
      refine LE.r (v := (Value.agg #[(Value.int .u32 t36), (Value.int .i64 t37), (Value.bool t38), (Value.int .i64 t39), (Value.int .u32 t40), (Value.float .f64 t41)])) (Wn.no rfl) rfl (R.ldA ag32 sz32 rfl rfl h42) ?_
      obtain ⟨b44, hpb44, w43, hww43, h⟩ := M.new_use h
      refine LE.r (v := (Value.pointer (some b44))) (Wn.no rfl) rfl (R.alloc (cs := #[(Value.int .u32 (0 : Int)), (Value.int .i64 (0 : Int)), (Value.bool false), (Value.int .i64 (0 : Int)), (Value.int .u32 (0 : Int)), (Value.float .f64 (0 : Nat))]) ze32 rfl hpb44 hww43) ?_
      obtain ⟨w45, hww45, h46, h⟩ := M.stA_use h
      refine LE.s (Wn.no rfl) rfl (R.stA (a := b44) [(Value.int .u32 t36), (Value.int .i64 t37), (Value.bool t38), (Value.int .i64 t39), (Value.int .u32 t40), (Value.float .f64 t41)] sz32 rfl rfl rfl (by simp [Value.oneCell']) h46 hww45) ?_
      refine LE.nil ?_
      obtain ⟨J47, hJ47, h⟩ := M.join_use h
      refine WE.join (fun e w => J47 w ∧ e 0 = (SV.v p0) ∧ e 1 = (Value.bool p1) ∧ e 6 = (Value.pointer r1) ∧ e 7 = (Value.pointer (some b4)) ∧ e 8 = (Value.int .i64 x5) ∧ e 9 = (Value.pointer (some b44))) ?_ ?_
      · clear hJ47
        refine WE.seq ?_
        refine WE.reg ?_
        refine LE.p (v := (Value.bool p1)) (Wn.no rfl) rfl (R.move f26) ?_
        refine LE.nil ?_
        refine WE.condT rfl (b := p1) rfl ?_ ?_
        · intro hb48
          replace h := M.ite_t h hb48
          refine WE.reg ?_
          obtain ⟨t49, t50, t51, t52, t53, t54, h55, h⟩ := h
          refine LE.r (v := (Value.agg #[(Value.int .u32 t49), (Value.int .i64 t50), (Value.bool t51), (Value.int .i64 t52), (Value.int .u32 t53), (Value.float .f64 t54)])) (Wn.no rfl) rfl (R.ldA ag32 sz32 rfl rfl h55) ?_
          refine LE.c (Wn.no rfl) rfl (R.call bd15 (Ls.cons rfl Ls.nil) rfl) (Calls.mono h ?_)
          rintro _ w62 ⟨r56, r57, r58, r59, r60, r61, rfl, h⟩
          refine ⟨_, rfl, ?_⟩
          obtain ⟨w63, hww63, h64, h⟩ := M.stA_use h
          refine LE.s (Wn.no rfl) rfl (R.stA (a := b44) [(Value.int .u32 r56), (Value.int .i64 r57), (Value.bool r58), (Value.int .i64 r59), (Value.int .u32 r60), (Value.float .f64 r61)] sz32 rfl rfl rfl (by simp [Value.oneCell']) h64 hww63) ?_
          refine LE.nil ?_
          exact ⟨h, f25, f26, f27, f28, f29, rfl⟩
        · intro hb48
          replace h := M.ite_f h hb48
          refine WE.skip ?_
          exact ⟨h, f25, f26, f27, f28, f29, rfl⟩
      · rintro e65 w66 ⟨h, f67, f68, f69, f70, f71, f72⟩
        subst hJ47
        refine WE.seq ?_
        refine WE.reg ?_
        refine LE.p (v := (Value.pointer r1)) (Wn.no rfl) rfl (R.move f69) ?_
        obtain ⟨t73, t74, t75, t76, t77, t78, h79, h⟩ := h
        refine LE.r (v := (Value.agg #[(Value.int .u32 t73), (Value.int .i64 t74), (Value.bool t75), (Value.int .i64 t76), (Value.int .u32 t77), (Value.float .f64 t78)])) (Wn.no rfl) rfl (R.ldA ag32 sz32 f72 rfl h79) ?_
        refine LE.c (Wn.no rfl) rfl (R.call bd9 (Ls.cons rfl (Ls.cons rfl Ls.nil)) rfl) (Calls.mono h ?_)
        rintro _ w82 ⟨r80, r81, rfl, h⟩
        refine ⟨_, rfl, ?_⟩
        refine LE.nil ?_
        refine WE.reg ?_
        refine LE.p (v := (Value.pointer (some b4))) (Wn.no rfl) rfl (R.move f70) ?_
        obtain ⟨t83, t84, t85, t86, t87, t88, h89, h⟩ := h
        refine LE.r (v := (Value.agg #[(Value.int .u32 t83), (Value.int .i64 t84), (Value.bool t85), (Value.int .i64 t86), (Value.int .u32 t87), (Value.float .f64 t88)])) (Wn.no rfl) rfl (R.ldA ag32 sz32 f72 rfl h89) ?_
        refine LE.c (Wn.no rfl) rfl (R.call bd29 (Ls.cons rfl (Ls.cons rfl Ls.nil)) rfl) (Calls.mono h ?_)
        rintro _ w92 ⟨r90, r91, rfl, h⟩
        refine ⟨_, rfl, ?_⟩
        refine LE.nil ?_
        refine WE.reg ?_
        refine LE.p (v := (Value.int .i64 x5)) (Wn.no rfl) rfl (R.move f71) ?_
        refine LE.p (v := (Value.int .i64 (IntKind.i64.wrap (x5 + (1 : Int))))) (Wn.no rfl) rfl (R.add rfl rfl) ?_
        refine LE.p (v := (Value.int .i64 (IntKind.i64.wrap (x5 + (1 : Int))))) (Wn.no rfl) rfl (R.assign rfl) ?_
        refine LE.nil ?_
        obtain ⟨m12, hm13, h⟩ := h
        exact ⟨m12, hm13, _, h, f67, f68, f69, f70, rfl⟩
    · intro hb31
      replace h := M.ite_f h hb31
      refine WE.exit ?_
      refine WE.seq ?_
      refine WE.reg ?_
      refine LE.p (v := (Value.pointer r1)) (Wn.no rfl) rfl (R.move f27) ?_
      refine LE.p (v := (Value.pointer (some b4))) (Wn.no rfl) rfl (R.move f28) ?_
      refine LE.p (v := (Value.pointer r1)) (Wn.no rfl) rfl (R.assign rfl) ?_
      refine LE.p (v := (Value.pointer (some b4))) (Wn.no rfl) rfl (R.assign rfl) ?_
      refine LE.nil ?_
      refine WE.ret ?_
      exact ⟨_, (Res.tmp rfl (Res.tmp rfl Res.nil)), _, _, rfl, h⟩
/-- The formula of signpost.signpostkeep.Next. -/
def F14 (p0 : Int) (K : Int → World → Prop) (w0 : World) : Prop :=
K (bOr .u32 (3221225984 : Int) (Int.tmod p0 (6 : Int))) w0
theorem F14_ok {w0 : World} {p0 : Int} {K : Int → World → Prop} (h : F14 p0 K w0) : Calls Try.prog 14 #[(Value.int .u32 p0)] w0 (R14 K) := by
  refine calls_of_WE (args := [(Value.int .u32 p0)]) (rs := [.tmp 2]) Try.func14 rfl (N := 6) rfl rfl rfl rfl ?_
  refine WE.seq ?_
  refine WE.reg ?_
  refine LE.p (v := (Value.int .u32 (0 : Int))) (Wn.no rfl) rfl (R.assign rfl) ?_
  refine LE.nil ?_
  refine WE.seq ?_
  refine WE.reg ?_
  refine LE.p (v := (Value.int .u32 p0)) (Wn.no rfl) rfl (R.move rfl) ?_
  refine LE.p (v := (Value.int .u32 (Int.tmod p0 (6 : Int)))) (Wn.no rfl) rfl (R.rem rfl rfl (by decide)) ?_
  refine LE.p (v := (Value.int .u32 (bOr .u32 (3221225984 : Int) (Int.tmod p0 (6 : Int))))) (Wn.no rfl) rfl (R.or rfl rfl) ?_
  refine LE.p (v := (Value.int .u32 (bOr .u32 (3221225984 : Int) (Int.tmod p0 (6 : Int))))) (Wn.no rfl) rfl (R.assign rfl) ?_
  refine LE.nil ?_
  refine WE.ret ?_
  exact ⟨_, (Res.tmp rfl Res.nil), _, rfl, h⟩
end Go.Proofs.Ytecegjimdohmeaa
