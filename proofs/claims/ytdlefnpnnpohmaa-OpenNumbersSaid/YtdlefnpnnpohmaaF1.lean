/-
  Printed by gen.py: the formula of each function, and that it holds of the function.
-/
import Derived.Test.YtdlefnpnnpohmaaTy
namespace Go.Proofs.Ytdlefnpnnpohmaa
set_option linter.unusedVariables false
set_option linter.unusedSimpArgs false
open Go.Sp
set_option linter.unusedVariables false
/-- The formula of signpost.signpostlaw10.OpenTells. -/
def F3 (p0 : Int) (p1 : Int) (p2 : Int) (p3 : SV) (p4 : Int) (p5 : Int) (K : Bool → World → Prop) (w0 : World) : Prop :=
Calls Try.prog 8 #[(Value.int .i64 p0), (Value.int .i64 (0 : Int)), (Value.int .i64 (65534 : Int))] w0 (R8 fun r1 w2 =>
Calls Try.prog 8 #[(Value.int .i64 p1), (Value.int .i64 (0 : Int)), (Value.int .i64 (65532 : Int))] w2 (R8 fun r3 w4 =>
M.new (.cells #[(Value.int .i64 (0 : Int)), (Value.int .i64 (0 : Int)), (Value.int .u32 (0 : Int))] 26) w4 fun b6 w5 =>
M.stA b6 [(Value.int .i64 (IntKind.i64.wrap ((1 : Int) + r1))), (Value.int .i64 (IntKind.i64.wrap ((3 : Int) + r3))), (Value.int .u32 (bOr .u32 p2 (1 : Int)))] w5 fun w7 =>
M.ld (Value.int .i64) b6 w7 fun t9 =>
M.ld (Value.int .i64) (b6.add 1) w7 fun t11 =>
M.ld (Value.int .u32) (b6.add 2) w7 fun t13 =>
Calls Try.prog 9 #[(Value.agg #[(Value.int .i64 t9), (Value.int .i64 t11), (Value.int .u32 t13)])] w7 (R9 fun r15 w16 =>
M.join (fun (x18 : Bool) (w39 : World) => 
M.ite x18 (
K false w39) (
Calls Try.prog 8 #[(Value.int .i64 p4), (Value.int .i64 (0 : Int)), (Value.int .i64 (IntKind.i64.wrap ((r15.len : Int) - (1 : Int))))] w39 (R8 fun r46 w47 =>
M.idx r15 r46 1 fun a48 =>
M.ld (Value.int .u8) (a48.add (r46.toNat * 1)) w47 fun t52 =>
M.idx r15 r46 1 fun a54 =>
M.st (a54.add (r46.toNat * 1)) (Value.int .u8 (bXor .u8 t52 p5)) w47 fun w58 =>
M.join (fun (x62 : Bool) (w77 : World) => 
K x62 w77) fun J61 => 
Calls Try.prog 11 #[(SV.v r15)] w58 (R11 fun r63 w64 =>
M.ite r63 (
Calls Try.prog 12 #[(SV.v p3), (Value.int .i64 (5 : Int))] w64 (R12 fun r66 w67 =>
M.app Try.prog 23 23 23 r15 (SV.v r66) w67 fun s68 w69 =>
Calls Try.prog 11 #[(SV.v s68)] w69 (R11 fun r71 w72 =>
M.ite r71 (
Calls Try.prog 13 #[] w72 (R13 fun r74 w75 =>
J61 r74 w75)) (
J61 false w72)))) (
J61 false w64))))) fun J17 => 
Calls Try.prog 10 #[(Value.agg #[(Value.int .i64 p0), (Value.int .i64 p1), (Value.int .u32 p2)])] w16 (R10 fun r19 w20 =>
M.ite (!r19) (
J17 true w20) (
M.ld (Value.int .i64) b6 w20 fun t22 =>
M.ld (Value.int .i64) (b6.add 1) w20 fun t24 =>
M.ld (Value.int .u32) (b6.add 2) w20 fun t26 =>
Calls Try.prog 10 #[(Value.agg #[(Value.int .i64 t22), (Value.int .i64 t24), (Value.int .u32 t26)])] w20 (R10 fun r28 w29 =>
M.ite (!r28) (
J17 true w29) (
Calls Try.prog 11 #[(SV.v r15)] w29 (R11 fun r31 w32 =>
M.ite (!r31) (
J17 true w32) (
Calls Try.prog 12 #[(SV.v p3), (Value.int .i64 (60 : Int))] w32 (R12 fun r34 w35 =>
Calls Try.prog 11 #[(SV.v r34)] w35 (R11 fun r36 w37 =>
J17 (!r36) w37)))))))))))
theorem F3_ok {w0 : World} {p0 : Int} {p1 : Int} {p2 : Int} {p3 : SV} {p4 : Int} {p5 : Int} {K : Bool → World → Prop} (h : F3 p0 p1 p2 p3 p4 p5 K w0) : Calls Try.prog 3 #[(Value.int .i64 p0), (Value.int .i64 p1), (Value.int .u32 p2), (SV.v p3), (Value.int .i64 p4), (Value.int .u8 p5)] w0 (R3 K) := by
  refine calls_of_WE (args := [(Value.int .i64 p0), (Value.int .i64 p1), (Value.int .u32 p2), (SV.v p3), (Value.int .i64 p4), (Value.int .u8 p5)]) (rs := [.tmp 12]) Try.func3 rfl (N := 77) rfl rfl rfl rfl ?_
  refine WE.seq ?_
  refine WE.reg ?_
  refine LE.p (v := (Value.bool false)) (Wn.no rfl) rfl (R.assign rfl) ?_
  refine LE.nil ?_
  refine WE.seq ?_
  refine WE.reg ?_
  refine LE.p (v := (Value.int .i64 p0)) (Wn.no rfl) rfl (R.move rfl) ?_
  refine LE.c (Wn.no rfl) rfl (R.call bd8 (Ls.cons rfl (Ls.cons rfl (Ls.cons rfl Ls.nil))) rfl) (Calls.mono h ?_)
  rintro _ w2 ⟨r1, rfl, h⟩
  refine ⟨_, rfl, ?_⟩
  refine LE.p (v := (Value.int .i64 (IntKind.i64.wrap ((1 : Int) + r1)))) (Wn.no rfl) rfl (R.add rfl rfl) ?_
  refine LE.p (v := (Value.int .i64 p1)) (Wn.no rfl) rfl (R.move rfl) ?_
  refine LE.c (Wn.no rfl) rfl (R.call bd8 (Ls.cons rfl (Ls.cons rfl (Ls.cons rfl Ls.nil))) rfl) (Calls.mono h ?_)
  rintro _ w4 ⟨r3, rfl, h⟩
  refine ⟨_, rfl, ?_⟩
  refine LE.p (v := (Value.int .i64 (IntKind.i64.wrap ((3 : Int) + r3)))) (Wn.no rfl) rfl (R.add rfl rfl) ?_
  refine LE.p (v := (Value.int .u32 p2)) (Wn.no rfl) rfl (R.move rfl) ?_
  refine LE.p (v := (Value.int .u32 (bOr .u32 p2 (1 : Int)))) (Wn.no rfl) rfl (R.or rfl rfl) ?_
  refine LE.p (v := (Value.agg #[(Value.int .i64 (IntKind.i64.wrap ((1 : Int) + r1))), (Value.int .i64 (IntKind.i64.wrap ((3 : Int) + r3))), (Value.int .u32 (bOr .u32 p2 (1 : Int)))])) (Wn.no rfl) rfl (R.bld (by exact (Ls.cons (R.Pr rfl) (Ls.cons (R.Pr rfl) (Ls.cons (R.Pr rfl) Ls.nil)))) (fun w => bu26_0_1_2 (IntKind.i64.wrap ((1 : Int) + r1)) (IntKind.i64.wrap ((3 : Int) + r3)) (bOr .u32 p2 (1 : Int)) w)) ?_
  obtain ⟨b6, hpb6, w5, hww5, h⟩ := M.new_use h
  refine LE.r (v := (Value.pointer (some b6))) (Wn.no rfl) rfl (R.alloc (cs := #[(Value.int .i64 (0 : Int)), (Value.int .i64 (0 : Int)), (Value.int .u32 (0 : Int))]) ze26 rfl hpb6 hww5) ?_
  obtain ⟨w7, hww7, h8, h⟩ := M.stA_use h
  refine LE.s (Wn.no rfl) rfl (R.stA (a := b6) [(Value.int .i64 (IntKind.i64.wrap ((1 : Int) + r1))), (Value.int .i64 (IntKind.i64.wrap ((3 : Int) + r3))), (Value.int .u32 (bOr .u32 p2 (1 : Int)))] sz26 rfl rfl rfl (by simp [Value.oneCell']) h8 hww7) ?_
  refine LE.nil ?_
  refine WE.seq ?_
  refine WE.reg ?_
  obtain ⟨t9, h10, h⟩ := h
  obtain ⟨t11, h12, h⟩ := h
  obtain ⟨t13, h14, h⟩ := h
  refine LE.r (v := (Value.agg #[(Value.int .i64 t9), (Value.int .i64 t11), (Value.int .u32 t13)])) (Wn.no rfl) rfl (R.ldA ag26 sz26 rfl rfl (Cs.cons h10 (Cs.cons h12 (Cs.cons h14 Cs.nil)))) ?_
  refine LE.c (Wn.no rfl) rfl (R.call bd9 (Ls.cons rfl Ls.nil) rfl) (Calls.mono h ?_)
  rintro _ w16 ⟨r15, rfl, h⟩
  refine ⟨_, rfl, ?_⟩
  refine LE.p (v := (SV.v r15)) (Wn.no rfl) rfl (R.assign rfl) ?_
  refine LE.nil ?_
  refine WE.seq ?_
  refine WE.seq ?_
  obtain ⟨J17, hJ17, h⟩ := M.join_use h
  refine WE.regJ (fun e w => ∃ (x18 : Bool), J17 x18 w ∧ e 3 = (SV.v p3) ∧ e 4 = (Value.int .i64 p4) ∧ e 5 = (Value.int .u8 p5) ∧ e 14 = (SV.v r15) ∧ e 53 = (Value.bool x18)) ?_ ?_
  · clear hJ17
    refine LE.p (v := (Value.int .i64 p0)) (Wn.no rfl) rfl (R.move rfl) ?_
    refine LE.p (v := (Value.int .i64 p1)) (Wn.no rfl) rfl (R.move rfl) ?_
    refine LE.p (v := (Value.int .u32 p2)) (Wn.no rfl) rfl (R.move rfl) ?_
    refine LE.p (v := (Value.agg #[(Value.int .i64 p0), (Value.int .i64 p1), (Value.int .u32 p2)])) (Wn.no rfl) rfl (R.bld (by exact (Ls.cons (R.Pr rfl) (Ls.cons (R.Pr rfl) (Ls.cons (R.Pr rfl) Ls.nil)))) (fun w => bu29_0_1_2 p0 p1 p2 w)) ?_
    refine LE.c (Wn.no rfl) rfl (R.call bd10 (Ls.cons rfl Ls.nil) rfl) (Calls.mono h ?_)
    rintro _ w20 ⟨r19, rfl, h⟩
    refine ⟨_, rfl, ?_⟩
    refine LE.p (v := (Value.bool (!r19))) (Wn.no rfl) rfl (R.not rfl) ?_
    refine LE.p (v := (Value.bool (!r19))) (Wn.no rfl) rfl (R.move rfl) ?_
    rcases M.ite_use h with ⟨hb21, h⟩ | ⟨hb21, h⟩
    · refine LE.u (Un.no 6 32 false rfl rfl rfl (congrArg Value.bool hb21)) ?_
      refine LE.u (Un.no 6 32 false rfl rfl rfl (congrArg Value.bool hb21)) ?_
      refine LE.u (Un.no 6 32 false rfl rfl rfl (congrArg Value.bool hb21)) ?_
      refine LE.u (Un.no 6 32 false rfl rfl rfl (congrArg Value.bool hb21)) ?_
      refine LE.u (Un.no 6 32 false rfl rfl rfl (congrArg Value.bool hb21)) ?_
      refine LE.u (Un.no 6 32 false rfl rfl rfl (congrArg Value.bool hb21)) ?_
      refine LE.u (Un.no 6 32 false rfl rfl rfl (congrArg Value.bool hb21)) ?_
      refine LE.u (Un.no 6 32 false rfl rfl rfl (congrArg Value.bool hb21)) ?_
      refine LE.u (Un.no 6 32 false rfl rfl rfl (congrArg Value.bool hb21)) ?_
      refine LE.p (v := (Value.bool true)) (Wn.no rfl) rfl (R.pickT (congrArg Value.bool hb21) rfl) ?_
      refine LE.p (v := (Value.bool true)) (Wn.no rfl) rfl (R.move rfl) ?_
      refine LE.u (Un.no 17 43 false rfl rfl rfl rfl) ?_
      refine LE.u (Un.no 17 43 false rfl rfl rfl rfl) ?_
      refine LE.u (Un.no 17 43 false rfl rfl rfl rfl) ?_
      refine LE.p (v := (Value.bool true)) (Wn.no rfl) rfl (R.pickT rfl rfl) ?_
      refine LE.p (v := (Value.bool true)) (Wn.no rfl) rfl (R.move rfl) ?_
      refine LE.u (Un.no 22 48 false rfl rfl rfl rfl) ?_
      refine LE.u (Un.no 22 48 false rfl rfl rfl rfl) ?_
      refine LE.u (Un.no 22 48 false rfl rfl rfl rfl) ?_
      refine LE.u (Un.no 22 48 false rfl rfl rfl rfl) ?_
      refine LE.p (v := (Value.bool true)) (Wn.no rfl) rfl (R.pickT rfl rfl) ?_
      refine LE.nil ?_
      exact ⟨_, h, rfl, rfl, rfl, rfl, rfl⟩
    · refine LE.p (v := (Value.pointer (some b6))) (Wn.yes 6 32 false rfl rfl rfl (congrArg Value.bool hb21)) rfl (R.fld (off := 0) fa26_0 rfl) ?_
      obtain ⟨t22, h23, h⟩ := h
      refine LE.r (v := (Value.int .i64 t22)) (Wn.yes 6 32 false rfl rfl rfl (congrArg Value.bool hb21)) rfl (R.ld sc3 rfl h23) ?_
      refine LE.p (v := (Value.pointer (some (b6.add 1)))) (Wn.yes 6 32 false rfl rfl rfl (congrArg Value.bool hb21)) rfl (R.fld (off := 1) fa26_1 rfl) ?_
      obtain ⟨t24, h25, h⟩ := h
      refine LE.r (v := (Value.int .i64 t24)) (Wn.yes 6 32 false rfl rfl rfl (congrArg Value.bool hb21)) rfl (R.ld sc3 rfl h25) ?_
      refine LE.p (v := (Value.pointer (some (b6.add 2)))) (Wn.yes 6 32 false rfl rfl rfl (congrArg Value.bool hb21)) rfl (R.fld (off := 2) fa26_2 rfl) ?_
      obtain ⟨t26, h27, h⟩ := h
      refine LE.r (v := (Value.int .u32 t26)) (Wn.yes 6 32 false rfl rfl rfl (congrArg Value.bool hb21)) rfl (R.ld sc22 rfl h27) ?_
      refine LE.p (v := (Value.agg #[(Value.int .i64 t22), (Value.int .i64 t24), (Value.int .u32 t26)])) (Wn.yes 6 32 false rfl rfl rfl (congrArg Value.bool hb21)) rfl (R.bld (by exact (Ls.cons (R.Pr rfl) (Ls.cons (R.Pr rfl) (Ls.cons (R.Pr rfl) Ls.nil)))) (fun w => bu29_0_1_2 t22 t24 t26 w)) ?_
      refine LE.c (Wn.yes 6 32 false rfl rfl rfl (congrArg Value.bool hb21)) rfl (R.call bd10 (Ls.cons rfl Ls.nil) rfl) (Calls.mono h ?_)
      rintro _ w29 ⟨r28, rfl, h⟩
      refine ⟨_, rfl, ?_⟩
      refine LE.p (v := (Value.bool (!r28))) (Wn.yes 6 32 false rfl rfl rfl (congrArg Value.bool hb21)) rfl (R.not rfl) ?_
      refine LE.p (v := (Value.bool (!r28))) (Wn.no rfl) rfl (R.pickF (congrArg Value.bool hb21) rfl) ?_
      refine LE.p (v := (Value.bool (!r28))) (Wn.no rfl) rfl (R.move rfl) ?_
      rcases M.ite_use h with ⟨hb30, h⟩ | ⟨hb30, h⟩
      · refine LE.u (Un.no 17 43 false rfl rfl rfl (congrArg Value.bool hb30)) ?_
        refine LE.u (Un.no 17 43 false rfl rfl rfl (congrArg Value.bool hb30)) ?_
        refine LE.u (Un.no 17 43 false rfl rfl rfl (congrArg Value.bool hb30)) ?_
        refine LE.p (v := (Value.bool true)) (Wn.no rfl) rfl (R.pickT (congrArg Value.bool hb30) rfl) ?_
        refine LE.p (v := (Value.bool true)) (Wn.no rfl) rfl (R.move rfl) ?_
        refine LE.u (Un.no 22 48 false rfl rfl rfl rfl) ?_
        refine LE.u (Un.no 22 48 false rfl rfl rfl rfl) ?_
        refine LE.u (Un.no 22 48 false rfl rfl rfl rfl) ?_
        refine LE.u (Un.no 22 48 false rfl rfl rfl rfl) ?_
        refine LE.p (v := (Value.bool true)) (Wn.no rfl) rfl (R.pickT rfl rfl) ?_
        refine LE.nil ?_
        exact ⟨_, h, rfl, rfl, rfl, rfl, rfl⟩
      · refine LE.p (v := (SV.v r15)) (Wn.yes 17 43 false rfl rfl rfl (congrArg Value.bool hb30)) rfl (R.move rfl) ?_
        refine LE.c (Wn.yes 17 43 false rfl rfl rfl (congrArg Value.bool hb30)) rfl (R.call bd11 (Ls.cons rfl Ls.nil) rfl) (Calls.mono h ?_)
        rintro _ w32 ⟨r31, rfl, h⟩
        refine ⟨_, rfl, ?_⟩
        refine LE.p (v := (Value.bool (!r31))) (Wn.yes 17 43 false rfl rfl rfl (congrArg Value.bool hb30)) rfl (R.not rfl) ?_
        refine LE.p (v := (Value.bool (!r31))) (Wn.no rfl) rfl (R.pickF (congrArg Value.bool hb30) rfl) ?_
        refine LE.p (v := (Value.bool (!r31))) (Wn.no rfl) rfl (R.move rfl) ?_
        rcases M.ite_use h with ⟨hb33, h⟩ | ⟨hb33, h⟩
        · refine LE.u (Un.no 22 48 false rfl rfl rfl (congrArg Value.bool hb33)) ?_
          refine LE.u (Un.no 22 48 false rfl rfl rfl (congrArg Value.bool hb33)) ?_
          refine LE.u (Un.no 22 48 false rfl rfl rfl (congrArg Value.bool hb33)) ?_
          refine LE.u (Un.no 22 48 false rfl rfl rfl (congrArg Value.bool hb33)) ?_
          refine LE.p (v := (Value.bool true)) (Wn.no rfl) rfl (R.pickT (congrArg Value.bool hb33) rfl) ?_
          refine LE.nil ?_
          exact ⟨_, h, rfl, rfl, rfl, rfl, rfl⟩
        · refine LE.p (v := (SV.v p3)) (Wn.yes 22 48 false rfl rfl rfl (congrArg Value.bool hb33)) rfl (R.move rfl) ?_
          refine LE.c (Wn.yes 22 48 false rfl rfl rfl (congrArg Value.bool hb33)) rfl (R.call bd12 (Ls.cons rfl (Ls.cons rfl Ls.nil)) rfl) (Calls.mono h ?_)
          rintro _ w35 ⟨r34, rfl, h⟩
          refine ⟨_, rfl, ?_⟩
          refine LE.c (Wn.yes 22 48 false rfl rfl rfl (congrArg Value.bool hb33)) rfl (R.call bd11 (Ls.cons rfl Ls.nil) rfl) (Calls.mono h ?_)
          rintro _ w37 ⟨r36, rfl, h⟩
          refine ⟨_, rfl, ?_⟩
          refine LE.p (v := (Value.bool (!r36))) (Wn.yes 22 48 false rfl rfl rfl (congrArg Value.bool hb33)) rfl (R.not rfl) ?_
          refine LE.p (v := (Value.bool (!r36))) (Wn.no rfl) rfl (R.pickF (congrArg Value.bool hb33) rfl) ?_
          refine LE.nil ?_
          exact ⟨_, h, rfl, rfl, rfl, rfl, rfl⟩
  · rintro e38 w39 ⟨x18, h, f40, f41, f42, f43, f44⟩
    subst hJ17
    refine WE.condT rfl (b := x18) f44 ?_ ?_
    · intro hb45
      replace h := M.ite_t h hb45
      refine WE.seq ?_
      refine WE.reg ?_
      refine LE.p (v := (Value.bool false)) (Wn.no rfl) rfl (R.assign rfl) ?_
      refine LE.nil ?_
      refine WE.ret ?_
      exact ⟨_, (Res.tmp rfl Res.nil), _, rfl, h⟩
    · intro hb45
      replace h := M.ite_f h hb45
      refine WE.skip ?_
      refine WE.seq ?_
      refine WE.reg ?_
      refine LE.p (v := (SV.v r15)) (Wn.no rfl) rfl (R.move f43) ?_
      refine LE.p (v := (Value.int .i64 p4)) (Wn.no rfl) rfl (R.move f41) ?_
      refine LE.p (v := (SV.v r15)) (Wn.no rfl) rfl (R.move f43) ?_
      refine LE.p (v := (Value.int .i64 (r15.len : Int))) (Wn.no rfl) rfl (R.len sl23 rfl) ?_
      refine LE.p (v := (Value.int .i64 (IntKind.i64.wrap ((r15.len : Int) - (1 : Int))))) (Wn.no rfl) rfl (R.sub rfl rfl) ?_
      refine LE.c (Wn.no rfl) rfl (R.call bd8 (Ls.cons rfl (Ls.cons rfl (Ls.cons rfl Ls.nil))) rfl) (Calls.mono h ?_)
      rintro _ w47 ⟨r46, rfl, h⟩
      refine ⟨_, rfl, ?_⟩
      obtain ⟨a48, h49, h50, h51, h⟩ := h
      refine LE.p (v := (Value.pointer (some (a48.add (r46.toNat * 1))))) (Wn.no rfl) rfl (R.idx (s := r15) sl23 rfl rfl h49 h50 h51) ?_
      obtain ⟨t52, h53, h⟩ := h
      refine LE.r (v := (Value.int .u8 t52)) (Wn.no rfl) rfl (R.ld sc5 rfl h53) ?_
      refine LE.p (v := (Value.int .u8 p5)) (Wn.no rfl) rfl (R.move f42) ?_
      refine LE.p (v := (Value.int .u8 (bXor .u8 t52 p5))) (Wn.no rfl) rfl (R.xor rfl rfl) ?_
      obtain ⟨a54, h55, h56, h57, h⟩ := h
      refine LE.p (v := (Value.pointer (some (a54.add (r46.toNat * 1))))) (Wn.no rfl) rfl (R.idx (s := r15) sl23 rfl rfl h55 h56 h57) ?_
      obtain ⟨w58, hww58, h59, h60, h⟩ := M.st_use h
      refine LE.s (Wn.no rfl) rfl (R.st (a := (a54.add (r46.toNat * 1))) (v := (Value.int .u8 (bXor .u8 t52 p5))) sz5 rfl rfl rfl rfl h59 h60 hww58) ?_
      refine LE.nil ?_
      refine WE.seq ?_
      obtain ⟨J61, hJ61, h⟩ := M.join_use h
      refine WE.regJ (fun e w => ∃ (x62 : Bool), J61 x62 w ∧ e 12 = (Value.bool x62)) ?_ ?_
      · clear hJ61
        refine LE.p (v := (SV.v r15)) (Wn.no rfl) rfl (R.move f43) ?_
        refine LE.c (Wn.no rfl) rfl (R.call bd11 (Ls.cons rfl Ls.nil) rfl) (Calls.mono h ?_)
        rintro _ w64 ⟨r63, rfl, h⟩
        refine ⟨_, rfl, ?_⟩
        refine LE.p (v := (Value.bool r63)) (Wn.no rfl) rfl (R.move rfl) ?_
        rcases M.ite_use h with ⟨hb65, h⟩ | ⟨hb65, h⟩
        · refine LE.p (v := (SV.v r15)) (Wn.yes 2 67 true rfl rfl rfl (congrArg Value.bool hb65)) rfl (R.move f43) ?_
          refine LE.p (v := (SV.v p3)) (Wn.yes 2 67 true rfl rfl rfl (congrArg Value.bool hb65)) rfl (R.move f40) ?_
          refine LE.c (Wn.yes 2 67 true rfl rfl rfl (congrArg Value.bool hb65)) rfl (R.call bd12 (Ls.cons rfl (Ls.cons rfl Ls.nil)) rfl) (Calls.mono h ?_)
          rintro _ w67 ⟨r66, rfl, h⟩
          refine ⟨_, rfl, ?_⟩
          obtain ⟨s68, w69, h70, h⟩ := h
          refine LE.r (v := (SV.v s68)) (Wn.yes 2 67 true rfl rfl rfl (congrArg Value.bool hb65)) rfl (R.app (s := r15) (r := s68) rfl rfl h70) ?_
          refine LE.c (Wn.yes 2 67 true rfl rfl rfl (congrArg Value.bool hb65)) rfl (R.call bd11 (Ls.cons rfl Ls.nil) rfl) (Calls.mono h ?_)
          rintro _ w72 ⟨r71, rfl, h⟩
          refine ⟨_, rfl, ?_⟩
          refine LE.p (v := (Value.bool r71)) (Wn.no rfl) rfl (R.pickT (congrArg Value.bool hb65) rfl) ?_
          refine LE.p (v := (Value.bool r71)) (Wn.no rfl) rfl (R.move rfl) ?_
          rcases M.ite_use h with ⟨hb73, h⟩ | ⟨hb73, h⟩
          · refine LE.c (Wn.yes 9 74 true rfl rfl rfl (congrArg Value.bool hb73)) rfl (R.call bd13 Ls.nil rfl) (Calls.mono h ?_)
            rintro _ w75 ⟨r74, rfl, h⟩
            refine ⟨_, rfl, ?_⟩
            refine LE.p (v := (Value.bool r74)) (Wn.no rfl) rfl (R.pickT (congrArg Value.bool hb73) rfl) ?_
            refine LE.p (v := (Value.bool r74)) (Wn.no rfl) rfl (R.assign rfl) ?_
            refine LE.nil ?_
            exact ⟨_, h, rfl⟩
          · refine LE.u (Un.no 9 74 true rfl rfl rfl (congrArg Value.bool hb73)) ?_
            refine LE.p (v := (Value.bool false)) (Wn.no rfl) rfl (R.pickF (congrArg Value.bool hb73) rfl) ?_
            refine LE.p (v := (Value.bool false)) (Wn.no rfl) rfl (R.assign rfl) ?_
            refine LE.nil ?_
            exact ⟨_, h, rfl⟩
        · refine LE.u (Un.no 2 67 true rfl rfl rfl (congrArg Value.bool hb65)) ?_
          refine LE.u (Un.no 2 67 true rfl rfl rfl (congrArg Value.bool hb65)) ?_
          refine LE.u (Un.no 2 67 true rfl rfl rfl (congrArg Value.bool hb65)) ?_
          refine LE.u (Un.no 2 67 true rfl rfl rfl (congrArg Value.bool hb65)) ?_
          refine LE.u (Un.no 2 67 true rfl rfl rfl (congrArg Value.bool hb65)) ?_
          refine LE.p (v := (Value.bool false)) (Wn.no rfl) rfl (R.pickF (congrArg Value.bool hb65) rfl) ?_
          refine LE.p (v := (Value.bool false)) (Wn.no rfl) rfl (R.move rfl) ?_
          refine LE.u (Un.no 9 74 true rfl rfl rfl rfl) ?_
          refine LE.p (v := (Value.bool false)) (Wn.no rfl) rfl (R.pickF rfl rfl) ?_
          refine LE.p (v := (Value.bool false)) (Wn.no rfl) rfl (R.assign rfl) ?_
          refine LE.nil ?_
          exact ⟨_, h, rfl⟩
      · rintro e76 w77 ⟨x62, h, f78⟩
        subst hJ61
        refine WE.ret ?_
        exact ⟨_, (Res.tmp f78 Res.nil), _, rfl, h⟩
/-- The formula of signpost.signpostlaw10.OpenFirst. -/
def F4 (p0 : Int) (p1 : SV) (K : Bool → World → Prop) (w0 : World) : Prop :=
M.new (.cells #[(Value.int .u8 (4 : Int)), (Value.int .u8 (0 : Int)), (Value.int .u8 (1 : Int)), (Value.int .u8 (0 : Int)), (Value.int .u8 (9 : Int)), (Value.int .u8 (0 : Int)), (Value.int .u8 (0 : Int)), (Value.int .u8 (0 : Int)), (Value.int .u8 (1 : Int)), (Value.int .u8 (0 : Int))] 5) w0 fun b3 w1 =>
Calls Try.prog 8 #[(Value.int .i64 p0), (Value.int .i64 (0 : Int)), (Value.int .i64 (6 : Int))] w1 (R8 fun r4 w5 =>
Calls Try.prog 12 #[(SV.v p1), (Value.int .i64 (20 : Int))] w5 (R12 fun r6 w7 =>
M.join (fun (w25 : World) => 
M.join (fun (w39 : World) => 
M.join (fun (w53 : World) => 
M.join (fun (x58 : SV) (w74 : World) => 
M.join (fun (w94 : World) => 
M.join (fun (w108 : World) => 
M.app Try.prog 23 23 23 (SV.mk (some b3) 10 10) (SV.v x58) w108 fun s112 w113 =>
M.join (fun (x116 : SV) (w123 : World) => 
Calls Try.prog 14 #[(SV.v x116)] w123 (R14 fun r126 r127 r128 r129 r130 r131 w132 =>
M.new (.cells #[(Value.int .i64 (0 : Int)), (Value.int .i64 (0 : Int)), (Value.int .u32 (0 : Int))] 29) w132 fun b134 w133 =>
M.new (.cells #[(Value.int .i64 (0 : Int)), (Value.int .i64 (0 : Int)), (SV.v SV.nil)] 35) w133 fun b136 w135 =>
M.stA b134 [(Value.int .i64 r126), (Value.int .i64 r127), (Value.int .u32 r128)] w135 fun w137 =>
M.stA b136 [(Value.int .i64 r129), (Value.int .i64 r130), (SV.v r131)] w137 fun w139 =>
M.new (.cells #[(Value.int .u8 (0 : Int)), (Value.int .u8 (4 : Int))] 5) w139 fun b143 w141 =>
M.new (.cells #[(Value.int .i64 (2 : Int)), (Value.int .i64 (0 : Int)), (SV.v SV.nil), (Value.int .i64 (2 : Int)), (Value.int .i64 (1 : Int)), (SV.v (SV.mk (some b143) 2 2)), (Value.int .i64 (2 : Int)), (Value.int .i64 (0 : Int)), (SV.v SV.nil), (Value.int .i64 (2 : Int)), (Value.int .i64 (4 : Int)), (SV.v SV.nil), (Value.int .i64 (2 : Int)), (Value.int .i64 (6 : Int)), (SV.v SV.nil), (Value.int .i64 (2 : Int)), (Value.int .i64 (3 : Int)), (SV.v SV.nil), (Value.int .i64 (2 : Int)), (Value.int .i64 (2 : Int)), (SV.v SV.nil)] 35) w141 fun b146 w144 =>
M.idx (SV.mk (some b146) 7 7) r4 3 fun a147 =>
M.ld (Value.int .i64) (a147.add (r4.toNat * 3)) w144 fun t151 =>
M.ld (Value.int .i64) ((a147.add (r4.toNat * 3)).add 1) w144 fun t153 =>
M.ld SV.v ((a147.add (r4.toNat * 3)).add 2) w144 fun t155 =>
M.new (.cells #[(Value.int .i64 (0 : Int)), (Value.int .i64 (0 : Int)), (SV.v SV.nil)] 35) w144 fun b158 w157 =>
M.stA b158 [(Value.int .i64 t151), (Value.int .i64 t153), (SV.v t155)] w157 fun w159 =>
M.join (fun (x162 : Bool) (w188 : World) => 
K x162 w188) fun J161 => 
M.ld (Value.int .i64) b134 w159 fun t163 =>
M.ld (Value.int .i64) (b134.add 1) w159 fun t165 =>
M.ld (Value.int .u32) (b134.add 2) w159 fun t167 =>
M.ite ((t163 == (0 : Int)) && ((t165 == (0 : Int)) && (t167 == (0 : Int)))) (
M.ld (Value.int .i64) b136 w159 fun t170 =>
M.ld (Value.int .i64) (b136.add 1) w159 fun t172 =>
M.ld SV.v (b136.add 2) w159 fun t174 =>
M.ld (Value.int .i64) b158 w159 fun t176 =>
M.ld (Value.int .i64) (b158.add 1) w159 fun t178 =>
M.ld SV.v (b158.add 2) w159 fun t180 =>
Calls Try.prog 15 #[(Value.agg #[(Value.int .i64 t170), (Value.int .i64 t172), (SV.v t174)]), (Value.agg #[(Value.int .i64 t176), (Value.int .i64 t178), (SV.v t180)])] w159 (R15 fun r182 w183 =>
M.ite r182 (
Calls Try.prog 13 #[] w183 (R13 fun r185 w186 =>
J161 r185 w186)) (
J161 false w183))) (
J161 false w159))) fun J115 => 
M.ite (r4 == (0 : Int)) (
M.bnd (0 : Int) (9 : Int) s112 <|
J115 (SV.sub s112 (Int.toNat (0 : Int)) (Int.toNat (9 : Int)) 1) w113) (
J115 s112 w113)) fun J98 => 
M.ite (decide (r4 ≤ (1 : Int))) (
M.idx (SV.mk (some b3) 10 10) (0 : Int) 1 fun a100 =>
M.st (a100.add ((0 : Int).toNat * 1)) (Value.int .u8 (3 : Int)) w94 fun w104 =>
J98 w104) (
J98 w94)) fun J78 => 
M.ite (decide (r4 ≤ (2 : Int))) (
M.idx (SV.mk (some b3) 10 10) (9 : Int) 1 fun a80 =>
M.ld (Value.int .u8) (a80.add ((9 : Int).toNat * 1)) w74 fun t84 =>
M.idx (SV.mk (some b3) 10 10) (9 : Int) 1 fun a86 =>
M.st (a86.add ((9 : Int).toNat * 1)) (Value.int .u8 (IntKind.u8.wrap (t84 + (1 : Int)))) w74 fun w90 =>
J78 w90) (
J78 w74)) fun J57 => 
M.ite (decide (r4 ≤ (3 : Int))) (
M.new (.cells #[(Value.int .u8 (7 : Int))] 5) w53 fun b62 w60 =>
M.app Try.prog 23 23 23 (SV.mk (some b62) 1 1) (SV.v r6) w60 fun s63 w64 =>
M.idx (SV.mk (some b3) 10 10) (9 : Int) 1 fun a66 =>
M.st (a66.add ((9 : Int).toNat * 1)) (Value.int .u8 (IntKind.u8.wrap (s63.len : Int))) w64 fun w70 =>
J57 s63 w70) (
J57 SV.nil w53)) fun J43 => 
M.ite (decide (r4 ≤ (4 : Int))) (
M.idx (SV.mk (some b3) 10 10) (4 : Int) 1 fun a45 =>
M.st (a45.add ((4 : Int).toNat * 1)) (Value.int .u8 (2 : Int)) w39 fun w49 =>
J43 w49) (
J43 w39)) fun J29 => 
M.ite (decide (r4 ≤ (5 : Int))) (
M.idx (SV.mk (some b3) 10 10) (8 : Int) 1 fun a31 =>
M.st (a31.add ((8 : Int).toNat * 1)) (Value.int .u8 (0 : Int)) w25 fun w35 =>
J29 w35) (
J29 w25)) fun J8 => 
M.ite (decide (r4 ≤ (6 : Int))) (
M.idx (SV.mk (some b3) 10 10) (1 : Int) 1 fun a10 =>
M.st (a10.add ((1 : Int).toNat * 1)) (Value.int .u8 (0 : Int)) w7 fun w14 =>
M.idx (SV.mk (some b3) 10 10) (2 : Int) 1 fun a17 =>
M.st (a17.add ((2 : Int).toNat * 1)) (Value.int .u8 (0 : Int)) w14 fun w21 =>
J8 w21) (
J8 w7)))
theorem F4_ok {w0 : World} {p0 : Int} {p1 : SV} {K : Bool → World → Prop} (h : F4 p0 p1 K w0) : Calls Try.prog 4 #[(Value.int .i64 p0), (SV.v p1)] w0 (R4 K) := by
  refine calls_of_WE (args := [(Value.int .i64 p0), (SV.v p1)]) (rs := [.tmp 4]) Try.func4 rfl (N := 85) rfl rfl rfl rfl ?_
  refine WE.seq ?_
  refine WE.reg ?_
  refine LE.p (v := (Value.bool false)) (Wn.no rfl) rfl (R.assign rfl) ?_
  refine LE.nil ?_
  refine WE.seq ?_
  refine WE.reg ?_
  obtain ⟨b3, hpb3, w1, hww1, h⟩ := M.new_use h
  refine LE.r (v := (SV.v (SV.mk (some b3) 10 10))) (Wn.no rfl) rfl (R.bsl (by exact (Ls.cons (R.Pr rfl) (Ls.cons (R.Pr rfl) (Ls.cons (R.Pr rfl) (Ls.cons (R.Pr rfl) (Ls.cons (R.Pr rfl) (Ls.cons (R.Pr rfl) (Ls.cons (R.Pr rfl) (Ls.cons (R.Pr rfl) (Ls.cons (R.Pr rfl) (Ls.cons (R.Pr rfl) Ls.nil))))))))))) (fun w => bs23_10 (4 : Int) (0 : Int) (1 : Int) (0 : Int) (9 : Int) (0 : Int) (0 : Int) (0 : Int) (1 : Int) (0 : Int) w) hpb3 hww1) ?_
  refine LE.p (v := (SV.v (SV.mk (some b3) 10 10))) (Wn.no rfl) rfl (R.assign rfl) ?_
  refine LE.nil ?_
  refine WE.seq ?_
  refine WE.reg ?_
  refine LE.p (v := (Value.int .i64 p0)) (Wn.no rfl) rfl (R.move rfl) ?_
  refine LE.c (Wn.no rfl) rfl (R.call bd8 (Ls.cons rfl (Ls.cons rfl (Ls.cons rfl Ls.nil))) rfl) (Calls.mono h ?_)
  rintro _ w5 ⟨r4, rfl, h⟩
  refine ⟨_, rfl, ?_⟩
  refine LE.p (v := (Value.int .i64 r4)) (Wn.no rfl) rfl (R.assign rfl) ?_
  refine LE.nil ?_
  refine WE.seq ?_
  refine WE.reg ?_
  refine LE.p (v := (SV.v p1)) (Wn.no rfl) rfl (R.move rfl) ?_
  refine LE.c (Wn.no rfl) rfl (R.call bd12 (Ls.cons rfl (Ls.cons rfl Ls.nil)) rfl) (Calls.mono h ?_)
  rintro _ w7 ⟨r6, rfl, h⟩
  refine ⟨_, rfl, ?_⟩
  refine LE.p (v := (SV.v r6)) (Wn.no rfl) rfl (R.assign rfl) ?_
  refine LE.nil ?_
  obtain ⟨J8, hJ8, h⟩ := M.join_use h
  refine WE.join (fun e w => J8 w ∧ e 1 = (SV.v r6) ∧ e 5 = (SV.v (SV.mk (some b3) 10 10)) ∧ e 6 = (Value.int .i64 r4)) ?_ ?_
  · clear hJ8
    refine WE.seq ?_
    refine WE.reg ?_
    refine LE.p (v := (Value.int .i64 r4)) (Wn.no rfl) rfl (R.move rfl) ?_
    refine LE.p (v := (Value.bool (decide (r4 ≤ (6 : Int))))) (Wn.no rfl) rfl (R.leq rfl rfl) ?_
    refine LE.nil ?_
    refine WE.condT rfl (b := (decide (r4 ≤ (6 : Int)))) rfl ?_ ?_
    · intro hb9
      replace h := M.ite_t h hb9
      refine WE.reg ?_
      refine LE.p (v := (SV.v (SV.mk (some b3) 10 10))) (Wn.no rfl) rfl (R.move rfl) ?_
      refine LE.p (v := (SV.v (SV.mk (some b3) 10 10))) (Wn.no rfl) rfl (R.move rfl) ?_
      obtain ⟨a10, h11, h12, h13, h⟩ := h
      refine LE.p (v := (Value.pointer (some (a10.add ((1 : Int).toNat * 1))))) (Wn.no rfl) rfl (R.idx (s := (SV.mk (some b3) 10 10)) sl23 rfl rfl h11 h12 h13) ?_
      obtain ⟨w14, hww14, h15, h16, h⟩ := M.st_use h
      refine LE.s (Wn.no rfl) rfl (R.st (a := (a10.add ((1 : Int).toNat * 1))) (v := (Value.int .u8 (0 : Int))) sz5 rfl rfl rfl rfl h15 h16 hww14) ?_
      obtain ⟨a17, h18, h19, h20, h⟩ := h
      refine LE.p (v := (Value.pointer (some (a17.add ((2 : Int).toNat * 1))))) (Wn.no rfl) rfl (R.idx (s := (SV.mk (some b3) 10 10)) sl23 rfl rfl h18 h19 h20) ?_
      obtain ⟨w21, hww21, h22, h23, h⟩ := M.st_use h
      refine LE.s (Wn.no rfl) rfl (R.st (a := (a17.add ((2 : Int).toNat * 1))) (v := (Value.int .u8 (0 : Int))) sz5 rfl rfl rfl rfl h22 h23 hww21) ?_
      refine LE.nil ?_
      exact ⟨h, rfl, rfl, rfl⟩
    · intro hb9
      replace h := M.ite_f h hb9
      refine WE.skip ?_
      exact ⟨h, rfl, rfl, rfl⟩
  · rintro e24 w25 ⟨h, f26, f27, f28⟩
    subst hJ8
    obtain ⟨J29, hJ29, h⟩ := M.join_use h
    refine WE.join (fun e w => J29 w ∧ e 1 = (SV.v r6) ∧ e 5 = (SV.v (SV.mk (some b3) 10 10)) ∧ e 6 = (Value.int .i64 r4)) ?_ ?_
    · clear hJ29
      refine WE.seq ?_
      refine WE.reg ?_
      refine LE.p (v := (Value.int .i64 r4)) (Wn.no rfl) rfl (R.move f28) ?_
      refine LE.p (v := (Value.bool (decide (r4 ≤ (5 : Int))))) (Wn.no rfl) rfl (R.leq rfl rfl) ?_
      refine LE.nil ?_
      refine WE.condT rfl (b := (decide (r4 ≤ (5 : Int)))) rfl ?_ ?_
      · intro hb30
        replace h := M.ite_t h hb30
        refine WE.reg ?_
        refine LE.p (v := (SV.v (SV.mk (some b3) 10 10))) (Wn.no rfl) rfl (R.move f27) ?_
        obtain ⟨a31, h32, h33, h34, h⟩ := h
        refine LE.p (v := (Value.pointer (some (a31.add ((8 : Int).toNat * 1))))) (Wn.no rfl) rfl (R.idx (s := (SV.mk (some b3) 10 10)) sl23 rfl rfl h32 h33 h34) ?_
        obtain ⟨w35, hww35, h36, h37, h⟩ := M.st_use h
        refine LE.s (Wn.no rfl) rfl (R.st (a := (a31.add ((8 : Int).toNat * 1))) (v := (Value.int .u8 (0 : Int))) sz5 rfl rfl rfl rfl h36 h37 hww35) ?_
        refine LE.nil ?_
        exact ⟨h, f26, f27, f28⟩
      · intro hb30
        replace h := M.ite_f h hb30
        refine WE.skip ?_
        exact ⟨h, f26, f27, f28⟩
    · rintro e38 w39 ⟨h, f40, f41, f42⟩
      subst hJ29
      obtain ⟨J43, hJ43, h⟩ := M.join_use h
      refine WE.join (fun e w => J43 w ∧ e 1 = (SV.v r6) ∧ e 5 = (SV.v (SV.mk (some b3) 10 10)) ∧ e 6 = (Value.int .i64 r4)) ?_ ?_
      · clear hJ43
        refine WE.seq ?_
        refine WE.reg ?_
        refine LE.p (v := (Value.int .i64 r4)) (Wn.no rfl) rfl (R.move f42) ?_
        refine LE.p (v := (Value.bool (decide (r4 ≤ (4 : Int))))) (Wn.no rfl) rfl (R.leq rfl rfl) ?_
        refine LE.nil ?_
        refine WE.condT rfl (b := (decide (r4 ≤ (4 : Int)))) rfl ?_ ?_
        · intro hb44
          replace h := M.ite_t h hb44
          refine WE.reg ?_
          refine LE.p (v := (SV.v (SV.mk (some b3) 10 10))) (Wn.no rfl) rfl (R.move f41) ?_
          obtain ⟨a45, h46, h47, h48, h⟩ := h
          refine LE.p (v := (Value.pointer (some (a45.add ((4 : Int).toNat * 1))))) (Wn.no rfl) rfl (R.idx (s := (SV.mk (some b3) 10 10)) sl23 rfl rfl h46 h47 h48) ?_
          obtain ⟨w49, hww49, h50, h51, h⟩ := M.st_use h
          refine LE.s (Wn.no rfl) rfl (R.st (a := (a45.add ((4 : Int).toNat * 1))) (v := (Value.int .u8 (2 : Int))) sz5 rfl rfl rfl rfl h50 h51 hww49) ?_
          refine LE.nil ?_
          exact ⟨h, f40, f41, f42⟩
        · intro hb44
          replace h := M.ite_f h hb44
          refine WE.skip ?_
          exact ⟨h, f40, f41, f42⟩
      · rintro e52 w53 ⟨h, f54, f55, f56⟩
        subst hJ43
        obtain ⟨J57, hJ57, h⟩ := M.join_use h
        refine WE.join (fun e w => ∃ (x58 : SV), J57 x58 w ∧ e 1 = (SV.v x58) ∧ e 5 = (SV.v (SV.mk (some b3) 10 10)) ∧ e 6 = (Value.int .i64 r4)) ?_ ?_
        · clear hJ57
          refine WE.seq ?_
          refine WE.reg ?_
          refine LE.p (v := (Value.int .i64 r4)) (Wn.no rfl) rfl (R.move f56) ?_
          refine LE.p (v := (Value.bool (decide (r4 ≤ (3 : Int))))) (Wn.no rfl) rfl (R.leq rfl rfl) ?_
          refine LE.nil ?_
          refine WE.condT rfl (b := (decide (r4 ≤ (3 : Int)))) rfl ?_ ?_
          · intro hb59
            replace h := M.ite_t h hb59
            refine WE.seq ?_
            refine WE.reg ?_
            obtain ⟨b62, hpb62, w60, hww60, h⟩ := M.new_use h
            refine LE.r (v := (SV.v (SV.mk (some b62) 1 1))) (Wn.no rfl) rfl (R.bsl (by exact (Ls.cons (R.Pr rfl) Ls.nil)) (fun w => bs23_1 (7 : Int) w) hpb62 hww60) ?_
            refine LE.p (v := (SV.v r6)) (Wn.no rfl) rfl (R.move f54) ?_
            obtain ⟨s63, w64, h65, h⟩ := h
            refine LE.r (v := (SV.v s63)) (Wn.no rfl) rfl (R.app (s := (SV.mk (some b62) 1 1)) (r := s63) rfl rfl h65) ?_
            refine LE.p (v := (SV.v s63)) (Wn.no rfl) rfl (R.assign rfl) ?_
            refine LE.nil ?_
            refine WE.reg ?_
            refine LE.p (v := (SV.v (SV.mk (some b3) 10 10))) (Wn.no rfl) rfl (R.move f55) ?_
            refine LE.p (v := (SV.v s63)) (Wn.no rfl) rfl (R.move rfl) ?_
            refine LE.p (v := (Value.int .i64 (s63.len : Int))) (Wn.no rfl) rfl (R.len sl23 rfl) ?_
            refine LE.p (v := (Value.int .u8 (IntKind.u8.wrap (s63.len : Int)))) (Wn.no rfl) rfl (R.conv in5 in3 rfl) ?_
            obtain ⟨a66, h67, h68, h69, h⟩ := h
            refine LE.p (v := (Value.pointer (some (a66.add ((9 : Int).toNat * 1))))) (Wn.no rfl) rfl (R.idx (s := (SV.mk (some b3) 10 10)) sl23 rfl rfl h67 h68 h69) ?_
            obtain ⟨w70, hww70, h71, h72, h⟩ := M.st_use h
            refine LE.s (Wn.no rfl) rfl (R.st (a := (a66.add ((9 : Int).toNat * 1))) (v := (Value.int .u8 (IntKind.u8.wrap (s63.len : Int)))) sz5 rfl rfl rfl rfl h71 h72 hww70) ?_
            refine LE.nil ?_
            exact ⟨_, h, rfl, f55, f56⟩
          · intro hb59
            replace h := M.ite_f h hb59
            refine WE.reg ?_
            refine LE.p (v := (SV.v SV.nil)) (Wn.no rfl) rfl (R.assign rfl) ?_
            refine LE.nil ?_
            exact ⟨_, h, rfl, f55, f56⟩
        · rintro e73 w74 ⟨x58, h, f75, f76, f77⟩
          subst hJ57
          obtain ⟨J78, hJ78, h⟩ := M.join_use h
          refine WE.join (fun e w => J78 w ∧ e 1 = (SV.v x58) ∧ e 5 = (SV.v (SV.mk (some b3) 10 10)) ∧ e 6 = (Value.int .i64 r4)) ?_ ?_
          · clear hJ78
            refine WE.seq ?_
            refine WE.reg ?_
            refine LE.p (v := (Value.int .i64 r4)) (Wn.no rfl) rfl (R.move f77) ?_
            refine LE.p (v := (Value.bool (decide (r4 ≤ (2 : Int))))) (Wn.no rfl) rfl (R.leq rfl rfl) ?_
            refine LE.nil ?_
            refine WE.condT rfl (b := (decide (r4 ≤ (2 : Int)))) rfl ?_ ?_
            · intro hb79
              replace h := M.ite_t h hb79
              refine WE.reg ?_
              refine LE.p (v := (SV.v (SV.mk (some b3) 10 10))) (Wn.no rfl) rfl (R.move f76) ?_
              obtain ⟨a80, h81, h82, h83, h⟩ := h
              refine LE.p (v := (Value.pointer (some (a80.add ((9 : Int).toNat * 1))))) (Wn.no rfl) rfl (R.idx (s := (SV.mk (some b3) 10 10)) sl23 rfl rfl h81 h82 h83) ?_
              obtain ⟨t84, h85, h⟩ := h
              refine LE.r (v := (Value.int .u8 t84)) (Wn.no rfl) rfl (R.ld sc5 rfl h85) ?_
              refine LE.p (v := (Value.int .u8 (IntKind.u8.wrap (t84 + (1 : Int))))) (Wn.no rfl) rfl (R.add rfl rfl) ?_
              obtain ⟨a86, h87, h88, h89, h⟩ := h
              refine LE.p (v := (Value.pointer (some (a86.add ((9 : Int).toNat * 1))))) (Wn.no rfl) rfl (R.idx (s := (SV.mk (some b3) 10 10)) sl23 rfl rfl h87 h88 h89) ?_
              obtain ⟨w90, hww90, h91, h92, h⟩ := M.st_use h
              refine LE.s (Wn.no rfl) rfl (R.st (a := (a86.add ((9 : Int).toNat * 1))) (v := (Value.int .u8 (IntKind.u8.wrap (t84 + (1 : Int))))) sz5 rfl rfl rfl rfl h91 h92 hww90) ?_
              refine LE.nil ?_
              exact ⟨h, f75, f76, f77⟩
            · intro hb79
              replace h := M.ite_f h hb79
              refine WE.skip ?_
              exact ⟨h, f75, f76, f77⟩
          · rintro e93 w94 ⟨h, f95, f96, f97⟩
            subst hJ78
            obtain ⟨J98, hJ98, h⟩ := M.join_use h
            refine WE.join (fun e w => J98 w ∧ e 1 = (SV.v x58) ∧ e 5 = (SV.v (SV.mk (some b3) 10 10)) ∧ e 6 = (Value.int .i64 r4)) ?_ ?_
            · clear hJ98
              refine WE.seq ?_
              refine WE.reg ?_
              refine LE.p (v := (Value.int .i64 r4)) (Wn.no rfl) rfl (R.move f97) ?_
              refine LE.p (v := (Value.bool (decide (r4 ≤ (1 : Int))))) (Wn.no rfl) rfl (R.leq rfl rfl) ?_
              refine LE.nil ?_
              refine WE.condT rfl (b := (decide (r4 ≤ (1 : Int)))) rfl ?_ ?_
              · intro hb99
                replace h := M.ite_t h hb99
                refine WE.reg ?_
                refine LE.p (v := (SV.v (SV.mk (some b3) 10 10))) (Wn.no rfl) rfl (R.move f96) ?_
                obtain ⟨a100, h101, h102, h103, h⟩ := h
                refine LE.p (v := (Value.pointer (some (a100.add ((0 : Int).toNat * 1))))) (Wn.no rfl) rfl (R.idx (s := (SV.mk (some b3) 10 10)) sl23 rfl rfl h101 h102 h103) ?_
                obtain ⟨w104, hww104, h105, h106, h⟩ := M.st_use h
                refine LE.s (Wn.no rfl) rfl (R.st (a := (a100.add ((0 : Int).toNat * 1))) (v := (Value.int .u8 (3 : Int))) sz5 rfl rfl rfl rfl h105 h106 hww104) ?_
                refine LE.nil ?_
                exact ⟨h, f95, f96, f97⟩
              · intro hb99
                replace h := M.ite_f h hb99
                refine WE.skip ?_
                exact ⟨h, f95, f96, f97⟩
            · rintro e107 w108 ⟨h, f109, f110, f111⟩
              subst hJ98
              refine WE.seq ?_
              refine WE.reg ?_
              refine LE.p (v := (SV.v (SV.mk (some b3) 10 10))) (Wn.no rfl) rfl (R.move f110) ?_
              refine LE.p (v := (SV.v x58)) (Wn.no rfl) rfl (R.move f109) ?_
              obtain ⟨s112, w113, h114, h⟩ := h
              refine LE.r (v := (SV.v s112)) (Wn.no rfl) rfl (R.app (s := (SV.mk (some b3) 10 10)) (r := s112) rfl rfl h114) ?_
              refine LE.p (v := (SV.v s112)) (Wn.no rfl) rfl (R.assign rfl) ?_
              refine LE.nil ?_
              obtain ⟨J115, hJ115, h⟩ := M.join_use h
              refine WE.join (fun e w => ∃ (x116 : SV), J115 x116 w ∧ e 5 = (SV.v x116) ∧ e 6 = (Value.int .i64 r4)) ?_ ?_
              · clear hJ115
                refine WE.seq ?_
                refine WE.reg ?_
                refine LE.p (v := (Value.int .i64 r4)) (Wn.no rfl) rfl (R.move f111) ?_
                refine LE.p (v := (Value.bool (r4 == (0 : Int)))) (Wn.no rfl) rfl (R.eql rfl rfl) ?_
                refine LE.nil ?_
                refine WE.condT rfl (b := (r4 == (0 : Int))) rfl ?_ ?_
                · intro hb117
                  replace h := M.ite_t h hb117
                  refine WE.reg ?_
                  refine LE.p (v := (SV.v s112)) (Wn.no rfl) rfl (R.move rfl) ?_
                  obtain ⟨h118, h119, h120, h⟩ := h
                  refine LE.p (v := (SV.v (SV.sub s112 (Int.toNat (0 : Int)) (Int.toNat (9 : Int)) 1))) (Wn.no rfl) rfl (R.slc (s := s112) (lo := (0 : Int)) (hi := (9 : Int)) _ _ sl23 rfl rfl rfl h118 h119 h120) ?_
                  refine LE.p (v := (SV.v (SV.sub s112 (Int.toNat (0 : Int)) (Int.toNat (9 : Int)) 1))) (Wn.no rfl) rfl (R.assign rfl) ?_
                  refine LE.nil ?_
                  exact ⟨_, h, rfl, f111⟩
                · intro hb117
                  replace h := M.ite_f h hb117
                  refine WE.skip ?_
                  exact ⟨_, h, rfl, f111⟩
              · rintro e122 w123 ⟨x116, h, f124, f125⟩
                subst hJ115
                refine WE.seq ?_
                refine WE.reg ?_
                refine LE.p (v := (SV.v x116)) (Wn.no rfl) rfl (R.move f124) ?_
                refine LE.c (Wn.no rfl) rfl (R.call bd14 (Ls.cons rfl Ls.nil) rfl) (Calls.mono h ?_)
                rintro _ w132 ⟨r126, r127, r128, r129, r130, r131, rfl, h⟩
                refine ⟨_, rfl, ?_⟩
                refine LE.p (v := (Value.tuple #[(Value.agg #[(Value.int .i64 r126), (Value.int .i64 r127), (Value.int .u32 r128)]), (Value.agg #[(Value.int .i64 r129), (Value.int .i64 r130), (SV.v r131)])])) (Wn.no rfl) rfl (R.move rfl) ?_
                refine LE.p (v := (Value.agg #[(Value.int .i64 r126), (Value.int .i64 r127), (Value.int .u32 r128)])) (Wn.no rfl) rfl (R.ext rfl rfl) ?_
                refine LE.p (v := (Value.agg #[(Value.int .i64 r129), (Value.int .i64 r130), (SV.v r131)])) (Wn.no rfl) rfl (R.ext rfl rfl) ?_
                obtain ⟨b134, hpb134, w133, hww133, h⟩ := M.new_use h
                refine LE.r (v := (Value.pointer (some b134))) (Wn.no rfl) rfl (R.alloc (cs := #[(Value.int .i64 (0 : Int)), (Value.int .i64 (0 : Int)), (Value.int .u32 (0 : Int))]) ze29 rfl hpb134 hww133) ?_
                obtain ⟨b136, hpb136, w135, hww135, h⟩ := M.new_use h
                refine LE.r (v := (Value.pointer (some b136))) (Wn.no rfl) rfl (R.alloc (cs := #[(Value.int .i64 (0 : Int)), (Value.int .i64 (0 : Int)), (SV.v SV.nil)]) ze35 rfl hpb136 hww135) ?_
                obtain ⟨w137, hww137, h138, h⟩ := M.stA_use h
                refine LE.s (Wn.no rfl) rfl (R.stA (a := b134) [(Value.int .i64 r126), (Value.int .i64 r127), (Value.int .u32 r128)] sz29 rfl rfl rfl (by simp [Value.oneCell']) h138 hww137) ?_
                obtain ⟨w139, hww139, h140, h⟩ := M.stA_use h
                refine LE.s (Wn.no rfl) rfl (R.stA (a := b136) [(Value.int .i64 r129), (Value.int .i64 r130), (SV.v r131)] sz35 rfl rfl rfl (by simp [Value.oneCell']) h140 hww139) ?_
                refine LE.nil ?_
                refine WE.seq ?_
                refine WE.reg ?_
                refine LE.p (v := (Value.agg #[(Value.int .i64 (2 : Int)), (Value.int .i64 (0 : Int)), (SV.v SV.nil)])) (Wn.no rfl) rfl (R.bld (by exact (Ls.cons (R.Pr rfl) Ls.nil)) (fun w => bu35_0 (2 : Int) w)) ?_
                obtain ⟨b143, hpb143, w141, hww141, h⟩ := M.new_use h
                refine LE.r (v := (SV.v (SV.mk (some b143) 2 2))) (Wn.no rfl) rfl (R.bsl (by exact (Ls.cons (R.Pr rfl) (Ls.cons (R.Pr rfl) Ls.nil))) (fun w => bs23_2 (0 : Int) (4 : Int) w) hpb143 hww141) ?_
                refine LE.p (v := (Value.agg #[(Value.int .i64 (2 : Int)), (Value.int .i64 (1 : Int)), (SV.v (SV.mk (some b143) 2 2))])) (Wn.no rfl) rfl (R.bld (by exact (Ls.cons (R.Pr rfl) (Ls.cons (R.Pr rfl) (Ls.cons (R.Pr rfl) Ls.nil)))) (fun w => bu35_0_1_2 (2 : Int) (1 : Int) (SV.mk (some b143) 2 2) w)) ?_
                refine LE.p (v := (Value.agg #[(Value.int .i64 (2 : Int)), (Value.int .i64 (0 : Int)), (SV.v SV.nil)])) (Wn.no rfl) rfl (R.bld (by exact (Ls.cons (R.Pr rfl) Ls.nil)) (fun w => bu35_0 (2 : Int) w)) ?_
                refine LE.p (v := (Value.agg #[(Value.int .i64 (2 : Int)), (Value.int .i64 (4 : Int)), (SV.v SV.nil)])) (Wn.no rfl) rfl (R.bld (by exact (Ls.cons (R.Pr rfl) (Ls.cons (R.Pr rfl) Ls.nil))) (fun w => bu35_0_1 (2 : Int) (4 : Int) w)) ?_
                refine LE.p (v := (Value.agg #[(Value.int .i64 (2 : Int)), (Value.int .i64 (6 : Int)), (SV.v SV.nil)])) (Wn.no rfl) rfl (R.bld (by exact (Ls.cons (R.Pr rfl) (Ls.cons (R.Pr rfl) Ls.nil))) (fun w => bu35_0_1 (2 : Int) (6 : Int) w)) ?_
                refine LE.p (v := (Value.agg #[(Value.int .i64 (2 : Int)), (Value.int .i64 (3 : Int)), (SV.v SV.nil)])) (Wn.no rfl) rfl (R.bld (by exact (Ls.cons (R.Pr rfl) (Ls.cons (R.Pr rfl) Ls.nil))) (fun w => bu35_0_1 (2 : Int) (3 : Int) w)) ?_
                refine LE.p (v := (Value.agg #[(Value.int .i64 (2 : Int)), (Value.int .i64 (2 : Int)), (SV.v SV.nil)])) (Wn.no rfl) rfl (R.bld (by exact (Ls.cons (R.Pr rfl) (Ls.cons (R.Pr rfl) Ls.nil))) (fun w => bu35_0_1 (2 : Int) (2 : Int) w)) ?_
                obtain ⟨b146, hpb146, w144, hww144, h⟩ := M.new_use h
                refine LE.r (v := (SV.v (SV.mk (some b146) 7 7))) (Wn.no rfl) rfl (R.bsl (by exact (Ls.cons (R.Pr rfl) (Ls.cons (R.Pr rfl) (Ls.cons (R.Pr rfl) (Ls.cons (R.Pr rfl) (Ls.cons (R.Pr rfl) (Ls.cons (R.Pr rfl) (Ls.cons (R.Pr rfl) Ls.nil)))))))) (fun w => bs38_7 (2 : Int) (0 : Int) SV.nil (2 : Int) (1 : Int) (SV.mk (some b143) 2 2) (2 : Int) (0 : Int) SV.nil (2 : Int) (4 : Int) SV.nil (2 : Int) (6 : Int) SV.nil (2 : Int) (3 : Int) SV.nil (2 : Int) (2 : Int) SV.nil w) hpb146 hww144) ?_
                refine LE.p (v := (Value.int .i64 r4)) (Wn.no rfl) rfl (R.move f125) ?_
                obtain ⟨a147, h148, h149, h150, h⟩ := h
                refine LE.p (v := (Value.pointer (some (a147.add (r4.toNat * 3))))) (Wn.no rfl) rfl (R.idx (s := (SV.mk (some b146) 7 7)) sl38 rfl rfl h148 h149 h150) ?_
                obtain ⟨t151, h152, h⟩ := h
                obtain ⟨t153, h154, h⟩ := h
                obtain ⟨t155, h156, h⟩ := h
                refine LE.r (v := (Value.agg #[(Value.int .i64 t151), (Value.int .i64 t153), (SV.v t155)])) (Wn.no rfl) rfl (R.ldA ag35 sz35 rfl rfl (Cs.cons h152 (Cs.cons h154 (Cs.cons h156 Cs.nil)))) ?_
                obtain ⟨b158, hpb158, w157, hww157, h⟩ := M.new_use h
                refine LE.r (v := (Value.pointer (some b158))) (Wn.no rfl) rfl (R.alloc (cs := #[(Value.int .i64 (0 : Int)), (Value.int .i64 (0 : Int)), (SV.v SV.nil)]) ze35 rfl hpb158 hww157) ?_
                obtain ⟨w159, hww159, h160, h⟩ := M.stA_use h
                refine LE.s (Wn.no rfl) rfl (R.stA (a := b158) [(Value.int .i64 t151), (Value.int .i64 t153), (SV.v t155)] sz35 rfl rfl rfl (by simp [Value.oneCell']) h160 hww159) ?_
                refine LE.nil ?_
                refine WE.seq ?_
                obtain ⟨J161, hJ161, h⟩ := M.join_use h
                refine WE.regJ (fun e w => ∃ (x162 : Bool), J161 x162 w ∧ e 4 = (Value.bool x162)) ?_ ?_
                · clear hJ161
                  obtain ⟨t163, h164, h⟩ := h
                  obtain ⟨t165, h166, h⟩ := h
                  obtain ⟨t167, h168, h⟩ := h
                  refine LE.r (v := (Value.agg #[(Value.int .i64 t163), (Value.int .i64 t165), (Value.int .u32 t167)])) (Wn.no rfl) rfl (R.ldA ag29 sz29 rfl rfl (Cs.cons h164 (Cs.cons h166 (Cs.cons h168 Cs.nil)))) ?_
                  refine LE.p (v := (Value.agg #[(Value.int .i64 (0 : Int)), (Value.int .i64 (0 : Int)), (Value.int .u32 (0 : Int))])) (Wn.no rfl) rfl (R.bld (by exact Ls.nil) (fun w => bu29_  w)) ?_
                  refine LE.p (v := (Value.bool ((t163 == (0 : Int)) && ((t165 == (0 : Int)) && (t167 == (0 : Int)))))) (Wn.no rfl) rfl (R.eqS (fun w => eq29 t163 (0 : Int) t165 (0 : Int) t167 (0 : Int) w) sg29 rfl rfl) ?_
                  refine LE.p (v := (Value.bool ((t163 == (0 : Int)) && ((t165 == (0 : Int)) && (t167 == (0 : Int)))))) (Wn.no rfl) rfl (R.move rfl) ?_
                  rcases M.ite_use h with ⟨hb169, h⟩ | ⟨hb169, h⟩
                  · obtain ⟨t170, h171, h⟩ := h
                    obtain ⟨t172, h173, h⟩ := h
                    obtain ⟨t174, h175, h⟩ := h
                    refine LE.r (v := (Value.agg #[(Value.int .i64 t170), (Value.int .i64 t172), (SV.v t174)])) (Wn.yes 3 77 true rfl rfl rfl (congrArg Value.bool hb169)) rfl (R.ldA ag35 sz35 rfl rfl (Cs.cons h171 (Cs.cons h173 (Cs.cons h175 Cs.nil)))) ?_
                    obtain ⟨t176, h177, h⟩ := h
                    obtain ⟨t178, h179, h⟩ := h
                    obtain ⟨t180, h181, h⟩ := h
                    refine LE.r (v := (Value.agg #[(Value.int .i64 t176), (Value.int .i64 t178), (SV.v t180)])) (Wn.yes 3 77 true rfl rfl rfl (congrArg Value.bool hb169)) rfl (R.ldA ag35 sz35 rfl rfl (Cs.cons h177 (Cs.cons h179 (Cs.cons h181 Cs.nil)))) ?_
                    refine LE.c (Wn.yes 3 77 true rfl rfl rfl (congrArg Value.bool hb169)) rfl (R.call bd15 (Ls.cons rfl (Ls.cons rfl Ls.nil)) rfl) (Calls.mono h ?_)
                    rintro _ w183 ⟨r182, rfl, h⟩
                    refine ⟨_, rfl, ?_⟩
                    refine LE.p (v := (Value.bool r182)) (Wn.no rfl) rfl (R.pickT (congrArg Value.bool hb169) rfl) ?_
                    refine LE.p (v := (Value.bool r182)) (Wn.no rfl) rfl (R.move rfl) ?_
                    rcases M.ite_use h with ⟨hb184, h⟩ | ⟨hb184, h⟩
                    · refine LE.c (Wn.yes 8 82 true rfl rfl rfl (congrArg Value.bool hb184)) rfl (R.call bd13 Ls.nil rfl) (Calls.mono h ?_)
                      rintro _ w186 ⟨r185, rfl, h⟩
                      refine ⟨_, rfl, ?_⟩
                      refine LE.p (v := (Value.bool r185)) (Wn.no rfl) rfl (R.pickT (congrArg Value.bool hb184) rfl) ?_
                      refine LE.p (v := (Value.bool r185)) (Wn.no rfl) rfl (R.assign rfl) ?_
                      refine LE.nil ?_
                      exact ⟨_, h, rfl⟩
                    · refine LE.u (Un.no 8 82 true rfl rfl rfl (congrArg Value.bool hb184)) ?_
                      refine LE.p (v := (Value.bool false)) (Wn.no rfl) rfl (R.pickF (congrArg Value.bool hb184) rfl) ?_
                      refine LE.p (v := (Value.bool false)) (Wn.no rfl) rfl (R.assign rfl) ?_
                      refine LE.nil ?_
                      exact ⟨_, h, rfl⟩
                  · refine LE.u (Un.no 3 77 true rfl rfl rfl (congrArg Value.bool hb169)) ?_
                    refine LE.u (Un.no 3 77 true rfl rfl rfl (congrArg Value.bool hb169)) ?_
                    refine LE.u (Un.no 3 77 true rfl rfl rfl (congrArg Value.bool hb169)) ?_
                    refine LE.p (v := (Value.bool false)) (Wn.no rfl) rfl (R.pickF (congrArg Value.bool hb169) rfl) ?_
                    refine LE.p (v := (Value.bool false)) (Wn.no rfl) rfl (R.move rfl) ?_
                    refine LE.u (Un.no 8 82 true rfl rfl rfl rfl) ?_
                    refine LE.p (v := (Value.bool false)) (Wn.no rfl) rfl (R.pickF rfl rfl) ?_
                    refine LE.p (v := (Value.bool false)) (Wn.no rfl) rfl (R.assign rfl) ?_
                    refine LE.nil ?_
                    exact ⟨_, h, rfl⟩
                · rintro e187 w188 ⟨x162, h, f189⟩
                  subst hJ161
                  refine WE.ret ?_
                  exact ⟨_, (Res.tmp f189 Res.nil), _, rfl, h⟩
/-- The formula of signpost.signpostlaw10.OpenSizes. -/
def F5 (p0 : Int) (p1 : Int) (p2 : Int) (p3 : SV) (K : Bool → World → Prop) (w0 : World) : Prop :=
M.new (.cells #[(Value.int .i64 (0 : Int)), (Value.int .i64 (0 : Int)), (Value.int .u32 (0 : Int))] 29) w0 fun b2 w1 =>
M.stA b2 [(Value.int .i64 p0), (Value.int .i64 p1), (Value.int .u32 p2)] w1 fun w3 =>
M.ld (Value.int .i64) b2 w3 fun t5 =>
M.ld (Value.int .i64) (b2.add 1) w3 fun t7 =>
M.ld (Value.int .u32) (b2.add 2) w3 fun t9 =>
Calls Try.prog 16 #[(Value.agg #[(Value.int .i64 t5), (Value.int .i64 t7), (Value.int .u32 t9)])] w3 (R16 fun r11 r12 w13 =>
M.join (fun (x15 : Bool) (w22 : World) => 
M.ite x15 (
K false w22) (
M.ite (r12 != (0 : Int)) (
M.join (fun (x30 : Bool) (w36 : World) => 
K x30 w36) fun J29 => 
M.ite ((r11.len : Int) == (0 : Int)) (
M.ite (r12 == (12 : Int)) (
Calls Try.prog 13 #[] w22 (R13 fun r33 w34 =>
J29 r33 w34)) (
J29 false w22)) (
J29 false w22)) (
Calls Try.prog 12 #[(SV.v p3), (Value.int .i64 (50 : Int))] w22 (R12 fun r38 w39 =>
M.new (.cells #[] 5) w39 fun b42 w40 =>
M.app Try.prog 23 23 23 (SV.mk (some b42) 0 0) (SV.v r11) w40 fun s43 w44 =>
M.app Try.prog 23 23 23 s43 (SV.v r38) w44 fun s46 w47 =>
Calls Try.prog 14 #[(SV.v s46)] w47 (R14 fun r49 r50 r51 r52 r53 r54 w55 =>
M.new (.cells #[(Value.int .i64 (0 : Int)), (Value.int .i64 (0 : Int)), (Value.int .u32 (0 : Int))] 29) w55 fun b57 w56 =>
M.new (.cells #[(Value.int .i64 (0 : Int)), (Value.int .i64 (0 : Int)), (SV.v SV.nil)] 35) w56 fun b59 w58 =>
M.stA b57 [(Value.int .i64 r49), (Value.int .i64 r50), (Value.int .u32 r51)] w58 fun w60 =>
M.stA b59 [(Value.int .i64 r52), (Value.int .i64 r53), (SV.v r54)] w60 fun w62 =>
M.join (fun (x65 : Bool) (w82 : World) => 
K x65 w82) fun J64 => 
M.ite ((r11.len : Int) == (10 : Int)) (
M.ld (Value.int .i64) b59 w62 fun t67 =>
M.ite ((t67 == (0 : Int)) == ((r38.len : Int) == (0 : Int))) (
M.ite ((r38.len : Int) == (0 : Int)) (
Calls Try.prog 13 #[] w62 (R13 fun r71 w72 =>
J64 r71 w72)) (
M.ld (Value.int .i64) b59 w62 fun t73 =>
M.ite (t73 == (2 : Int)) (
M.ld (Value.int .i64) (b59.add 1) w62 fun t76 =>
M.ite (t76 == (0 : Int)) (
Calls Try.prog 13 #[] w62 (R13 fun r79 w80 =>
J64 r79 w80)) (
J64 false w62)) (
J64 false w62))) (
J64 false w62)) (
J64 false w62)))))) fun J14 => 
M.ite (decide ((1 : Int) ≤ p0)) (
M.ite (decide (p0 ≤ (65535 : Int))) (
M.ite (p1 == (0 : Int)) (
J14 (!((r12 == (0 : Int)) == (p2 != (0 : Int)))) w13) (
M.ite (decide ((3 : Int) ≤ p1)) (
M.ite (decide (p1 ≤ (65535 : Int))) (
J14 (!((r12 == (0 : Int)) == (p2 != (0 : Int)))) w13) (
J14 (!((r12 == (0 : Int)) == false)) w13)) (
J14 (!((r12 == (0 : Int)) == false)) w13))) (
J14 (!((r12 == (0 : Int)) == false)) w13)) (
J14 (!((r12 == (0 : Int)) == false)) w13))
theorem F5_ok {w0 : World} {p0 : Int} {p1 : Int} {p2 : Int} {p3 : SV} {K : Bool → World → Prop} (h : F5 p0 p1 p2 p3 K w0) : Calls Try.prog 5 #[(Value.int .i64 p0), (Value.int .i64 p1), (Value.int .u32 p2), (SV.v p3)] w0 (R5 K) := by
  refine calls_of_WE (args := [(Value.int .i64 p0), (Value.int .i64 p1), (Value.int .u32 p2), (SV.v p3)]) (rs := [.tmp 8]) Try.func5 rfl (N := 101) rfl rfl rfl rfl ?_
  refine WE.seq ?_
  refine WE.reg ?_
  refine LE.p (v := (Value.bool false)) (Wn.no rfl) rfl (R.assign rfl) ?_
  refine LE.nil ?_
  refine WE.seq ?_
  refine WE.reg ?_
  refine LE.p (v := (Value.int .i64 p0)) (Wn.no rfl) rfl (R.move rfl) ?_
  refine LE.p (v := (Value.int .i64 p1)) (Wn.no rfl) rfl (R.move rfl) ?_
  refine LE.p (v := (Value.int .u32 p2)) (Wn.no rfl) rfl (R.move rfl) ?_
  refine LE.p (v := (Value.agg #[(Value.int .i64 p0), (Value.int .i64 p1), (Value.int .u32 p2)])) (Wn.no rfl) rfl (R.bld (by exact (Ls.cons (R.Pr rfl) (Ls.cons (R.Pr rfl) (Ls.cons (R.Pr rfl) Ls.nil)))) (fun w => bu29_0_1_2 p0 p1 p2 w)) ?_
  obtain ⟨b2, hpb2, w1, hww1, h⟩ := M.new_use h
  refine LE.r (v := (Value.pointer (some b2))) (Wn.no rfl) rfl (R.alloc (cs := #[(Value.int .i64 (0 : Int)), (Value.int .i64 (0 : Int)), (Value.int .u32 (0 : Int))]) ze29 rfl hpb2 hww1) ?_
  obtain ⟨w3, hww3, h4, h⟩ := M.stA_use h
  refine LE.s (Wn.no rfl) rfl (R.stA (a := b2) [(Value.int .i64 p0), (Value.int .i64 p1), (Value.int .u32 p2)] sz29 rfl rfl rfl (by simp [Value.oneCell']) h4 hww3) ?_
  refine LE.nil ?_
  refine WE.seq ?_
  refine WE.reg ?_
  obtain ⟨t5, h6, h⟩ := h
  obtain ⟨t7, h8, h⟩ := h
  obtain ⟨t9, h10, h⟩ := h
  refine LE.r (v := (Value.agg #[(Value.int .i64 t5), (Value.int .i64 t7), (Value.int .u32 t9)])) (Wn.no rfl) rfl (R.ldA ag29 sz29 rfl rfl (Cs.cons h6 (Cs.cons h8 (Cs.cons h10 Cs.nil)))) ?_
  refine LE.c (Wn.no rfl) rfl (R.call bd16 (Ls.cons rfl Ls.nil) rfl) (Calls.mono h ?_)
  rintro _ w13 ⟨r11, r12, rfl, h⟩
  refine ⟨_, rfl, ?_⟩
  refine LE.p (v := (Value.tuple #[(SV.v r11), (Value.int .i64 r12)])) (Wn.no rfl) rfl (R.move rfl) ?_
  refine LE.p (v := (SV.v r11)) (Wn.no rfl) rfl (R.ext rfl rfl) ?_
  refine LE.p (v := (Value.int .i64 r12)) (Wn.no rfl) rfl (R.ext rfl rfl) ?_
  refine LE.p (v := (SV.v r11)) (Wn.no rfl) rfl (R.assign rfl) ?_
  refine LE.p (v := (Value.int .i64 r12)) (Wn.no rfl) rfl (R.assign rfl) ?_
  refine LE.nil ?_
  refine WE.seq ?_
  refine WE.seq ?_
  obtain ⟨J14, hJ14, h⟩ := M.join_use h
  refine WE.regJ (fun e w => ∃ (x15 : Bool), J14 x15 w ∧ e 3 = (SV.v p3) ∧ e 10 = (SV.v r11) ∧ e 11 = (Value.int .i64 r12) ∧ e 47 = (Value.bool x15)) ?_ ?_
  · clear hJ14
    refine LE.p (v := (Value.int .i64 r12)) (Wn.no rfl) rfl (R.move rfl) ?_
    refine LE.p (v := (Value.bool (r12 == (0 : Int)))) (Wn.no rfl) rfl (R.eql rfl rfl) ?_
    refine LE.p (v := (Value.int .i64 p0)) (Wn.no rfl) rfl (R.move rfl) ?_
    refine LE.p (v := (Value.bool (decide ((1 : Int) ≤ p0)))) (Wn.no rfl) rfl (R.geq rfl rfl) ?_
    refine LE.p (v := (Value.bool (decide ((1 : Int) ≤ p0)))) (Wn.no rfl) rfl (R.move rfl) ?_
    rcases M.ite_use h with ⟨hb16, h⟩ | ⟨hb16, h⟩
    · refine LE.p (v := (Value.int .i64 p0)) (Wn.yes 4 27 true rfl rfl rfl (congrArg Value.bool hb16)) rfl (R.move rfl) ?_
      refine LE.p (v := (Value.bool (decide (p0 ≤ (65535 : Int))))) (Wn.yes 4 27 true rfl rfl rfl (congrArg Value.bool hb16)) rfl (R.leq rfl rfl) ?_
      refine LE.p (v := (Value.bool (decide (p0 ≤ (65535 : Int))))) (Wn.no rfl) rfl (R.pickT (congrArg Value.bool hb16) rfl) ?_
      refine LE.p (v := (Value.bool (decide (p0 ≤ (65535 : Int))))) (Wn.no rfl) rfl (R.move rfl) ?_
      rcases M.ite_use h with ⟨hb17, h⟩ | ⟨hb17, h⟩
      · refine LE.p (v := (Value.int .i64 p1)) (Wn.yes 8 31 true rfl rfl rfl (congrArg Value.bool hb17)) rfl (R.move rfl) ?_
        refine LE.p (v := (Value.bool (p1 == (0 : Int)))) (Wn.yes 8 31 true rfl rfl rfl (congrArg Value.bool hb17)) rfl (R.eql rfl rfl) ?_
        refine LE.p (v := (Value.bool (p1 == (0 : Int)))) (Wn.yes 8 31 true rfl rfl rfl (congrArg Value.bool hb17)) rfl (R.move rfl) ?_
        rcases M.ite_use h with ⟨hb18, h⟩ | ⟨hb18, h⟩
        · refine LE.u (Un.no 11 34 false rfl rfl rfl (congrArg Value.bool hb18)) ?_
          refine LE.u (Un.no 11 34 false rfl rfl rfl (congrArg Value.bool hb18)) ?_
          refine LE.u (Un.no 11 34 false rfl rfl rfl (congrArg Value.bool hb18)) ?_
          refine LE.u (Un.un 14 37 true rfl rfl rfl rfl) ?_
          refine LE.u (Un.un 14 37 true rfl rfl rfl rfl) ?_
          refine LE.u (Un.no 11 34 false rfl rfl rfl (congrArg Value.bool hb18)) ?_
          refine LE.p (v := (Value.bool true)) (Wn.yes 8 31 true rfl rfl rfl (congrArg Value.bool hb17)) rfl (R.pickT (congrArg Value.bool hb18) rfl) ?_
          refine LE.p (v := (Value.bool true)) (Wn.no rfl) rfl (R.pickT (congrArg Value.bool hb17) rfl) ?_
          refine LE.p (v := (Value.bool true)) (Wn.no rfl) rfl (R.move rfl) ?_
          refine LE.p (v := (Value.int .u32 p2)) (Wn.yes 20 43 true rfl rfl rfl rfl) rfl (R.move rfl) ?_
          refine LE.p (v := (Value.bool (p2 != (0 : Int)))) (Wn.yes 20 43 true rfl rfl rfl rfl) rfl (R.neq rfl rfl) ?_
          refine LE.p (v := (Value.bool (p2 != (0 : Int)))) (Wn.no rfl) rfl (R.pickT rfl rfl) ?_
          refine LE.p (v := (Value.bool (!((r12 == (0 : Int)) == (p2 != (0 : Int)))))) (Wn.no rfl) rfl (R.bneq bo4 rfl rfl) ?_
          refine LE.nil ?_
          exact ⟨_, h, rfl, rfl, rfl, rfl⟩
        · refine LE.p (v := (Value.int .i64 p1)) (Wn.yes 11 34 false rfl rfl rfl (congrArg Value.bool hb18)) rfl (R.move rfl) ?_
          refine LE.p (v := (Value.bool (decide ((3 : Int) ≤ p1)))) (Wn.yes 11 34 false rfl rfl rfl (congrArg Value.bool hb18)) rfl (R.geq rfl rfl) ?_
          refine LE.p (v := (Value.bool (decide ((3 : Int) ≤ p1)))) (Wn.yes 11 34 false rfl rfl rfl (congrArg Value.bool hb18)) rfl (R.move rfl) ?_
          rcases M.ite_use h with ⟨hb19, h⟩ | ⟨hb19, h⟩
          · refine LE.p (v := (Value.int .i64 p1)) (Wn.yes 14 37 true rfl rfl rfl (congrArg Value.bool hb19)) rfl (R.move rfl) ?_
            refine LE.p (v := (Value.bool (decide (p1 ≤ (65535 : Int))))) (Wn.yes 14 37 true rfl rfl rfl (congrArg Value.bool hb19)) rfl (R.leq rfl rfl) ?_
            refine LE.p (v := (Value.bool (decide (p1 ≤ (65535 : Int))))) (Wn.yes 11 34 false rfl rfl rfl (congrArg Value.bool hb18)) rfl (R.pickT (congrArg Value.bool hb19) rfl) ?_
            refine LE.p (v := (Value.bool (decide (p1 ≤ (65535 : Int))))) (Wn.yes 8 31 true rfl rfl rfl (congrArg Value.bool hb17)) rfl (R.pickF (congrArg Value.bool hb18) rfl) ?_
            refine LE.p (v := (Value.bool (decide (p1 ≤ (65535 : Int))))) (Wn.no rfl) rfl (R.pickT (congrArg Value.bool hb17) rfl) ?_
            refine LE.p (v := (Value.bool (decide (p1 ≤ (65535 : Int))))) (Wn.no rfl) rfl (R.move rfl) ?_
            rcases M.ite_use h with ⟨hb20, h⟩ | ⟨hb20, h⟩
            · refine LE.p (v := (Value.int .u32 p2)) (Wn.yes 20 43 true rfl rfl rfl (congrArg Value.bool hb20)) rfl (R.move rfl) ?_
              refine LE.p (v := (Value.bool (p2 != (0 : Int)))) (Wn.yes 20 43 true rfl rfl rfl (congrArg Value.bool hb20)) rfl (R.neq rfl rfl) ?_
              refine LE.p (v := (Value.bool (p2 != (0 : Int)))) (Wn.no rfl) rfl (R.pickT (congrArg Value.bool hb20) rfl) ?_
              refine LE.p (v := (Value.bool (!((r12 == (0 : Int)) == (p2 != (0 : Int)))))) (Wn.no rfl) rfl (R.bneq bo4 rfl rfl) ?_
              refine LE.nil ?_
              exact ⟨_, h, rfl, rfl, rfl, rfl⟩
            · refine LE.u (Un.no 20 43 true rfl rfl rfl (congrArg Value.bool hb20)) ?_
              refine LE.u (Un.no 20 43 true rfl rfl rfl (congrArg Value.bool hb20)) ?_
              refine LE.p (v := (Value.bool false)) (Wn.no rfl) rfl (R.pickF (congrArg Value.bool hb20) rfl) ?_
              refine LE.p (v := (Value.bool (!((r12 == (0 : Int)) == false)))) (Wn.no rfl) rfl (R.bneq bo4 rfl rfl) ?_
              refine LE.nil ?_
              exact ⟨_, h, rfl, rfl, rfl, rfl⟩
          · refine LE.u (Un.no 14 37 true rfl rfl rfl (congrArg Value.bool hb19)) ?_
            refine LE.u (Un.no 14 37 true rfl rfl rfl (congrArg Value.bool hb19)) ?_
            refine LE.p (v := (Value.bool false)) (Wn.yes 11 34 false rfl rfl rfl (congrArg Value.bool hb18)) rfl (R.pickF (congrArg Value.bool hb19) rfl) ?_
            refine LE.p (v := (Value.bool false)) (Wn.yes 8 31 true rfl rfl rfl (congrArg Value.bool hb17)) rfl (R.pickF (congrArg Value.bool hb18) rfl) ?_
            refine LE.p (v := (Value.bool false)) (Wn.no rfl) rfl (R.pickT (congrArg Value.bool hb17) rfl) ?_
            refine LE.p (v := (Value.bool false)) (Wn.no rfl) rfl (R.move rfl) ?_
            refine LE.u (Un.no 20 43 true rfl rfl rfl rfl) ?_
            refine LE.u (Un.no 20 43 true rfl rfl rfl rfl) ?_
            refine LE.p (v := (Value.bool false)) (Wn.no rfl) rfl (R.pickF rfl rfl) ?_
            refine LE.p (v := (Value.bool (!((r12 == (0 : Int)) == false)))) (Wn.no rfl) rfl (R.bneq bo4 rfl rfl) ?_
            refine LE.nil ?_
            exact ⟨_, h, rfl, rfl, rfl, rfl⟩
      · refine LE.u (Un.no 8 31 true rfl rfl rfl (congrArg Value.bool hb17)) ?_
        refine LE.u (Un.no 8 31 true rfl rfl rfl (congrArg Value.bool hb17)) ?_
        refine LE.u (Un.no 8 31 true rfl rfl rfl (congrArg Value.bool hb17)) ?_
        refine LE.u (Un.un 11 34 false rfl rfl rfl rfl) ?_
        refine LE.u (Un.un 11 34 false rfl rfl rfl rfl) ?_
        refine LE.u (Un.un 11 34 false rfl rfl rfl rfl) ?_
        refine LE.u (Un.un 14 37 true rfl rfl rfl rfl) ?_
        refine LE.u (Un.un 14 37 true rfl rfl rfl rfl) ?_
        refine LE.u (Un.un 11 34 false rfl rfl rfl rfl) ?_
        refine LE.u (Un.no 8 31 true rfl rfl rfl (congrArg Value.bool hb17)) ?_
        refine LE.p (v := (Value.bool false)) (Wn.no rfl) rfl (R.pickF (congrArg Value.bool hb17) rfl) ?_
        refine LE.p (v := (Value.bool false)) (Wn.no rfl) rfl (R.move rfl) ?_
        refine LE.u (Un.no 20 43 true rfl rfl rfl rfl) ?_
        refine LE.u (Un.no 20 43 true rfl rfl rfl rfl) ?_
        refine LE.p (v := (Value.bool false)) (Wn.no rfl) rfl (R.pickF rfl rfl) ?_
        refine LE.p (v := (Value.bool (!((r12 == (0 : Int)) == false)))) (Wn.no rfl) rfl (R.bneq bo4 rfl rfl) ?_
        refine LE.nil ?_
        exact ⟨_, h, rfl, rfl, rfl, rfl⟩
    · refine LE.u (Un.no 4 27 true rfl rfl rfl (congrArg Value.bool hb16)) ?_
      refine LE.u (Un.no 4 27 true rfl rfl rfl (congrArg Value.bool hb16)) ?_
      refine LE.p (v := (Value.bool false)) (Wn.no rfl) rfl (R.pickF (congrArg Value.bool hb16) rfl) ?_
      refine LE.p (v := (Value.bool false)) (Wn.no rfl) rfl (R.move rfl) ?_
      refine LE.u (Un.no 8 31 true rfl rfl rfl rfl) ?_
      refine LE.u (Un.no 8 31 true rfl rfl rfl rfl) ?_
      refine LE.u (Un.no 8 31 true rfl rfl rfl rfl) ?_
      refine LE.u (Un.un 11 34 false rfl rfl rfl rfl) ?_
      refine LE.u (Un.un 11 34 false rfl rfl rfl rfl) ?_
      refine LE.u (Un.un 11 34 false rfl rfl rfl rfl) ?_
      refine LE.u (Un.un 14 37 true rfl rfl rfl rfl) ?_
      refine LE.u (Un.un 14 37 true rfl rfl rfl rfl) ?_
      refine LE.u (Un.un 11 34 false rfl rfl rfl rfl) ?_
      refine LE.u (Un.no 8 31 true rfl rfl rfl rfl) ?_
      refine LE.p (v := (Value.bool false)) (Wn.no rfl) rfl (R.pickF rfl rfl) ?_
      refine LE.p (v := (Value.bool false)) (Wn.no rfl) rfl (R.move rfl) ?_
      refine LE.u (Un.no 20 43 true rfl rfl rfl rfl) ?_
      refine LE.u (Un.no 20 43 true rfl rfl rfl rfl) ?_
      refine LE.p (v := (Value.bool false)) (Wn.no rfl) rfl (R.pickF rfl rfl) ?_
      refine LE.p (v := (Value.bool (!((r12 == (0 : Int)) == false)))) (Wn.no rfl) rfl (R.bneq bo4 rfl rfl) ?_
      refine LE.nil ?_
      exact ⟨_, h, rfl, rfl, rfl, rfl⟩
  · rintro e21 w22 ⟨x15, h, f23, f24, f25, f26⟩
    subst hJ14
    refine WE.condT rfl (b := x15) f26 ?_ ?_
    · intro hb27
      replace h := M.ite_t h hb27
      refine WE.seq ?_
      refine WE.reg ?_
      refine LE.p (v := (Value.bool false)) (Wn.no rfl) rfl (R.assign rfl) ?_
      refine LE.nil ?_
      refine WE.ret ?_
      exact ⟨_, (Res.tmp rfl Res.nil), _, rfl, h⟩
    · intro hb27
      replace h := M.ite_f h hb27
      refine WE.skip ?_
      refine WE.seq ?_
      refine WE.seq ?_
      refine WE.reg ?_
      refine LE.p (v := (Value.int .i64 r12)) (Wn.no rfl) rfl (R.move f25) ?_
      refine LE.p (v := (Value.bool (r12 != (0 : Int)))) (Wn.no rfl) rfl (R.neq rfl rfl) ?_
      refine LE.nil ?_
      refine WE.condT rfl (b := (r12 != (0 : Int))) rfl ?_ ?_
      · intro hb28
        replace h := M.ite_t h hb28
        refine WE.seq ?_
        obtain ⟨J29, hJ29, h⟩ := M.join_use h
        refine WE.regJ (fun e w => ∃ (x30 : Bool), J29 x30 w ∧ e 8 = (Value.bool x30)) ?_ ?_
        · clear hJ29
          refine LE.p (v := (SV.v r11)) (Wn.no rfl) rfl (R.move f24) ?_
          refine LE.p (v := (Value.int .i64 (r11.len : Int))) (Wn.no rfl) rfl (R.len sl23 rfl) ?_
          refine LE.p (v := (Value.bool ((r11.len : Int) == (0 : Int)))) (Wn.no rfl) rfl (R.eql rfl rfl) ?_
          refine LE.p (v := (Value.bool ((r11.len : Int) == (0 : Int)))) (Wn.no rfl) rfl (R.move rfl) ?_
          rcases M.ite_use h with ⟨hb31, h⟩ | ⟨hb31, h⟩
          · refine LE.p (v := (Value.int .i64 r12)) (Wn.yes 3 53 true rfl rfl rfl (congrArg Value.bool hb31)) rfl (R.move f25) ?_
            refine LE.p (v := (Value.bool (r12 == (12 : Int)))) (Wn.yes 3 53 true rfl rfl rfl (congrArg Value.bool hb31)) rfl (R.eql rfl rfl) ?_
            refine LE.p (v := (Value.bool (r12 == (12 : Int)))) (Wn.no rfl) rfl (R.pickT (congrArg Value.bool hb31) rfl) ?_
            refine LE.p (v := (Value.bool (r12 == (12 : Int)))) (Wn.no rfl) rfl (R.move rfl) ?_
            rcases M.ite_use h with ⟨hb32, h⟩ | ⟨hb32, h⟩
            · refine LE.c (Wn.yes 7 57 true rfl rfl rfl (congrArg Value.bool hb32)) rfl (R.call bd13 Ls.nil rfl) (Calls.mono h ?_)
              rintro _ w34 ⟨r33, rfl, h⟩
              refine ⟨_, rfl, ?_⟩
              refine LE.p (v := (Value.bool r33)) (Wn.no rfl) rfl (R.pickT (congrArg Value.bool hb32) rfl) ?_
              refine LE.p (v := (Value.bool r33)) (Wn.no rfl) rfl (R.assign rfl) ?_
              refine LE.nil ?_
              exact ⟨_, h, rfl⟩
            · refine LE.u (Un.no 7 57 true rfl rfl rfl (congrArg Value.bool hb32)) ?_
              refine LE.p (v := (Value.bool false)) (Wn.no rfl) rfl (R.pickF (congrArg Value.bool hb32) rfl) ?_
              refine LE.p (v := (Value.bool false)) (Wn.no rfl) rfl (R.assign rfl) ?_
              refine LE.nil ?_
              exact ⟨_, h, rfl⟩
          · refine LE.u (Un.no 3 53 true rfl rfl rfl (congrArg Value.bool hb31)) ?_
            refine LE.u (Un.no 3 53 true rfl rfl rfl (congrArg Value.bool hb31)) ?_
            refine LE.p (v := (Value.bool false)) (Wn.no rfl) rfl (R.pickF (congrArg Value.bool hb31) rfl) ?_
            refine LE.p (v := (Value.bool false)) (Wn.no rfl) rfl (R.move rfl) ?_
            refine LE.u (Un.no 7 57 true rfl rfl rfl rfl) ?_
            refine LE.p (v := (Value.bool false)) (Wn.no rfl) rfl (R.pickF rfl rfl) ?_
            refine LE.p (v := (Value.bool false)) (Wn.no rfl) rfl (R.assign rfl) ?_
            refine LE.nil ?_
            exact ⟨_, h, rfl⟩
        · rintro e35 w36 ⟨x30, h, f37⟩
          subst hJ29
          refine WE.ret ?_
          exact ⟨_, (Res.tmp f37 Res.nil), _, rfl, h⟩
      · intro hb28
        replace h := M.ite_f h hb28
        refine WE.skip ?_
        refine WE.seq ?_
        refine WE.reg ?_
        refine LE.p (v := (SV.v p3)) (Wn.no rfl) rfl (R.move f23) ?_
        refine LE.c (Wn.no rfl) rfl (R.call bd12 (Ls.cons rfl (Ls.cons rfl Ls.nil)) rfl) (Calls.mono h ?_)
        rintro _ w39 ⟨r38, rfl, h⟩
        refine ⟨_, rfl, ?_⟩
        refine LE.p (v := (SV.v r38)) (Wn.no rfl) rfl (R.assign rfl) ?_
        refine LE.nil ?_
        refine WE.seq ?_
        refine WE.reg ?_
        obtain ⟨b42, hpb42, w40, hww40, h⟩ := M.new_use h
        refine LE.r (v := (SV.v (SV.mk (some b42) 0 0))) (Wn.no rfl) rfl (R.bsl (by exact Ls.nil) (fun w => bs23_0  w) hpb42 hww40) ?_
        refine LE.p (v := (SV.v r11)) (Wn.no rfl) rfl (R.move f24) ?_
        obtain ⟨s43, w44, h45, h⟩ := h
        refine LE.r (v := (SV.v s43)) (Wn.no rfl) rfl (R.app (s := (SV.mk (some b42) 0 0)) (r := s43) rfl rfl h45) ?_
        refine LE.p (v := (SV.v r38)) (Wn.no rfl) rfl (R.move rfl) ?_
        obtain ⟨s46, w47, h48, h⟩ := h
        refine LE.r (v := (SV.v s46)) (Wn.no rfl) rfl (R.app (s := s43) (r := s46) rfl rfl h48) ?_
        refine LE.c (Wn.no rfl) rfl (R.call bd14 (Ls.cons rfl Ls.nil) rfl) (Calls.mono h ?_)
        rintro _ w55 ⟨r49, r50, r51, r52, r53, r54, rfl, h⟩
        refine ⟨_, rfl, ?_⟩
        refine LE.p (v := (Value.tuple #[(Value.agg #[(Value.int .i64 r49), (Value.int .i64 r50), (Value.int .u32 r51)]), (Value.agg #[(Value.int .i64 r52), (Value.int .i64 r53), (SV.v r54)])])) (Wn.no rfl) rfl (R.move rfl) ?_
        refine LE.p (v := (Value.agg #[(Value.int .i64 r49), (Value.int .i64 r50), (Value.int .u32 r51)])) (Wn.no rfl) rfl (R.ext rfl rfl) ?_
        refine LE.p (v := (Value.agg #[(Value.int .i64 r52), (Value.int .i64 r53), (SV.v r54)])) (Wn.no rfl) rfl (R.ext rfl rfl) ?_
        obtain ⟨b57, hpb57, w56, hww56, h⟩ := M.new_use h
        refine LE.r (v := (Value.pointer (some b57))) (Wn.no rfl) rfl (R.alloc (cs := #[(Value.int .i64 (0 : Int)), (Value.int .i64 (0 : Int)), (Value.int .u32 (0 : Int))]) ze29 rfl hpb57 hww56) ?_
        obtain ⟨b59, hpb59, w58, hww58, h⟩ := M.new_use h
        refine LE.r (v := (Value.pointer (some b59))) (Wn.no rfl) rfl (R.alloc (cs := #[(Value.int .i64 (0 : Int)), (Value.int .i64 (0 : Int)), (SV.v SV.nil)]) ze35 rfl hpb59 hww58) ?_
        obtain ⟨w60, hww60, h61, h⟩ := M.stA_use h
        refine LE.s (Wn.no rfl) rfl (R.stA (a := b57) [(Value.int .i64 r49), (Value.int .i64 r50), (Value.int .u32 r51)] sz29 rfl rfl rfl (by simp [Value.oneCell']) h61 hww60) ?_
        obtain ⟨w62, hww62, h63, h⟩ := M.stA_use h
        refine LE.s (Wn.no rfl) rfl (R.stA (a := b59) [(Value.int .i64 r52), (Value.int .i64 r53), (SV.v r54)] sz35 rfl rfl rfl (by simp [Value.oneCell']) h63 hww62) ?_
        refine LE.nil ?_
        refine WE.seq ?_
        obtain ⟨J64, hJ64, h⟩ := M.join_use h
        refine WE.regJ (fun e w => ∃ (x65 : Bool), J64 x65 w ∧ e 8 = (Value.bool x65)) ?_ ?_
        · clear hJ64
          refine LE.p (v := (SV.v r11)) (Wn.no rfl) rfl (R.move f24) ?_
          refine LE.p (v := (Value.int .i64 (r11.len : Int))) (Wn.no rfl) rfl (R.len sl23 rfl) ?_
          refine LE.p (v := (Value.bool ((r11.len : Int) == (10 : Int)))) (Wn.no rfl) rfl (R.eql rfl rfl) ?_
          refine LE.p (v := (Value.bool ((r11.len : Int) == (10 : Int)))) (Wn.no rfl) rfl (R.move rfl) ?_
          rcases M.ite_use h with ⟨hb66, h⟩ | ⟨hb66, h⟩
          · refine LE.p (v := (Value.pointer (some b59))) (Wn.yes 3 74 true rfl rfl rfl (congrArg Value.bool hb66)) rfl (R.fld (off := 0) fa35_0 rfl) ?_
            obtain ⟨t67, h68, h⟩ := h
            refine LE.r (v := (Value.int .i64 t67)) (Wn.yes 3 74 true rfl rfl rfl (congrArg Value.bool hb66)) rfl (R.ld sc3 rfl h68) ?_
            refine LE.p (v := (Value.bool (t67 == (0 : Int)))) (Wn.yes 3 74 true rfl rfl rfl (congrArg Value.bool hb66)) rfl (R.eql rfl rfl) ?_
            refine LE.p (v := (SV.v r38)) (Wn.yes 3 74 true rfl rfl rfl (congrArg Value.bool hb66)) rfl (R.move rfl) ?_
            refine LE.p (v := (Value.int .i64 (r38.len : Int))) (Wn.yes 3 74 true rfl rfl rfl (congrArg Value.bool hb66)) rfl (R.len sl23 rfl) ?_
            refine LE.p (v := (Value.bool ((r38.len : Int) == (0 : Int)))) (Wn.yes 3 74 true rfl rfl rfl (congrArg Value.bool hb66)) rfl (R.eql rfl rfl) ?_
            refine LE.p (v := (Value.bool ((t67 == (0 : Int)) == ((r38.len : Int) == (0 : Int))))) (Wn.yes 3 74 true rfl rfl rfl (congrArg Value.bool hb66)) rfl (R.beql bo4 rfl rfl) ?_
            refine LE.p (v := (Value.bool ((t67 == (0 : Int)) == ((r38.len : Int) == (0 : Int))))) (Wn.no rfl) rfl (R.pickT (congrArg Value.bool hb66) rfl) ?_
            refine LE.p (v := (Value.bool ((t67 == (0 : Int)) == ((r38.len : Int) == (0 : Int))))) (Wn.no rfl) rfl (R.move rfl) ?_
            rcases M.ite_use h with ⟨hb69, h⟩ | ⟨hb69, h⟩
            · refine LE.p (v := (SV.v r38)) (Wn.yes 12 83 true rfl rfl rfl (congrArg Value.bool hb69)) rfl (R.move rfl) ?_
              refine LE.p (v := (Value.int .i64 (r38.len : Int))) (Wn.yes 12 83 true rfl rfl rfl (congrArg Value.bool hb69)) rfl (R.len sl23 rfl) ?_
              refine LE.p (v := (Value.bool ((r38.len : Int) == (0 : Int)))) (Wn.yes 12 83 true rfl rfl rfl (congrArg Value.bool hb69)) rfl (R.eql rfl rfl) ?_
              refine LE.p (v := (Value.bool ((r38.len : Int) == (0 : Int)))) (Wn.yes 12 83 true rfl rfl rfl (congrArg Value.bool hb69)) rfl (R.move rfl) ?_
              rcases M.ite_use h with ⟨hb70, h⟩ | ⟨hb70, h⟩
              · refine LE.u (Un.no 16 87 false rfl rfl rfl (congrArg Value.bool hb70)) ?_
                refine LE.u (Un.no 16 87 false rfl rfl rfl (congrArg Value.bool hb70)) ?_
                refine LE.u (Un.no 16 87 false rfl rfl rfl (congrArg Value.bool hb70)) ?_
                refine LE.u (Un.no 16 87 false rfl rfl rfl (congrArg Value.bool hb70)) ?_
                refine LE.u (Un.un 20 91 true rfl rfl rfl rfl) ?_
                refine LE.u (Un.un 20 91 true rfl rfl rfl rfl) ?_
                refine LE.u (Un.un 20 91 true rfl rfl rfl rfl) ?_
                refine LE.u (Un.no 16 87 false rfl rfl rfl (congrArg Value.bool hb70)) ?_
                refine LE.p (v := (Value.bool true)) (Wn.yes 12 83 true rfl rfl rfl (congrArg Value.bool hb69)) rfl (R.pickT (congrArg Value.bool hb70) rfl) ?_
                refine LE.p (v := (Value.bool true)) (Wn.no rfl) rfl (R.pickT (congrArg Value.bool hb69) rfl) ?_
                refine LE.p (v := (Value.bool true)) (Wn.no rfl) rfl (R.move rfl) ?_
                refine LE.c (Wn.yes 27 98 true rfl rfl rfl rfl) rfl (R.call bd13 Ls.nil rfl) (Calls.mono h ?_)
                rintro _ w72 ⟨r71, rfl, h⟩
                refine ⟨_, rfl, ?_⟩
                refine LE.p (v := (Value.bool r71)) (Wn.no rfl) rfl (R.pickT rfl rfl) ?_
                refine LE.p (v := (Value.bool r71)) (Wn.no rfl) rfl (R.assign rfl) ?_
                refine LE.nil ?_
                exact ⟨_, h, rfl⟩
              · refine LE.p (v := (Value.pointer (some b59))) (Wn.yes 16 87 false rfl rfl rfl (congrArg Value.bool hb70)) rfl (R.fld (off := 0) fa35_0 rfl) ?_
                obtain ⟨t73, h74, h⟩ := h
                refine LE.r (v := (Value.int .i64 t73)) (Wn.yes 16 87 false rfl rfl rfl (congrArg Value.bool hb70)) rfl (R.ld sc3 rfl h74) ?_
                refine LE.p (v := (Value.bool (t73 == (2 : Int)))) (Wn.yes 16 87 false rfl rfl rfl (congrArg Value.bool hb70)) rfl (R.eql rfl rfl) ?_
                refine LE.p (v := (Value.bool (t73 == (2 : Int)))) (Wn.yes 16 87 false rfl rfl rfl (congrArg Value.bool hb70)) rfl (R.move rfl) ?_
                rcases M.ite_use h with ⟨hb75, h⟩ | ⟨hb75, h⟩
                · refine LE.p (v := (Value.pointer (some (b59.add 1)))) (Wn.yes 20 91 true rfl rfl rfl (congrArg Value.bool hb75)) rfl (R.fld (off := 1) fa35_1 rfl) ?_
                  obtain ⟨t76, h77, h⟩ := h
                  refine LE.r (v := (Value.int .i64 t76)) (Wn.yes 20 91 true rfl rfl rfl (congrArg Value.bool hb75)) rfl (R.ld sc3 rfl h77) ?_
                  refine LE.p (v := (Value.bool (t76 == (0 : Int)))) (Wn.yes 20 91 true rfl rfl rfl (congrArg Value.bool hb75)) rfl (R.eql rfl rfl) ?_
                  refine LE.p (v := (Value.bool (t76 == (0 : Int)))) (Wn.yes 16 87 false rfl rfl rfl (congrArg Value.bool hb70)) rfl (R.pickT (congrArg Value.bool hb75) rfl) ?_
                  refine LE.p (v := (Value.bool (t76 == (0 : Int)))) (Wn.yes 12 83 true rfl rfl rfl (congrArg Value.bool hb69)) rfl (R.pickF (congrArg Value.bool hb70) rfl) ?_
                  refine LE.p (v := (Value.bool (t76 == (0 : Int)))) (Wn.no rfl) rfl (R.pickT (congrArg Value.bool hb69) rfl) ?_
                  refine LE.p (v := (Value.bool (t76 == (0 : Int)))) (Wn.no rfl) rfl (R.move rfl) ?_
                  rcases M.ite_use h with ⟨hb78, h⟩ | ⟨hb78, h⟩
                  · refine LE.c (Wn.yes 27 98 true rfl rfl rfl (congrArg Value.bool hb78)) rfl (R.call bd13 Ls.nil rfl) (Calls.mono h ?_)
                    rintro _ w80 ⟨r79, rfl, h⟩
                    refine ⟨_, rfl, ?_⟩
                    refine LE.p (v := (Value.bool r79)) (Wn.no rfl) rfl (R.pickT (congrArg Value.bool hb78) rfl) ?_
                    refine LE.p (v := (Value.bool r79)) (Wn.no rfl) rfl (R.assign rfl) ?_
                    refine LE.nil ?_
                    exact ⟨_, h, rfl⟩
                  · refine LE.u (Un.no 27 98 true rfl rfl rfl (congrArg Value.bool hb78)) ?_
                    refine LE.p (v := (Value.bool false)) (Wn.no rfl) rfl (R.pickF (congrArg Value.bool hb78) rfl) ?_
                    refine LE.p (v := (Value.bool false)) (Wn.no rfl) rfl (R.assign rfl) ?_
                    refine LE.nil ?_
                    exact ⟨_, h, rfl⟩
                · refine LE.u (Un.no 20 91 true rfl rfl rfl (congrArg Value.bool hb75)) ?_
                  refine LE.u (Un.no 20 91 true rfl rfl rfl (congrArg Value.bool hb75)) ?_
                  refine LE.u (Un.no 20 91 true rfl rfl rfl (congrArg Value.bool hb75)) ?_
                  refine LE.p (v := (Value.bool false)) (Wn.yes 16 87 false rfl rfl rfl (congrArg Value.bool hb70)) rfl (R.pickF (congrArg Value.bool hb75) rfl) ?_
                  refine LE.p (v := (Value.bool false)) (Wn.yes 12 83 true rfl rfl rfl (congrArg Value.bool hb69)) rfl (R.pickF (congrArg Value.bool hb70) rfl) ?_
                  refine LE.p (v := (Value.bool false)) (Wn.no rfl) rfl (R.pickT (congrArg Value.bool hb69) rfl) ?_
                  refine LE.p (v := (Value.bool false)) (Wn.no rfl) rfl (R.move rfl) ?_
                  refine LE.u (Un.no 27 98 true rfl rfl rfl rfl) ?_
                  refine LE.p (v := (Value.bool false)) (Wn.no rfl) rfl (R.pickF rfl rfl) ?_
                  refine LE.p (v := (Value.bool false)) (Wn.no rfl) rfl (R.assign rfl) ?_
                  refine LE.nil ?_
                  exact ⟨_, h, rfl⟩
            · refine LE.u (Un.no 12 83 true rfl rfl rfl (congrArg Value.bool hb69)) ?_
              refine LE.u (Un.no 12 83 true rfl rfl rfl (congrArg Value.bool hb69)) ?_
              refine LE.u (Un.no 12 83 true rfl rfl rfl (congrArg Value.bool hb69)) ?_
              refine LE.u (Un.no 12 83 true rfl rfl rfl (congrArg Value.bool hb69)) ?_
              refine LE.u (Un.un 16 87 false rfl rfl rfl rfl) ?_
              refine LE.u (Un.un 16 87 false rfl rfl rfl rfl) ?_
              refine LE.u (Un.un 16 87 false rfl rfl rfl rfl) ?_
              refine LE.u (Un.un 16 87 false rfl rfl rfl rfl) ?_
              refine LE.u (Un.un 20 91 true rfl rfl rfl rfl) ?_
              refine LE.u (Un.un 20 91 true rfl rfl rfl rfl) ?_
              refine LE.u (Un.un 20 91 true rfl rfl rfl rfl) ?_
              refine LE.u (Un.un 16 87 false rfl rfl rfl rfl) ?_
              refine LE.u (Un.no 12 83 true rfl rfl rfl (congrArg Value.bool hb69)) ?_
              refine LE.p (v := (Value.bool false)) (Wn.no rfl) rfl (R.pickF (congrArg Value.bool hb69) rfl) ?_
              refine LE.p (v := (Value.bool false)) (Wn.no rfl) rfl (R.move rfl) ?_
              refine LE.u (Un.no 27 98 true rfl rfl rfl rfl) ?_
              refine LE.p (v := (Value.bool false)) (Wn.no rfl) rfl (R.pickF rfl rfl) ?_
              refine LE.p (v := (Value.bool false)) (Wn.no rfl) rfl (R.assign rfl) ?_
              refine LE.nil ?_
              exact ⟨_, h, rfl⟩
          · refine LE.u (Un.no 3 74 true rfl rfl rfl (congrArg Value.bool hb66)) ?_
            refine LE.u (Un.no 3 74 true rfl rfl rfl (congrArg Value.bool hb66)) ?_
            refine LE.u (Un.no 3 74 true rfl rfl rfl (congrArg Value.bool hb66)) ?_
            refine LE.u (Un.no 3 74 true rfl rfl rfl (congrArg Value.bool hb66)) ?_
            refine LE.u (Un.no 3 74 true rfl rfl rfl (congrArg Value.bool hb66)) ?_
            refine LE.u (Un.no 3 74 true rfl rfl rfl (congrArg Value.bool hb66)) ?_
            refine LE.u (Un.no 3 74 true rfl rfl rfl (congrArg Value.bool hb66)) ?_
            refine LE.p (v := (Value.bool false)) (Wn.no rfl) rfl (R.pickF (congrArg Value.bool hb66) rfl) ?_
            refine LE.p (v := (Value.bool false)) (Wn.no rfl) rfl (R.move rfl) ?_
            refine LE.u (Un.no 12 83 true rfl rfl rfl rfl) ?_
            refine LE.u (Un.no 12 83 true rfl rfl rfl rfl) ?_
            refine LE.u (Un.no 12 83 true rfl rfl rfl rfl) ?_
            refine LE.u (Un.no 12 83 true rfl rfl rfl rfl) ?_
            refine LE.u (Un.un 16 87 false rfl rfl rfl rfl) ?_
            refine LE.u (Un.un 16 87 false rfl rfl rfl rfl) ?_
            refine LE.u (Un.un 16 87 false rfl rfl rfl rfl) ?_
            refine LE.u (Un.un 16 87 false rfl rfl rfl rfl) ?_
            refine LE.u (Un.un 20 91 true rfl rfl rfl rfl) ?_
            refine LE.u (Un.un 20 91 true rfl rfl rfl rfl) ?_
            refine LE.u (Un.un 20 91 true rfl rfl rfl rfl) ?_
            refine LE.u (Un.un 16 87 false rfl rfl rfl rfl) ?_
            refine LE.u (Un.no 12 83 true rfl rfl rfl rfl) ?_
            refine LE.p (v := (Value.bool false)) (Wn.no rfl) rfl (R.pickF rfl rfl) ?_
            refine LE.p (v := (Value.bool false)) (Wn.no rfl) rfl (R.move rfl) ?_
            refine LE.u (Un.no 27 98 true rfl rfl rfl rfl) ?_
            refine LE.p (v := (Value.bool false)) (Wn.no rfl) rfl (R.pickF rfl rfl) ?_
            refine LE.p (v := (Value.bool false)) (Wn.no rfl) rfl (R.assign rfl) ?_
            refine LE.nil ?_
            exact ⟨_, h, rfl⟩
        · rintro e81 w82 ⟨x65, h, f83⟩
          subst hJ64
          refine WE.ret ?_
          exact ⟨_, (Res.tmp f83 Res.nil), _, rfl, h⟩
/-- The formula of signpost.signpostlaw10.OpenNumbers. -/
def F6  (K : Bool → World → Prop) (w0 : World) : Prop :=
M.new (.cells #[(Value.int .i64 (-1 : Int)), (Value.int .i64 (0 : Int)), (Value.int .i64 (1 : Int)), (Value.int .i64 (2 : Int)), (Value.int .i64 (3 : Int)), (Value.int .i64 (4 : Int)), (Value.int .i64 (65535 : Int)), (Value.int .i64 (65536 : Int))] 3) w0 fun b3 w1 =>
M.loop1 (fun (J5 : Int → World → Prop) (x4 : Int) (w6 : World) => 
M.ite (decide (x4 < ((SV.mk (some b3) 8 8).len : Int))) (
M.idx (SV.mk (some b3) 8 8) x4 1 fun a17 =>
M.ld (Value.int .i64) (a17.add (x4.toNat * 1)) w6 fun t21 =>
M.join (fun (x24 : Bool) (w34 : World) => 
M.ite x24 (
K false w34) (
J5 (IntKind.i64.wrap (x4 + (1 : Int))) w34)) fun J23 => 
Calls Try.prog 10 #[(Value.agg #[(Value.int .i64 t21), (Value.int .i64 (90 : Int)), (Value.int .u32 (1 : Int))])] w6 (R10 fun r25 w26 =>
M.ite (!r25) (
J23 true w26) (
Calls Try.prog 10 #[(Value.agg #[(Value.int .i64 (1 : Int)), (Value.int .i64 t21), (Value.int .u32 (1 : Int))])] w26 (R10 fun r28 w29 =>
M.ite (!r28) (
J23 true w29) (
Calls Try.prog 10 #[(Value.agg #[(Value.int .i64 t21), (Value.int .i64 t21), (Value.int .u32 (IntKind.u32.wrap t21))])] w29 (R10 fun r31 w32 =>
J23 (!r31) w32)))))) (
Calls Try.prog 9 #[(Value.agg #[(Value.int .i64 (1 : Int)), (Value.int .i64 (3 : Int)), (Value.int .u32 (1 : Int))])] w6 (R9 fun r40 w41 =>
M.loop1 (fun (J43 : Int → World → Prop) (x42 : Int) (w44 : World) => 
M.ite (decide (x42 < (10 : Int))) (
M.new (.cells #[(Value.int .u8 (0 : Int)), (Value.int .u8 (1 : Int)), (Value.int .u8 (2 : Int)), (Value.int .u8 (3 : Int)), (Value.int .u8 (4 : Int)), (Value.int .u8 (5 : Int)), (Value.int .u8 (255 : Int))] 5) w44 fun b56 w54 =>
M.loop1 (fun (J58 : Int → World → Prop) (x57 : Int) (w59 : World) => 
M.ite (decide (x57 < ((SV.mk (some b56) 7 7).len : Int))) (
M.idx (SV.mk (some b56) 7 7) x57 1 fun a72 =>
M.ld (Value.int .u8) (a72.add (x57.toNat * 1)) w59 fun t76 =>
M.new (.cells #[] 5) w59 fun b80 w78 =>
M.app Try.prog 23 23 23 (SV.mk (some b80) 0 0) (SV.v r40) w78 fun s81 w82 =>
M.idx s81 x42 1 fun a84 =>
M.st (a84.add (x42.toNat * 1)) (Value.int .u8 t76) w82 fun w88 =>
M.loop1 (fun (J92 : Int → World → Prop) (x91 : Int) (w93 : World) => 
M.ite (decide (x91 < (14 : Int))) (
M.new (.cells #[] 5) w93 fun b110 w108 =>
M.app Try.prog 23 23 23 (SV.mk (some b110) 0 0) (SV.v s81) w108 fun s111 w112 =>
M.app Try.prog 23 3 23 s111 (Value.int .i64 x91) w112 fun s114 w115 =>
Calls Try.prog 11 #[(SV.v s114)] w115 (R11 fun r117 w118 =>
M.ite (!r117) (
K false w118) (
J92 (IntKind.i64.wrap (x91 + (1 : Int))) w118))) (
J58 (IntKind.i64.wrap (x57 + (1 : Int))) w93)) (0 : Int) w88) (
M.bnd (0 : Int) x42 r40 <|
Calls Try.prog 11 #[(SV.v (SV.sub r40 (Int.toNat (0 : Int)) (Int.toNat x42) 1))] w59 (R11 fun r124 w125 =>
M.ite (!r124) (
K false w125) (
J43 (IntKind.i64.wrap (x42 + (1 : Int))) w125)))) (0 : Int) w54) (
M.new (.cells #[(Value.int .u8 (6 : Int)), (Value.int .u8 (1 : Int)), (Value.int .u8 (9 : Int))] 5) w44 fun b129 w127 =>
Calls Try.prog 17 #[(SV.v (SV.mk (some b129) 3 3))] w127 (R17 fun r130 r131 r132 r133 w134 =>
M.new (.cells #[(Value.int .i64 (0 : Int)), (Value.int .i64 (0 : Int)), (SV.v SV.nil)] 35) w134 fun b136 w135 =>
M.stA b136 [(Value.int .i64 r130), (Value.int .i64 r131), (SV.v r132)] w135 fun w137 =>
M.new (.cells #[(Value.int .u8 (6 : Int))] 5) w137 fun b141 w139 =>
Calls Try.prog 17 #[(SV.v (SV.mk (some b141) 1 1))] w139 (R17 fun r142 r143 r144 r145 w146 =>
M.new (.cells #[(Value.int .i64 (0 : Int)), (Value.int .i64 (0 : Int)), (SV.v SV.nil)] 35) w146 fun b148 w147 =>
M.stA b148 [(Value.int .i64 r142), (Value.int .i64 r143), (SV.v r144)] w147 fun w149 =>
M.join (fun (x152 : Bool) (w175 : World) => 
K x152 w175) fun J151 => 
M.ite r133 (
M.ld (Value.int .i64) b136 w149 fun t154 =>
M.ld (Value.int .i64) (b136.add 1) w149 fun t156 =>
M.ld SV.v (b136.add 2) w149 fun t158 =>
M.new (.cells #[(Value.int .u8 (9 : Int))] 5) w149 fun b162 w160 =>
Calls Try.prog 15 #[(Value.agg #[(Value.int .i64 t154), (Value.int .i64 t156), (SV.v t158)]), (Value.agg #[(Value.int .i64 (6 : Int)), (Value.int .i64 (1 : Int)), (SV.v (SV.mk (some b162) 1 1))])] w160 (R15 fun r163 w164 =>
M.ite r163 (
M.ite (!r145) (
Calls Try.prog 18 #[(Value.agg #[(Value.int .i64 (257 : Int)), (Value.int .i64 (-1 : Int)), (SV.v SV.nil)])] w164 (R18 fun r167 w168 =>
M.b2s Try.prog 23 9 r167 w168 fun t169 =>
M.ite (t169.toList == str0.toList) (
Calls Try.prog 13 #[] w168 (R13 fun r172 w173 =>
J151 r172 w173)) (
J151 false w168))) (
J151 false w164)) (
J151 false w164))) (
J151 false w149))))) (0 : Int) w41))) (0 : Int) w1
theorem F6_ok {w0 : World}  {K : Bool → World → Prop} (h : F6 K w0) : Calls Try.prog 6 #[] w0 (R6 K) := by
  refine calls_of_WE (args := []) (rs := [.tmp 0]) Try.func6 rfl (N := 105) rfl rfl rfl rfl ?_
  refine WE.seq ?_
  refine WE.reg ?_
  refine LE.p (v := (Value.bool false)) (Wn.no rfl) rfl (R.assign rfl) ?_
  refine LE.nil ?_
  refine WE.seq ?_
  refine WE.seq ?_
  refine WE.reg ?_
  obtain ⟨b3, hpb3, w1, hww1, h⟩ := M.new_use h
  refine LE.r (v := (SV.v (SV.mk (some b3) 8 8))) (Wn.no rfl) rfl (R.bsl (by exact (Ls.cons (R.Pr rfl) (Ls.cons (R.Pr rfl) (Ls.cons (R.Pr rfl) (Ls.cons (R.Pr rfl) (Ls.cons (R.Pr rfl) (Ls.cons (R.Pr rfl) (Ls.cons (R.Pr rfl) (Ls.cons (R.Pr rfl) Ls.nil))))))))) (fun w => bs45_8 (-1 : Int) (0 : Int) (1 : Int) (2 : Int) (3 : Int) (4 : Int) (65535 : Int) (65536 : Int) w) hpb3 hww1) ?_
  refine LE.p (v := (Value.int .i64 ((SV.mk (some b3) 8 8).len : Int))) (Wn.no rfl) rfl (R.len sl45 rfl) ?_
  refine LE.p (v := (Value.int .i64 (0 : Int))) (Wn.no rfl) rfl (R.move rfl) ?_
  refine LE.nil ?_
  refine WE.block ?_
  obtain ⟨I9, ⟨n8, h⟩, hr10⟩ := h
  refine WE.loop (fun n e w => ∃ (x4 : Int), I9 n x4 w ∧ e 13 = (SV.v (SV.mk (some b3) 8 8)) ∧ e 14 = (Value.int .i64 ((SV.mk (some b3) 8 8).len : Int)) ∧ e 15 = (Value.int .i64 x4)) n8 ⟨_, h, rfl, rfl, rfl⟩ ?_
  clear h
  rintro n8 e7 w6 ⟨x4, h, f13, f14, f15⟩
  replace h := hr10 n8 x4 w6 h
  refine WE.seq ?_
  refine WE.reg ?_
  refine LE.p (v := (Value.bool (decide (x4 < ((SV.mk (some b3) 8 8).len : Int))))) (Wn.no rfl) rfl (R.lss f15 f14) ?_
  refine LE.nil ?_
  refine WE.seq ?_
  refine WE.condT rfl (b := (decide (x4 < ((SV.mk (some b3) 8 8).len : Int)))) rfl ?_ ?_
  · intro hb16
    replace h := M.ite_t h hb16
    refine WE.skip ?_
    refine WE.seq ?_
    refine WE.block ?_
    refine WE.seq ?_
    refine WE.reg ?_
    obtain ⟨a17, h18, h19, h20, h⟩ := h
    refine LE.p (v := (Value.pointer (some (a17.add (x4.toNat * 1))))) (Wn.no rfl) rfl (R.idx (s := (SV.mk (some b3) 8 8)) sl45 f13 f15 h18 h19 h20) ?_
    obtain ⟨t21, h22, h⟩ := h
    refine LE.r (v := (Value.int .i64 t21)) (Wn.no rfl) rfl (R.ld sc3 rfl h22) ?_
    refine LE.p (v := (Value.int .i64 t21)) (Wn.no rfl) rfl (R.assign rfl) ?_
    refine LE.nil ?_
    refine WE.seq ?_
    obtain ⟨J23, hJ23, h⟩ := M.join_use h
    refine WE.regJ (fun e w => ∃ (x24 : Bool), J23 x24 w ∧ e 13 = (SV.v (SV.mk (some b3) 8 8)) ∧ e 14 = (Value.int .i64 ((SV.mk (some b3) 8 8).len : Int)) ∧ e 15 = (Value.int .i64 x4) ∧ e 37 = (Value.bool x24)) ?_ ?_
    · clear hJ23
      refine LE.p (v := (Value.int .i64 t21)) (Wn.no rfl) rfl (R.move rfl) ?_
      refine LE.p (v := (Value.agg #[(Value.int .i64 t21), (Value.int .i64 (90 : Int)), (Value.int .u32 (1 : Int))])) (Wn.no rfl) rfl (R.bld (by exact (Ls.cons (R.Pr rfl) (Ls.cons (R.Pr rfl) (Ls.cons (R.Pr rfl) Ls.nil)))) (fun w => bu29_0_1_2 t21 (90 : Int) (1 : Int) w)) ?_
      refine LE.c (Wn.no rfl) rfl (R.call bd10 (Ls.cons rfl Ls.nil) rfl) (Calls.mono h ?_)
      rintro _ w26 ⟨r25, rfl, h⟩
      refine ⟨_, rfl, ?_⟩
      refine LE.p (v := (Value.bool (!r25))) (Wn.no rfl) rfl (R.not rfl) ?_
      refine LE.p (v := (Value.bool (!r25))) (Wn.no rfl) rfl (R.move rfl) ?_
      rcases M.ite_use h with ⟨hb27, h⟩ | ⟨hb27, h⟩
      · refine LE.u (Un.no 4 23 false rfl rfl rfl (congrArg Value.bool hb27)) ?_
        refine LE.u (Un.no 4 23 false rfl rfl rfl (congrArg Value.bool hb27)) ?_
        refine LE.u (Un.no 4 23 false rfl rfl rfl (congrArg Value.bool hb27)) ?_
        refine LE.u (Un.no 4 23 false rfl rfl rfl (congrArg Value.bool hb27)) ?_
        refine LE.p (v := (Value.bool true)) (Wn.no rfl) rfl (R.pickT (congrArg Value.bool hb27) rfl) ?_
        refine LE.p (v := (Value.bool true)) (Wn.no rfl) rfl (R.move rfl) ?_
        refine LE.u (Un.no 10 29 false rfl rfl rfl rfl) ?_
        refine LE.u (Un.no 10 29 false rfl rfl rfl rfl) ?_
        refine LE.u (Un.no 10 29 false rfl rfl rfl rfl) ?_
        refine LE.u (Un.no 10 29 false rfl rfl rfl rfl) ?_
        refine LE.u (Un.no 10 29 false rfl rfl rfl rfl) ?_
        refine LE.u (Un.no 10 29 false rfl rfl rfl rfl) ?_
        refine LE.u (Un.no 10 29 false rfl rfl rfl rfl) ?_
        refine LE.p (v := (Value.bool true)) (Wn.no rfl) rfl (R.pickT rfl rfl) ?_
        refine LE.nil ?_
        exact ⟨_, h, f13, f14, f15, rfl⟩
      · refine LE.p (v := (Value.int .i64 t21)) (Wn.yes 4 23 false rfl rfl rfl (congrArg Value.bool hb27)) rfl (R.move rfl) ?_
        refine LE.p (v := (Value.agg #[(Value.int .i64 (1 : Int)), (Value.int .i64 t21), (Value.int .u32 (1 : Int))])) (Wn.yes 4 23 false rfl rfl rfl (congrArg Value.bool hb27)) rfl (R.bld (by exact (Ls.cons (R.Pr rfl) (Ls.cons (R.Pr rfl) (Ls.cons (R.Pr rfl) Ls.nil)))) (fun w => bu29_0_1_2 (1 : Int) t21 (1 : Int) w)) ?_
        refine LE.c (Wn.yes 4 23 false rfl rfl rfl (congrArg Value.bool hb27)) rfl (R.call bd10 (Ls.cons rfl Ls.nil) rfl) (Calls.mono h ?_)
        rintro _ w29 ⟨r28, rfl, h⟩
        refine ⟨_, rfl, ?_⟩
        refine LE.p (v := (Value.bool (!r28))) (Wn.yes 4 23 false rfl rfl rfl (congrArg Value.bool hb27)) rfl (R.not rfl) ?_
        refine LE.p (v := (Value.bool (!r28))) (Wn.no rfl) rfl (R.pickF (congrArg Value.bool hb27) rfl) ?_
        refine LE.p (v := (Value.bool (!r28))) (Wn.no rfl) rfl (R.move rfl) ?_
        rcases M.ite_use h with ⟨hb30, h⟩ | ⟨hb30, h⟩
        · refine LE.u (Un.no 10 29 false rfl rfl rfl (congrArg Value.bool hb30)) ?_
          refine LE.u (Un.no 10 29 false rfl rfl rfl (congrArg Value.bool hb30)) ?_
          refine LE.u (Un.no 10 29 false rfl rfl rfl (congrArg Value.bool hb30)) ?_
          refine LE.u (Un.no 10 29 false rfl rfl rfl (congrArg Value.bool hb30)) ?_
          refine LE.u (Un.no 10 29 false rfl rfl rfl (congrArg Value.bool hb30)) ?_
          refine LE.u (Un.no 10 29 false rfl rfl rfl (congrArg Value.bool hb30)) ?_
          refine LE.u (Un.no 10 29 false rfl rfl rfl (congrArg Value.bool hb30)) ?_
          refine LE.p (v := (Value.bool true)) (Wn.no rfl) rfl (R.pickT (congrArg Value.bool hb30) rfl) ?_
          refine LE.nil ?_
          exact ⟨_, h, f13, f14, f15, rfl⟩
        · refine LE.p (v := (Value.int .i64 t21)) (Wn.yes 10 29 false rfl rfl rfl (congrArg Value.bool hb30)) rfl (R.move rfl) ?_
          refine LE.p (v := (Value.int .i64 t21)) (Wn.yes 10 29 false rfl rfl rfl (congrArg Value.bool hb30)) rfl (R.move rfl) ?_
          refine LE.p (v := (Value.int .i64 t21)) (Wn.yes 10 29 false rfl rfl rfl (congrArg Value.bool hb30)) rfl (R.move rfl) ?_
          refine LE.p (v := (Value.int .u32 (IntKind.u32.wrap t21))) (Wn.yes 10 29 false rfl rfl rfl (congrArg Value.bool hb30)) rfl (R.conv in22 in3 rfl) ?_
          refine LE.p (v := (Value.agg #[(Value.int .i64 t21), (Value.int .i64 t21), (Value.int .u32 (IntKind.u32.wrap t21))])) (Wn.yes 10 29 false rfl rfl rfl (congrArg Value.bool hb30)) rfl (R.bld (by exact (Ls.cons (R.Pr rfl) (Ls.cons (R.Pr rfl) (Ls.cons (R.Pr rfl) Ls.nil)))) (fun w => bu29_0_1_2 t21 t21 (IntKind.u32.wrap t21) w)) ?_
          refine LE.c (Wn.yes 10 29 false rfl rfl rfl (congrArg Value.bool hb30)) rfl (R.call bd10 (Ls.cons rfl Ls.nil) rfl) (Calls.mono h ?_)
          rintro _ w32 ⟨r31, rfl, h⟩
          refine ⟨_, rfl, ?_⟩
          refine LE.p (v := (Value.bool (!r31))) (Wn.yes 10 29 false rfl rfl rfl (congrArg Value.bool hb30)) rfl (R.not rfl) ?_
          refine LE.p (v := (Value.bool (!r31))) (Wn.no rfl) rfl (R.pickF (congrArg Value.bool hb30) rfl) ?_
          refine LE.nil ?_
          exact ⟨_, h, f13, f14, f15, rfl⟩
    · rintro e33 w34 ⟨x24, h, f35, f36, f37, f38⟩
      subst hJ23
      refine WE.condT rfl (b := x24) f38 ?_ ?_
      · intro hb39
        replace h := M.ite_t h hb39
        refine WE.seq ?_
        refine WE.reg ?_
        refine LE.p (v := (Value.bool false)) (Wn.no rfl) rfl (R.assign rfl) ?_
        refine LE.nil ?_
        refine WE.ret ?_
        exact ⟨_, (Res.tmp rfl Res.nil), _, rfl, h⟩
      · intro hb39
        replace h := M.ite_f h hb39
        refine WE.skip ?_
        refine WE.reg ?_
        refine LE.p (v := (Value.int .i64 (IntKind.i64.wrap (x4 + (1 : Int))))) (Wn.no rfl) rfl (R.add f37 rfl) ?_
        refine LE.p (v := (Value.int .i64 (IntKind.i64.wrap (x4 + (1 : Int))))) (Wn.no rfl) rfl (R.move rfl) ?_
        refine LE.nil ?_
        obtain ⟨m11, hm12, h⟩ := h
        exact ⟨m11, hm12, _, h, f35, f36, rfl⟩
  · intro hb16
    replace h := M.ite_f h hb16
    refine WE.exit ?_
    refine WE.seq ?_
    refine WE.reg ?_
    refine LE.p (v := (Value.agg #[(Value.int .i64 (1 : Int)), (Value.int .i64 (3 : Int)), (Value.int .u32 (1 : Int))])) (Wn.no rfl) rfl (R.bld (by exact (Ls.cons (R.Pr rfl) (Ls.cons (R.Pr rfl) (Ls.cons (R.Pr rfl) Ls.nil)))) (fun w => bu26_0_1_2 (1 : Int) (3 : Int) (1 : Int) w)) ?_
    refine LE.c (Wn.no rfl) rfl (R.call bd9 (Ls.cons rfl Ls.nil) rfl) (Calls.mono h ?_)
    rintro _ w41 ⟨r40, rfl, h⟩
    refine ⟨_, rfl, ?_⟩
    refine LE.p (v := (SV.v r40)) (Wn.no rfl) rfl (R.assign rfl) ?_
    refine LE.nil ?_
    refine WE.seq ?_
    refine WE.seq ?_
    refine WE.reg ?_
    refine LE.p (v := (Value.int .i64 (0 : Int))) (Wn.no rfl) rfl (R.assign rfl) ?_
    refine LE.nil ?_
    refine WE.block ?_
    obtain ⟨I47, ⟨n46, h⟩, hr48⟩ := h
    refine WE.loop (fun n e w => ∃ (x42 : Int), I47 n x42 w ∧ e 3 = (SV.v r40) ∧ e 4 = (Value.int .i64 x42)) n46 ⟨_, h, rfl, rfl⟩ ?_
    clear h
    rintro n46 e45 w44 ⟨x42, h, f51, f52⟩
    replace h := hr48 n46 x42 w44 h
    refine WE.seq ?_
    refine WE.seq ?_
    refine WE.reg ?_
    refine LE.p (v := (Value.int .i64 x42)) (Wn.no rfl) rfl (R.move f52) ?_
    refine LE.p (v := (Value.bool (decide (x42 < (10 : Int))))) (Wn.no rfl) rfl (R.lss rfl rfl) ?_
    refine LE.nil ?_
    refine WE.condT rfl (b := (decide (x42 < (10 : Int)))) rfl ?_ ?_
    · intro hb53
      replace h := M.ite_t h hb53
      refine WE.skip ?_
      refine WE.seq ?_
      refine WE.block ?_
      refine WE.seq ?_
      refine WE.seq ?_
      refine WE.reg ?_
      obtain ⟨b56, hpb56, w54, hww54, h⟩ := M.new_use h
      refine LE.r (v := (SV.v (SV.mk (some b56) 7 7))) (Wn.no rfl) rfl (R.bsl (by exact (Ls.cons (R.Pr rfl) (Ls.cons (R.Pr rfl) (Ls.cons (R.Pr rfl) (Ls.cons (R.Pr rfl) (Ls.cons (R.Pr rfl) (Ls.cons (R.Pr rfl) (Ls.cons (R.Pr rfl) Ls.nil)))))))) (fun w => bs23_7 (0 : Int) (1 : Int) (2 : Int) (3 : Int) (4 : Int) (5 : Int) (255 : Int) w) hpb56 hww54) ?_
      refine LE.p (v := (Value.int .i64 ((SV.mk (some b56) 7 7).len : Int))) (Wn.no rfl) rfl (R.len sl23 rfl) ?_
      refine LE.p (v := (Value.int .i64 (0 : Int))) (Wn.no rfl) rfl (R.move rfl) ?_
      refine LE.nil ?_
      refine WE.block ?_
      obtain ⟨I62, ⟨n61, h⟩, hr63⟩ := h
      refine WE.loop (fun n e w => ∃ (x57 : Int), I62 n x57 w ∧ e 3 = (SV.v r40) ∧ e 4 = (Value.int .i64 x42) ∧ e 45 = (SV.v (SV.mk (some b56) 7 7)) ∧ e 46 = (Value.int .i64 ((SV.mk (some b56) 7 7).len : Int)) ∧ e 47 = (Value.int .i64 x57)) n61 ⟨_, h, f51, f52, rfl, rfl, rfl⟩ ?_
      clear h
      rintro n61 e60 w59 ⟨x57, h, f66, f67, f68, f69, f70⟩
      replace h := hr63 n61 x57 w59 h
      refine WE.seq ?_
      refine WE.reg ?_
      refine LE.p (v := (Value.bool (decide (x57 < ((SV.mk (some b56) 7 7).len : Int))))) (Wn.no rfl) rfl (R.lss f70 f69) ?_
      refine LE.nil ?_
      refine WE.seq ?_
      refine WE.condT rfl (b := (decide (x57 < ((SV.mk (some b56) 7 7).len : Int)))) rfl ?_ ?_
      · intro hb71
        replace h := M.ite_t h hb71
        refine WE.skip ?_
        refine WE.seq ?_
        refine WE.block ?_
        refine WE.seq ?_
        refine WE.reg ?_
        obtain ⟨a72, h73, h74, h75, h⟩ := h
        refine LE.p (v := (Value.pointer (some (a72.add (x57.toNat * 1))))) (Wn.no rfl) rfl (R.idx (s := (SV.mk (some b56) 7 7)) sl23 f68 f70 h73 h74 h75) ?_
        obtain ⟨t76, h77, h⟩ := h
        refine LE.r (v := (Value.int .u8 t76)) (Wn.no rfl) rfl (R.ld sc5 rfl h77) ?_
        refine LE.p (v := (Value.int .u8 t76)) (Wn.no rfl) rfl (R.assign rfl) ?_
        refine LE.nil ?_
        refine WE.seq ?_
        refine WE.reg ?_
        obtain ⟨b80, hpb80, w78, hww78, h⟩ := M.new_use h
        refine LE.r (v := (SV.v (SV.mk (some b80) 0 0))) (Wn.no rfl) rfl (R.bsl (by exact Ls.nil) (fun w => bs23_0  w) hpb80 hww78) ?_
        refine LE.p (v := (SV.v r40)) (Wn.no rfl) rfl (R.move f66) ?_
        obtain ⟨s81, w82, h83, h⟩ := h
        refine LE.r (v := (SV.v s81)) (Wn.no rfl) rfl (R.app (s := (SV.mk (some b80) 0 0)) (r := s81) rfl rfl h83) ?_
        refine LE.p (v := (SV.v s81)) (Wn.no rfl) rfl (R.assign rfl) ?_
        refine LE.nil ?_
        refine WE.seq ?_
        refine WE.reg ?_
        refine LE.p (v := (SV.v s81)) (Wn.no rfl) rfl (R.move rfl) ?_
        refine LE.p (v := (Value.int .i64 x42)) (Wn.no rfl) rfl (R.move f67) ?_
        refine LE.p (v := (Value.int .u8 t76)) (Wn.no rfl) rfl (R.move rfl) ?_
        obtain ⟨a84, h85, h86, h87, h⟩ := h
        refine LE.p (v := (Value.pointer (some (a84.add (x42.toNat * 1))))) (Wn.no rfl) rfl (R.idx (s := s81) sl23 rfl rfl h85 h86 h87) ?_
        obtain ⟨w88, hww88, h89, h90, h⟩ := M.st_use h
        refine LE.s (Wn.no rfl) rfl (R.st (a := (a84.add (x42.toNat * 1))) (v := (Value.int .u8 t76)) sz5 rfl rfl rfl rfl h89 h90 hww88) ?_
        refine LE.nil ?_
        refine WE.seq ?_
        refine WE.reg ?_
        refine LE.p (v := (Value.int .i64 (0 : Int))) (Wn.no rfl) rfl (R.assign rfl) ?_
        refine LE.nil ?_
        refine WE.block ?_
        obtain ⟨I96, ⟨n95, h⟩, hr97⟩ := h
        refine WE.loop (fun n e w => ∃ (x91 : Int), I96 n x91 w ∧ e 3 = (SV.v r40) ∧ e 4 = (Value.int .i64 x42) ∧ e 7 = (SV.v s81) ∧ e 8 = (Value.int .i64 x91) ∧ e 45 = (SV.v (SV.mk (some b56) 7 7)) ∧ e 46 = (Value.int .i64 ((SV.mk (some b56) 7 7).len : Int)) ∧ e 47 = (Value.int .i64 x57)) n95 ⟨_, h, f66, f67, rfl, rfl, f68, f69, f70⟩ ?_
        clear h
        rintro n95 e94 w93 ⟨x91, h, f100, f101, f102, f103, f104, f105, f106⟩
        replace h := hr97 n95 x91 w93 h
        refine WE.seq ?_
        refine WE.seq ?_
        refine WE.reg ?_
        refine LE.p (v := (Value.int .i64 x91)) (Wn.no rfl) rfl (R.move f103) ?_
        refine LE.p (v := (Value.bool (decide (x91 < (14 : Int))))) (Wn.no rfl) rfl (R.lss rfl rfl) ?_
        refine LE.nil ?_
        refine WE.condT rfl (b := (decide (x91 < (14 : Int)))) rfl ?_ ?_
        · intro hb107
          replace h := M.ite_t h hb107
          refine WE.skip ?_
          refine WE.seq ?_
          refine WE.block ?_
          refine WE.seq ?_
          refine WE.reg ?_
          obtain ⟨b110, hpb110, w108, hww108, h⟩ := M.new_use h
          refine LE.r (v := (SV.v (SV.mk (some b110) 0 0))) (Wn.no rfl) rfl (R.bsl (by exact Ls.nil) (fun w => bs23_0  w) hpb110 hww108) ?_
          refine LE.p (v := (SV.v s81)) (Wn.no rfl) rfl (R.move f102) ?_
          obtain ⟨s111, w112, h113, h⟩ := h
          refine LE.r (v := (SV.v s111)) (Wn.no rfl) rfl (R.app (s := (SV.mk (some b110) 0 0)) (r := s111) rfl rfl h113) ?_
          refine LE.p (v := (Value.int .i64 x91)) (Wn.no rfl) rfl (R.move f103) ?_
          obtain ⟨s114, w115, h116, h⟩ := h
          refine LE.r (v := (SV.v s114)) (Wn.no rfl) rfl (R.app (s := s111) (r := s114) rfl rfl h116) ?_
          refine LE.c (Wn.no rfl) rfl (R.call bd11 (Ls.cons rfl Ls.nil) rfl) (Calls.mono h ?_)
          rintro _ w118 ⟨r117, rfl, h⟩
          refine ⟨_, rfl, ?_⟩
          refine LE.p (v := (Value.bool (!r117))) (Wn.no rfl) rfl (R.not rfl) ?_
          refine LE.nil ?_
          refine WE.condT rfl (b := (!r117)) rfl ?_ ?_
          · intro hb119
            replace h := M.ite_t h hb119
            refine WE.seq ?_
            refine WE.reg ?_
            refine LE.p (v := (Value.bool false)) (Wn.no rfl) rfl (R.assign rfl) ?_
            refine LE.nil ?_
            refine WE.ret ?_
            exact ⟨_, (Res.tmp rfl Res.nil), _, rfl, h⟩
          · intro hb119
            replace h := M.ite_f h hb119
            refine WE.skip ?_
            refine WE.reg ?_
            refine LE.p (v := (Value.int .i64 x91)) (Wn.no rfl) rfl (R.move f103) ?_
            refine LE.p (v := (Value.int .i64 (IntKind.i64.wrap (x91 + (1 : Int))))) (Wn.no rfl) rfl (R.add rfl rfl) ?_
            refine LE.p (v := (Value.int .i64 (IntKind.i64.wrap (x91 + (1 : Int))))) (Wn.no rfl) rfl (R.assign rfl) ?_
            refine LE.nil ?_
            obtain ⟨m98, hm99, h⟩ := h
            exact ⟨m98, hm99, _, h, f100, f101, f102, rfl, f104, f105, f106⟩
        · intro hb107
          replace h := M.ite_f h hb107
          refine WE.exit ?_
          refine WE.reg ?_
          refine LE.p (v := (Value.int .i64 (IntKind.i64.wrap (x57 + (1 : Int))))) (Wn.no rfl) rfl (R.add f106 rfl) ?_
          refine LE.p (v := (Value.int .i64 (IntKind.i64.wrap (x57 + (1 : Int))))) (Wn.no rfl) rfl (R.move rfl) ?_
          refine LE.nil ?_
          obtain ⟨m64, hm65, h⟩ := h
          exact ⟨m64, hm65, _, h, f100, f101, f104, f105, rfl⟩
      · intro hb71
        replace h := M.ite_f h hb71
        refine WE.exit ?_
        refine WE.seq ?_
        refine WE.reg ?_
        refine LE.p (v := (SV.v r40)) (Wn.no rfl) rfl (R.move f66) ?_
        refine LE.p (v := (Value.int .i64 x42)) (Wn.no rfl) rfl (R.move f67) ?_
        obtain ⟨h120, h121, h122, h⟩ := h
        refine LE.p (v := (SV.v (SV.sub r40 (Int.toNat (0 : Int)) (Int.toNat x42) 1))) (Wn.no rfl) rfl (R.slc (s := r40) (lo := (0 : Int)) (hi := x42) _ _ sl23 rfl rfl rfl h120 h121 h122) ?_
        refine LE.c (Wn.no rfl) rfl (R.call bd11 (Ls.cons rfl Ls.nil) rfl) (Calls.mono h ?_)
        rintro _ w125 ⟨r124, rfl, h⟩
        refine ⟨_, rfl, ?_⟩
        refine LE.p (v := (Value.bool (!r124))) (Wn.no rfl) rfl (R.not rfl) ?_
        refine LE.nil ?_
        refine WE.condT rfl (b := (!r124)) rfl ?_ ?_
        · intro hb126
          replace h := M.ite_t h hb126
          refine WE.seq ?_
          refine WE.reg ?_
          refine LE.p (v := (Value.bool false)) (Wn.no rfl) rfl (R.assign rfl) ?_
          refine LE.nil ?_
          refine WE.ret ?_
          exact ⟨_, (Res.tmp rfl Res.nil), _, rfl, h⟩
        · intro hb126
          replace h := M.ite_f h hb126
          refine WE.skip ?_
          refine WE.reg ?_
          refine LE.p (v := (Value.int .i64 x42)) (Wn.no rfl) rfl (R.move f67) ?_
          refine LE.p (v := (Value.int .i64 (IntKind.i64.wrap (x42 + (1 : Int))))) (Wn.no rfl) rfl (R.add rfl rfl) ?_
          refine LE.p (v := (Value.int .i64 (IntKind.i64.wrap (x42 + (1 : Int))))) (Wn.no rfl) rfl (R.assign rfl) ?_
          refine LE.nil ?_
          obtain ⟨m49, hm50, h⟩ := h
          exact ⟨m49, hm50, _, h, f66, rfl⟩
    · intro hb53
      replace h := M.ite_f h hb53
      refine WE.exit ?_
      refine WE.seq ?_
      refine WE.reg ?_
      obtain ⟨b129, hpb129, w127, hww127, h⟩ := M.new_use h
      refine LE.r (v := (SV.v (SV.mk (some b129) 3 3))) (Wn.no rfl) rfl (R.bsl (by exact (Ls.cons (R.Pr rfl) (Ls.cons (R.Pr rfl) (Ls.cons (R.Pr rfl) Ls.nil)))) (fun w => bs23_3 (6 : Int) (1 : Int) (9 : Int) w) hpb129 hww127) ?_
      refine LE.c (Wn.no rfl) rfl (R.call bd17 (Ls.cons rfl Ls.nil) rfl) (Calls.mono h ?_)
      rintro _ w134 ⟨r130, r131, r132, r133, rfl, h⟩
      refine ⟨_, rfl, ?_⟩
      refine LE.p (v := (Value.tuple #[(Value.agg #[(Value.int .i64 r130), (Value.int .i64 r131), (SV.v r132)]), (Value.bool r133)])) (Wn.no rfl) rfl (R.move rfl) ?_
      refine LE.p (v := (Value.agg #[(Value.int .i64 r130), (Value.int .i64 r131), (SV.v r132)])) (Wn.no rfl) rfl (R.ext rfl rfl) ?_
      refine LE.p (v := (Value.bool r133)) (Wn.no rfl) rfl (R.ext rfl rfl) ?_
      obtain ⟨b136, hpb136, w135, hww135, h⟩ := M.new_use h
      refine LE.r (v := (Value.pointer (some b136))) (Wn.no rfl) rfl (R.alloc (cs := #[(Value.int .i64 (0 : Int)), (Value.int .i64 (0 : Int)), (SV.v SV.nil)]) ze35 rfl hpb136 hww135) ?_
      obtain ⟨w137, hww137, h138, h⟩ := M.stA_use h
      refine LE.s (Wn.no rfl) rfl (R.stA (a := b136) [(Value.int .i64 r130), (Value.int .i64 r131), (SV.v r132)] sz35 rfl rfl rfl (by simp [Value.oneCell']) h138 hww137) ?_
      refine LE.p (v := (Value.bool r133)) (Wn.no rfl) rfl (R.assign rfl) ?_
      refine LE.nil ?_
      refine WE.seq ?_
      refine WE.reg ?_
      obtain ⟨b141, hpb141, w139, hww139, h⟩ := M.new_use h
      refine LE.r (v := (SV.v (SV.mk (some b141) 1 1))) (Wn.no rfl) rfl (R.bsl (by exact (Ls.cons (R.Pr rfl) Ls.nil)) (fun w => bs23_1 (6 : Int) w) hpb141 hww139) ?_
      refine LE.c (Wn.no rfl) rfl (R.call bd17 (Ls.cons rfl Ls.nil) rfl) (Calls.mono h ?_)
      rintro _ w146 ⟨r142, r143, r144, r145, rfl, h⟩
      refine ⟨_, rfl, ?_⟩
      refine LE.p (v := (Value.tuple #[(Value.agg #[(Value.int .i64 r142), (Value.int .i64 r143), (SV.v r144)]), (Value.bool r145)])) (Wn.no rfl) rfl (R.move rfl) ?_
      refine LE.p (v := (Value.agg #[(Value.int .i64 r142), (Value.int .i64 r143), (SV.v r144)])) (Wn.no rfl) rfl (R.ext rfl rfl) ?_
      refine LE.p (v := (Value.bool r145)) (Wn.no rfl) rfl (R.ext rfl rfl) ?_
      obtain ⟨b148, hpb148, w147, hww147, h⟩ := M.new_use h
      refine LE.r (v := (Value.pointer (some b148))) (Wn.no rfl) rfl (R.alloc (cs := #[(Value.int .i64 (0 : Int)), (Value.int .i64 (0 : Int)), (SV.v SV.nil)]) ze35 rfl hpb148 hww147) ?_
      obtain ⟨w149, hww149, h150, h⟩ := M.stA_use h
      refine LE.s (Wn.no rfl) rfl (R.stA (a := b148) [(Value.int .i64 r142), (Value.int .i64 r143), (SV.v r144)] sz35 rfl rfl rfl (by simp [Value.oneCell']) h150 hww149) ?_
      refine LE.p (v := (Value.bool r145)) (Wn.no rfl) rfl (R.assign rfl) ?_
      refine LE.nil ?_
      refine WE.seq ?_
      obtain ⟨J151, hJ151, h⟩ := M.join_use h
      refine WE.regJ (fun e w => ∃ (x152 : Bool), J151 x152 w ∧ e 0 = (Value.bool x152)) ?_ ?_
      · clear hJ151
        refine LE.p (v := (Value.bool r133)) (Wn.no rfl) rfl (R.move rfl) ?_
        refine LE.p (v := (Value.bool r133)) (Wn.no rfl) rfl (R.move rfl) ?_
        rcases M.ite_use h with ⟨hb153, h⟩ | ⟨hb153, h⟩
        · obtain ⟨t154, h155, h⟩ := h
          obtain ⟨t156, h157, h⟩ := h
          obtain ⟨t158, h159, h⟩ := h
          refine LE.r (v := (Value.agg #[(Value.int .i64 t154), (Value.int .i64 t156), (SV.v t158)])) (Wn.yes 1 86 true rfl rfl rfl (congrArg Value.bool hb153)) rfl (R.ldA ag35 sz35 rfl rfl (Cs.cons h155 (Cs.cons h157 (Cs.cons h159 Cs.nil)))) ?_
          obtain ⟨b162, hpb162, w160, hww160, h⟩ := M.new_use h
          refine LE.r (v := (SV.v (SV.mk (some b162) 1 1))) (Wn.yes 1 86 true rfl rfl rfl (congrArg Value.bool hb153)) rfl (R.bsl (by exact (Ls.cons (R.Pr rfl) Ls.nil)) (fun w => bs23_1 (9 : Int) w) hpb162 hww160) ?_
          refine LE.p (v := (Value.agg #[(Value.int .i64 (6 : Int)), (Value.int .i64 (1 : Int)), (SV.v (SV.mk (some b162) 1 1))])) (Wn.yes 1 86 true rfl rfl rfl (congrArg Value.bool hb153)) rfl (R.bld (by exact (Ls.cons (R.Pr rfl) (Ls.cons (R.Pr rfl) (Ls.cons (R.Pr rfl) Ls.nil)))) (fun w => bu35_0_1_2 (6 : Int) (1 : Int) (SV.mk (some b162) 1 1) w)) ?_
          refine LE.c (Wn.yes 1 86 true rfl rfl rfl (congrArg Value.bool hb153)) rfl (R.call bd15 (Ls.cons rfl (Ls.cons rfl Ls.nil)) rfl) (Calls.mono h ?_)
          rintro _ w164 ⟨r163, rfl, h⟩
          refine ⟨_, rfl, ?_⟩
          refine LE.p (v := (Value.bool r163)) (Wn.no rfl) rfl (R.pickT (congrArg Value.bool hb153) rfl) ?_
          refine LE.p (v := (Value.bool r163)) (Wn.no rfl) rfl (R.move rfl) ?_
          rcases M.ite_use h with ⟨hb165, h⟩ | ⟨hb165, h⟩
          · refine LE.p (v := (Value.bool r145)) (Wn.yes 7 92 true rfl rfl rfl (congrArg Value.bool hb165)) rfl (R.move rfl) ?_
            refine LE.p (v := (Value.bool (!r145))) (Wn.yes 7 92 true rfl rfl rfl (congrArg Value.bool hb165)) rfl (R.not rfl) ?_
            refine LE.p (v := (Value.bool (!r145))) (Wn.no rfl) rfl (R.pickT (congrArg Value.bool hb165) rfl) ?_
            refine LE.p (v := (Value.bool (!r145))) (Wn.no rfl) rfl (R.move rfl) ?_
            rcases M.ite_use h with ⟨hb166, h⟩ | ⟨hb166, h⟩
            · refine LE.p (v := (Value.agg #[(Value.int .i64 (257 : Int)), (Value.int .i64 (-1 : Int)), (SV.v SV.nil)])) (Wn.yes 11 96 true rfl rfl rfl (congrArg Value.bool hb166)) rfl (R.bld (by exact (Ls.cons (R.Pr rfl) (Ls.cons (R.Pr rfl) Ls.nil))) (fun w => bu35_0_1 (257 : Int) (-1 : Int) w)) ?_
              refine LE.c (Wn.yes 11 96 true rfl rfl rfl (congrArg Value.bool hb166)) rfl (R.call bd18 (Ls.cons rfl Ls.nil) rfl) (Calls.mono h ?_)
              rintro _ w168 ⟨r167, rfl, h⟩
              refine ⟨_, rfl, ?_⟩
              obtain ⟨t169, h170, h⟩ := h
              refine LE.r (v := (Value.string t169)) (Wn.yes 11 96 true rfl rfl rfl (congrArg Value.bool hb166)) rfl (R.b2s (s := r167) h170 rfl) ?_
              refine LE.p (v := (Value.bool (t169.toList == str0.toList))) (Wn.yes 11 96 true rfl rfl rfl (congrArg Value.bool hb166)) rfl (R.seql rfl rfl) ?_
              refine LE.p (v := (Value.bool (t169.toList == str0.toList))) (Wn.no rfl) rfl (R.pickT (congrArg Value.bool hb166) rfl) ?_
              refine LE.p (v := (Value.bool (t169.toList == str0.toList))) (Wn.no rfl) rfl (R.move rfl) ?_
              rcases M.ite_use h with ⟨hb171, h⟩ | ⟨hb171, h⟩
              · refine LE.c (Wn.yes 17 102 true rfl rfl rfl (congrArg Value.bool hb171)) rfl (R.call bd13 Ls.nil rfl) (Calls.mono h ?_)
                rintro _ w173 ⟨r172, rfl, h⟩
                refine ⟨_, rfl, ?_⟩
                refine LE.p (v := (Value.bool r172)) (Wn.no rfl) rfl (R.pickT (congrArg Value.bool hb171) rfl) ?_
                refine LE.p (v := (Value.bool r172)) (Wn.no rfl) rfl (R.assign rfl) ?_
                refine LE.nil ?_
                exact ⟨_, h, rfl⟩
              · refine LE.u (Un.no 17 102 true rfl rfl rfl (congrArg Value.bool hb171)) ?_
                refine LE.p (v := (Value.bool false)) (Wn.no rfl) rfl (R.pickF (congrArg Value.bool hb171) rfl) ?_
                refine LE.p (v := (Value.bool false)) (Wn.no rfl) rfl (R.assign rfl) ?_
                refine LE.nil ?_
                exact ⟨_, h, rfl⟩
            · refine LE.u (Un.no 11 96 true rfl rfl rfl (congrArg Value.bool hb166)) ?_
              refine LE.u (Un.no 11 96 true rfl rfl rfl (congrArg Value.bool hb166)) ?_
              refine LE.u (Un.no 11 96 true rfl rfl rfl (congrArg Value.bool hb166)) ?_
              refine LE.u (Un.no 11 96 true rfl rfl rfl (congrArg Value.bool hb166)) ?_
              refine LE.p (v := (Value.bool false)) (Wn.no rfl) rfl (R.pickF (congrArg Value.bool hb166) rfl) ?_
              refine LE.p (v := (Value.bool false)) (Wn.no rfl) rfl (R.move rfl) ?_
              refine LE.u (Un.no 17 102 true rfl rfl rfl rfl) ?_
              refine LE.p (v := (Value.bool false)) (Wn.no rfl) rfl (R.pickF rfl rfl) ?_
              refine LE.p (v := (Value.bool false)) (Wn.no rfl) rfl (R.assign rfl) ?_
              refine LE.nil ?_
              exact ⟨_, h, rfl⟩
          · refine LE.u (Un.no 7 92 true rfl rfl rfl (congrArg Value.bool hb165)) ?_
            refine LE.u (Un.no 7 92 true rfl rfl rfl (congrArg Value.bool hb165)) ?_
            refine LE.p (v := (Value.bool false)) (Wn.no rfl) rfl (R.pickF (congrArg Value.bool hb165) rfl) ?_
            refine LE.p (v := (Value.bool false)) (Wn.no rfl) rfl (R.move rfl) ?_
            refine LE.u (Un.no 11 96 true rfl rfl rfl rfl) ?_
            refine LE.u (Un.no 11 96 true rfl rfl rfl rfl) ?_
            refine LE.u (Un.no 11 96 true rfl rfl rfl rfl) ?_
            refine LE.u (Un.no 11 96 true rfl rfl rfl rfl) ?_
            refine LE.p (v := (Value.bool false)) (Wn.no rfl) rfl (R.pickF rfl rfl) ?_
            refine LE.p (v := (Value.bool false)) (Wn.no rfl) rfl (R.move rfl) ?_
            refine LE.u (Un.no 17 102 true rfl rfl rfl rfl) ?_
            refine LE.p (v := (Value.bool false)) (Wn.no rfl) rfl (R.pickF rfl rfl) ?_
            refine LE.p (v := (Value.bool false)) (Wn.no rfl) rfl (R.assign rfl) ?_
            refine LE.nil ?_
            exact ⟨_, h, rfl⟩
        · refine LE.u (Un.no 1 86 true rfl rfl rfl (congrArg Value.bool hb153)) ?_
          refine LE.u (Un.no 1 86 true rfl rfl rfl (congrArg Value.bool hb153)) ?_
          refine LE.u (Un.no 1 86 true rfl rfl rfl (congrArg Value.bool hb153)) ?_
          refine LE.u (Un.no 1 86 true rfl rfl rfl (congrArg Value.bool hb153)) ?_
          refine LE.p (v := (Value.bool false)) (Wn.no rfl) rfl (R.pickF (congrArg Value.bool hb153) rfl) ?_
          refine LE.p (v := (Value.bool false)) (Wn.no rfl) rfl (R.move rfl) ?_
          refine LE.u (Un.no 7 92 true rfl rfl rfl rfl) ?_
          refine LE.u (Un.no 7 92 true rfl rfl rfl rfl) ?_
          refine LE.p (v := (Value.bool false)) (Wn.no rfl) rfl (R.pickF rfl rfl) ?_
          refine LE.p (v := (Value.bool false)) (Wn.no rfl) rfl (R.move rfl) ?_
          refine LE.u (Un.no 11 96 true rfl rfl rfl rfl) ?_
          refine LE.u (Un.no 11 96 true rfl rfl rfl rfl) ?_
          refine LE.u (Un.no 11 96 true rfl rfl rfl rfl) ?_
          refine LE.u (Un.no 11 96 true rfl rfl rfl rfl) ?_
          refine LE.p (v := (Value.bool false)) (Wn.no rfl) rfl (R.pickF rfl rfl) ?_
          refine LE.p (v := (Value.bool false)) (Wn.no rfl) rfl (R.move rfl) ?_
          refine LE.u (Un.no 17 102 true rfl rfl rfl rfl) ?_
          refine LE.p (v := (Value.bool false)) (Wn.no rfl) rfl (R.pickF rfl rfl) ?_
          refine LE.p (v := (Value.bool false)) (Wn.no rfl) rfl (R.assign rfl) ?_
          refine LE.nil ?_
          exact ⟨_, h, rfl⟩
      · rintro e174 w175 ⟨x152, h, f176⟩
        subst hJ151
        refine WE.ret ?_
        exact ⟨_, (Res.tmp f176 Res.nil), _, rfl, h⟩
/-- The formula of signpost.signpostlaw10.OpenBack. -/
def F7 (p0 : Int) (p1 : Int) (p2 : Int) (p3 : Int) (p4 : Int) (p5 : SV) (p6 : Int) (K : Bool → World → Prop) (w0 : World) : Prop :=
Calls Try.prog 8 #[(Value.int .i64 p0), (Value.int .i64 (0 : Int)), (Value.int .i64 (65534 : Int))] w0 (R8 fun r1 w2 =>
Calls Try.prog 8 #[(Value.int .i64 p1), (Value.int .i64 (0 : Int)), (Value.int .i64 (65532 : Int))] w2 (R8 fun r3 w4 =>
M.new (.cells #[(Value.int .i64 (0 : Int)), (Value.int .i64 (0 : Int)), (Value.int .u32 (0 : Int))] 29) w4 fun b6 w5 =>
M.stA b6 [(Value.int .i64 (IntKind.i64.wrap ((1 : Int) + r1))), (Value.int .i64 (IntKind.i64.wrap ((3 : Int) + r3))), (Value.int .u32 (bOr .u32 p2 (1 : Int)))] w5 fun w7 =>
M.ld (Value.int .i64) b6 w7 fun t9 =>
M.ld (Value.int .i64) (b6.add 1) w7 fun t11 =>
M.ld (Value.int .u32) (b6.add 2) w7 fun t13 =>
Calls Try.prog 16 #[(Value.agg #[(Value.int .i64 t9), (Value.int .i64 t11), (Value.int .u32 t13)])] w7 (R16 fun r15 r16 w17 =>
Calls Try.prog 14 #[(SV.v r15)] w17 (R14 fun r18 r19 r20 r21 r22 r23 w24 =>
M.new (.cells #[(Value.int .i64 (0 : Int)), (Value.int .i64 (0 : Int)), (Value.int .u32 (0 : Int))] 29) w24 fun b26 w25 =>
M.new (.cells #[(Value.int .i64 (0 : Int)), (Value.int .i64 (0 : Int)), (SV.v SV.nil)] 35) w25 fun b28 w27 =>
M.stA b26 [(Value.int .i64 r18), (Value.int .i64 r19), (Value.int .u32 r20)] w27 fun w29 =>
M.stA b28 [(Value.int .i64 r21), (Value.int .i64 r22), (SV.v r23)] w29 fun w31 =>
M.join (fun (x34 : Bool) (w53 : World) => 
M.ite x34 (
K false w53) (
Calls Try.prog 8 #[(Value.int .i64 p6), (Value.int .i64 (0 : Int)), (Value.int .i64 (9 : Int))] w53 (R8 fun r61 w62 =>
M.bnd (0 : Int) r61 r15 <|
Calls Try.prog 14 #[(SV.v (SV.sub r15 (Int.toNat (0 : Int)) (Int.toNat r61) 1))] w62 (R14 fun r67 r68 r69 r70 r71 r72 w73 =>
M.new (.cells #[(Value.int .i64 (0 : Int)), (Value.int .i64 (0 : Int)), (Value.int .u32 (0 : Int))] 29) w73 fun b75 w74 =>
M.new (.cells #[(Value.int .i64 (0 : Int)), (Value.int .i64 (0 : Int)), (SV.v SV.nil)] 35) w74 fun b77 w76 =>
M.stA b75 [(Value.int .i64 r67), (Value.int .i64 r68), (Value.int .u32 r69)] w76 fun w78 =>
M.stA b77 [(Value.int .i64 r70), (Value.int .i64 r71), (SV.v r72)] w78 fun w80 =>
Calls Try.prog 12 #[(SV.v p5), (Value.int .i64 (100 : Int))] w80 (R12 fun r82 w83 =>
Calls Try.prog 18 #[(Value.agg #[(Value.int .i64 (IntKind.i64.wrap p3)), (Value.int .i64 (IntKind.i64.wrap p4)), (SV.v r82)])] w83 (R18 fun r84 w85 =>
Calls Try.prog 17 #[(SV.v r84)] w85 (R17 fun r86 r87 r88 r89 w90 =>
M.new (.cells #[(Value.int .i64 (0 : Int)), (Value.int .i64 (0 : Int)), (SV.v SV.nil)] 35) w90 fun b92 w91 =>
M.stA b92 [(Value.int .i64 r86), (Value.int .i64 r87), (SV.v r88)] w91 fun w93 =>
M.join (fun (x96 : Bool) (w117 : World) => 
K x96 w117) fun J95 => 
M.ld (Value.int .i64) b77 w93 fun t97 =>
M.ite (t97 == (2 : Int)) (
M.ld (Value.int .i64) (b77.add 1) w93 fun t100 =>
M.ite (t100 == (0 : Int)) (
M.ite r89 (
M.ite ((r84.len : Int) == (IntKind.i64.wrap ((r82.len : Int) + (2 : Int)))) (
M.ld (Value.int .i64) b92 w93 fun t105 =>
M.ld (Value.int .i64) (b92.add 1) w93 fun t107 =>
M.ld SV.v (b92.add 2) w93 fun t109 =>
Calls Try.prog 15 #[(Value.agg #[(Value.int .i64 t105), (Value.int .i64 t107), (SV.v t109)]), (Value.agg #[(Value.int .i64 (IntKind.i64.wrap p3)), (Value.int .i64 (IntKind.i64.wrap p4)), (SV.v r82)])] w93 (R15 fun r111 w112 =>
M.ite r111 (
Calls Try.prog 13 #[] w112 (R13 fun r114 w115 =>
J95 r114 w115)) (
J95 false w112))) (
J95 false w93)) (
J95 false w93)) (
J95 false w93)) (
J95 false w93)))))))) fun J33 => 
M.ite (r16 != (0 : Int)) (
J33 true w31) (
M.ld (Value.int .i64) b28 w31 fun t36 =>
M.ite (t36 != (0 : Int)) (
J33 true w31) (
M.ld (Value.int .i64) b26 w31 fun t39 =>
M.ld (Value.int .i64) (b26.add 1) w31 fun t41 =>
M.ld (Value.int .u32) (b26.add 2) w31 fun t43 =>
M.ld (Value.int .i64) b6 w31 fun t45 =>
M.ld (Value.int .i64) (b6.add 1) w31 fun t47 =>
M.ld (Value.int .u32) (b6.add 2) w31 fun t49 =>
M.ite (!((t39 == t45) && ((t41 == t47) && (t43 == t49)))) (
J33 true w31) (
J33 ((r15.len : Int) != (10 : Int)) w31)))))))
theorem F7_ok {w0 : World} {p0 : Int} {p1 : Int} {p2 : Int} {p3 : Int} {p4 : Int} {p5 : SV} {p6 : Int} {K : Bool → World → Prop} (h : F7 p0 p1 p2 p3 p4 p5 p6 K w0) : Calls Try.prog 7 #[(Value.int .i64 p0), (Value.int .i64 p1), (Value.int .u32 p2), (Value.int .u8 p3), (Value.int .u8 p4), (SV.v p5), (Value.int .i64 p6)] w0 (R7 K) := by
  refine calls_of_WE (args := [(Value.int .i64 p0), (Value.int .i64 p1), (Value.int .u32 p2), (Value.int .u8 p3), (Value.int .u8 p4), (SV.v p5), (Value.int .i64 p6)]) (rs := [.tmp 14]) Try.func7 rfl (N := 115) rfl rfl rfl rfl ?_
  refine WE.seq ?_
  refine WE.reg ?_
  refine LE.p (v := (Value.bool false)) (Wn.no rfl) rfl (R.assign rfl) ?_
  refine LE.nil ?_
  refine WE.seq ?_
  refine WE.reg ?_
  refine LE.p (v := (Value.int .i64 p0)) (Wn.no rfl) rfl (R.move rfl) ?_
  refine LE.c (Wn.no rfl) rfl (R.call bd8 (Ls.cons rfl (Ls.cons rfl (Ls.cons rfl Ls.nil))) rfl) (Calls.mono h ?_)
  rintro _ w2 ⟨r1, rfl, h⟩
  refine ⟨_, rfl, ?_⟩
  refine LE.p (v := (Value.int .i64 (IntKind.i64.wrap ((1 : Int) + r1)))) (Wn.no rfl) rfl (R.add rfl rfl) ?_
  refine LE.p (v := (Value.int .i64 p1)) (Wn.no rfl) rfl (R.move rfl) ?_
  refine LE.c (Wn.no rfl) rfl (R.call bd8 (Ls.cons rfl (Ls.cons rfl (Ls.cons rfl Ls.nil))) rfl) (Calls.mono h ?_)
  rintro _ w4 ⟨r3, rfl, h⟩
  refine ⟨_, rfl, ?_⟩
  refine LE.p (v := (Value.int .i64 (IntKind.i64.wrap ((3 : Int) + r3)))) (Wn.no rfl) rfl (R.add rfl rfl) ?_
  refine LE.p (v := (Value.int .u32 p2)) (Wn.no rfl) rfl (R.move rfl) ?_
  refine LE.p (v := (Value.int .u32 (bOr .u32 p2 (1 : Int)))) (Wn.no rfl) rfl (R.or rfl rfl) ?_
  refine LE.p (v := (Value.agg #[(Value.int .i64 (IntKind.i64.wrap ((1 : Int) + r1))), (Value.int .i64 (IntKind.i64.wrap ((3 : Int) + r3))), (Value.int .u32 (bOr .u32 p2 (1 : Int)))])) (Wn.no rfl) rfl (R.bld (by exact (Ls.cons (R.Pr rfl) (Ls.cons (R.Pr rfl) (Ls.cons (R.Pr rfl) Ls.nil)))) (fun w => bu29_0_1_2 (IntKind.i64.wrap ((1 : Int) + r1)) (IntKind.i64.wrap ((3 : Int) + r3)) (bOr .u32 p2 (1 : Int)) w)) ?_
  obtain ⟨b6, hpb6, w5, hww5, h⟩ := M.new_use h
  refine LE.r (v := (Value.pointer (some b6))) (Wn.no rfl) rfl (R.alloc (cs := #[(Value.int .i64 (0 : Int)), (Value.int .i64 (0 : Int)), (Value.int .u32 (0 : Int))]) ze29 rfl hpb6 hww5) ?_
  obtain ⟨w7, hww7, h8, h⟩ := M.stA_use h
  refine LE.s (Wn.no rfl) rfl (R.stA (a := b6) [(Value.int .i64 (IntKind.i64.wrap ((1 : Int) + r1))), (Value.int .i64 (IntKind.i64.wrap ((3 : Int) + r3))), (Value.int .u32 (bOr .u32 p2 (1 : Int)))] sz29 rfl rfl rfl (by simp [Value.oneCell']) h8 hww7) ?_
  refine LE.nil ?_
  refine WE.seq ?_
  refine WE.reg ?_
  obtain ⟨t9, h10, h⟩ := h
  obtain ⟨t11, h12, h⟩ := h
  obtain ⟨t13, h14, h⟩ := h
  refine LE.r (v := (Value.agg #[(Value.int .i64 t9), (Value.int .i64 t11), (Value.int .u32 t13)])) (Wn.no rfl) rfl (R.ldA ag29 sz29 rfl rfl (Cs.cons h10 (Cs.cons h12 (Cs.cons h14 Cs.nil)))) ?_
  refine LE.c (Wn.no rfl) rfl (R.call bd16 (Ls.cons rfl Ls.nil) rfl) (Calls.mono h ?_)
  rintro _ w17 ⟨r15, r16, rfl, h⟩
  refine ⟨_, rfl, ?_⟩
  refine LE.p (v := (Value.tuple #[(SV.v r15), (Value.int .i64 r16)])) (Wn.no rfl) rfl (R.move rfl) ?_
  refine LE.p (v := (SV.v r15)) (Wn.no rfl) rfl (R.ext rfl rfl) ?_
  refine LE.p (v := (Value.int .i64 r16)) (Wn.no rfl) rfl (R.ext rfl rfl) ?_
  refine LE.p (v := (SV.v r15)) (Wn.no rfl) rfl (R.assign rfl) ?_
  refine LE.p (v := (Value.int .i64 r16)) (Wn.no rfl) rfl (R.assign rfl) ?_
  refine LE.nil ?_
  refine WE.seq ?_
  refine WE.reg ?_
  refine LE.p (v := (SV.v r15)) (Wn.no rfl) rfl (R.move rfl) ?_
  refine LE.c (Wn.no rfl) rfl (R.call bd14 (Ls.cons rfl Ls.nil) rfl) (Calls.mono h ?_)
  rintro _ w24 ⟨r18, r19, r20, r21, r22, r23, rfl, h⟩
  refine ⟨_, rfl, ?_⟩
  refine LE.p (v := (Value.tuple #[(Value.agg #[(Value.int .i64 r18), (Value.int .i64 r19), (Value.int .u32 r20)]), (Value.agg #[(Value.int .i64 r21), (Value.int .i64 r22), (SV.v r23)])])) (Wn.no rfl) rfl (R.move rfl) ?_
  refine LE.p (v := (Value.agg #[(Value.int .i64 r18), (Value.int .i64 r19), (Value.int .u32 r20)])) (Wn.no rfl) rfl (R.ext rfl rfl) ?_
  refine LE.p (v := (Value.agg #[(Value.int .i64 r21), (Value.int .i64 r22), (SV.v r23)])) (Wn.no rfl) rfl (R.ext rfl rfl) ?_
  obtain ⟨b26, hpb26, w25, hww25, h⟩ := M.new_use h
  refine LE.r (v := (Value.pointer (some b26))) (Wn.no rfl) rfl (R.alloc (cs := #[(Value.int .i64 (0 : Int)), (Value.int .i64 (0 : Int)), (Value.int .u32 (0 : Int))]) ze29 rfl hpb26 hww25) ?_
  obtain ⟨b28, hpb28, w27, hww27, h⟩ := M.new_use h
  refine LE.r (v := (Value.pointer (some b28))) (Wn.no rfl) rfl (R.alloc (cs := #[(Value.int .i64 (0 : Int)), (Value.int .i64 (0 : Int)), (SV.v SV.nil)]) ze35 rfl hpb28 hww27) ?_
  obtain ⟨w29, hww29, h30, h⟩ := M.stA_use h
  refine LE.s (Wn.no rfl) rfl (R.stA (a := b26) [(Value.int .i64 r18), (Value.int .i64 r19), (Value.int .u32 r20)] sz29 rfl rfl rfl (by simp [Value.oneCell']) h30 hww29) ?_
  obtain ⟨w31, hww31, h32, h⟩ := M.stA_use h
  refine LE.s (Wn.no rfl) rfl (R.stA (a := b28) [(Value.int .i64 r21), (Value.int .i64 r22), (SV.v r23)] sz35 rfl rfl rfl (by simp [Value.oneCell']) h32 hww31) ?_
  refine LE.nil ?_
  refine WE.seq ?_
  refine WE.seq ?_
  obtain ⟨J33, hJ33, h⟩ := M.join_use h
  refine WE.regJ (fun e w => ∃ (x34 : Bool), J33 x34 w ∧ e 3 = (Value.int .u8 p3) ∧ e 4 = (Value.int .u8 p4) ∧ e 5 = (SV.v p5) ∧ e 6 = (Value.int .i64 p6) ∧ e 16 = (SV.v r15) ∧ e 60 = (Value.bool x34)) ?_ ?_
  · clear hJ33
    refine LE.p (v := (Value.int .i64 r16)) (Wn.no rfl) rfl (R.move rfl) ?_
    refine LE.p (v := (Value.bool (r16 != (0 : Int)))) (Wn.no rfl) rfl (R.neq rfl rfl) ?_
    refine LE.p (v := (Value.bool (r16 != (0 : Int)))) (Wn.no rfl) rfl (R.move rfl) ?_
    rcases M.ite_use h with ⟨hb35, h⟩ | ⟨hb35, h⟩
    · refine LE.u (Un.no 2 46 false rfl rfl rfl (congrArg Value.bool hb35)) ?_
      refine LE.u (Un.no 2 46 false rfl rfl rfl (congrArg Value.bool hb35)) ?_
      refine LE.u (Un.no 2 46 false rfl rfl rfl (congrArg Value.bool hb35)) ?_
      refine LE.p (v := (Value.bool true)) (Wn.no rfl) rfl (R.pickT (congrArg Value.bool hb35) rfl) ?_
      refine LE.p (v := (Value.bool true)) (Wn.no rfl) rfl (R.move rfl) ?_
      refine LE.u (Un.no 7 51 false rfl rfl rfl rfl) ?_
      refine LE.u (Un.no 7 51 false rfl rfl rfl rfl) ?_
      refine LE.u (Un.no 7 51 false rfl rfl rfl rfl) ?_
      refine LE.p (v := (Value.bool true)) (Wn.no rfl) rfl (R.pickT rfl rfl) ?_
      refine LE.p (v := (Value.bool true)) (Wn.no rfl) rfl (R.move rfl) ?_
      refine LE.u (Un.no 12 56 false rfl rfl rfl rfl) ?_
      refine LE.u (Un.no 12 56 false rfl rfl rfl rfl) ?_
      refine LE.u (Un.no 12 56 false rfl rfl rfl rfl) ?_
      refine LE.p (v := (Value.bool true)) (Wn.no rfl) rfl (R.pickT rfl rfl) ?_
      refine LE.nil ?_
      exact ⟨_, h, rfl, rfl, rfl, rfl, rfl, rfl⟩
    · refine LE.p (v := (Value.pointer (some b28))) (Wn.yes 2 46 false rfl rfl rfl (congrArg Value.bool hb35)) rfl (R.fld (off := 0) fa35_0 rfl) ?_
      obtain ⟨t36, h37, h⟩ := h
      refine LE.r (v := (Value.int .i64 t36)) (Wn.yes 2 46 false rfl rfl rfl (congrArg Value.bool hb35)) rfl (R.ld sc3 rfl h37) ?_
      refine LE.p (v := (Value.bool (t36 != (0 : Int)))) (Wn.yes 2 46 false rfl rfl rfl (congrArg Value.bool hb35)) rfl (R.neq rfl rfl) ?_
      refine LE.p (v := (Value.bool (t36 != (0 : Int)))) (Wn.no rfl) rfl (R.pickF (congrArg Value.bool hb35) rfl) ?_
      refine LE.p (v := (Value.bool (t36 != (0 : Int)))) (Wn.no rfl) rfl (R.move rfl) ?_
      rcases M.ite_use h with ⟨hb38, h⟩ | ⟨hb38, h⟩
      · refine LE.u (Un.no 7 51 false rfl rfl rfl (congrArg Value.bool hb38)) ?_
        refine LE.u (Un.no 7 51 false rfl rfl rfl (congrArg Value.bool hb38)) ?_
        refine LE.u (Un.no 7 51 false rfl rfl rfl (congrArg Value.bool hb38)) ?_
        refine LE.p (v := (Value.bool true)) (Wn.no rfl) rfl (R.pickT (congrArg Value.bool hb38) rfl) ?_
        refine LE.p (v := (Value.bool true)) (Wn.no rfl) rfl (R.move rfl) ?_
        refine LE.u (Un.no 12 56 false rfl rfl rfl rfl) ?_
        refine LE.u (Un.no 12 56 false rfl rfl rfl rfl) ?_
        refine LE.u (Un.no 12 56 false rfl rfl rfl rfl) ?_
        refine LE.p (v := (Value.bool true)) (Wn.no rfl) rfl (R.pickT rfl rfl) ?_
        refine LE.nil ?_
        exact ⟨_, h, rfl, rfl, rfl, rfl, rfl, rfl⟩
      · obtain ⟨t39, h40, h⟩ := h
        obtain ⟨t41, h42, h⟩ := h
        obtain ⟨t43, h44, h⟩ := h
        refine LE.r (v := (Value.agg #[(Value.int .i64 t39), (Value.int .i64 t41), (Value.int .u32 t43)])) (Wn.yes 7 51 false rfl rfl rfl (congrArg Value.bool hb38)) rfl (R.ldA ag29 sz29 rfl rfl (Cs.cons h40 (Cs.cons h42 (Cs.cons h44 Cs.nil)))) ?_
        obtain ⟨t45, h46, h⟩ := h
        obtain ⟨t47, h48, h⟩ := h
        obtain ⟨t49, h50, h⟩ := h
        refine LE.r (v := (Value.agg #[(Value.int .i64 t45), (Value.int .i64 t47), (Value.int .u32 t49)])) (Wn.yes 7 51 false rfl rfl rfl (congrArg Value.bool hb38)) rfl (R.ldA ag29 sz29 rfl rfl (Cs.cons h46 (Cs.cons h48 (Cs.cons h50 Cs.nil)))) ?_
        refine LE.p (v := (Value.bool (!((t39 == t45) && ((t41 == t47) && (t43 == t49)))))) (Wn.yes 7 51 false rfl rfl rfl (congrArg Value.bool hb38)) rfl (R.neS (fun w => eq29 t39 t45 t41 t47 t43 t49 w) sg29 rfl rfl) ?_
        refine LE.p (v := (Value.bool (!((t39 == t45) && ((t41 == t47) && (t43 == t49)))))) (Wn.no rfl) rfl (R.pickF (congrArg Value.bool hb38) rfl) ?_
        refine LE.p (v := (Value.bool (!((t39 == t45) && ((t41 == t47) && (t43 == t49)))))) (Wn.no rfl) rfl (R.move rfl) ?_
        rcases M.ite_use h with ⟨hb51, h⟩ | ⟨hb51, h⟩
        · refine LE.u (Un.no 12 56 false rfl rfl rfl (congrArg Value.bool hb51)) ?_
          refine LE.u (Un.no 12 56 false rfl rfl rfl (congrArg Value.bool hb51)) ?_
          refine LE.u (Un.no 12 56 false rfl rfl rfl (congrArg Value.bool hb51)) ?_
          refine LE.p (v := (Value.bool true)) (Wn.no rfl) rfl (R.pickT (congrArg Value.bool hb51) rfl) ?_
          refine LE.nil ?_
          exact ⟨_, h, rfl, rfl, rfl, rfl, rfl, rfl⟩
        · refine LE.p (v := (SV.v r15)) (Wn.yes 12 56 false rfl rfl rfl (congrArg Value.bool hb51)) rfl (R.move rfl) ?_
          refine LE.p (v := (Value.int .i64 (r15.len : Int))) (Wn.yes 12 56 false rfl rfl rfl (congrArg Value.bool hb51)) rfl (R.len sl23 rfl) ?_
          refine LE.p (v := (Value.bool ((r15.len : Int) != (10 : Int)))) (Wn.yes 12 56 false rfl rfl rfl (congrArg Value.bool hb51)) rfl (R.neq rfl rfl) ?_
          refine LE.p (v := (Value.bool ((r15.len : Int) != (10 : Int)))) (Wn.no rfl) rfl (R.pickF (congrArg Value.bool hb51) rfl) ?_
          refine LE.nil ?_
          exact ⟨_, h, rfl, rfl, rfl, rfl, rfl, rfl⟩
  · rintro e52 w53 ⟨x34, h, f54, f55, f56, f57, f58, f59⟩
    subst hJ33
    refine WE.condT rfl (b := x34) f59 ?_ ?_
    · intro hb60
      replace h := M.ite_t h hb60
      refine WE.seq ?_
      refine WE.reg ?_
      refine LE.p (v := (Value.bool false)) (Wn.no rfl) rfl (R.assign rfl) ?_
      refine LE.nil ?_
      refine WE.ret ?_
      exact ⟨_, (Res.tmp rfl Res.nil), _, rfl, h⟩
    · intro hb60
      replace h := M.ite_f h hb60
      refine WE.skip ?_
      refine WE.seq ?_
      refine WE.reg ?_
      refine LE.p (v := (SV.v r15)) (Wn.no rfl) rfl (R.move f58) ?_
      refine LE.p (v := (Value.int .i64 p6)) (Wn.no rfl) rfl (R.move f57) ?_
      refine LE.c (Wn.no rfl) rfl (R.call bd8 (Ls.cons rfl (Ls.cons rfl (Ls.cons rfl Ls.nil))) rfl) (Calls.mono h ?_)
      rintro _ w62 ⟨r61, rfl, h⟩
      refine ⟨_, rfl, ?_⟩
      obtain ⟨h63, h64, h65, h⟩ := h
      refine LE.p (v := (SV.v (SV.sub r15 (Int.toNat (0 : Int)) (Int.toNat r61) 1))) (Wn.no rfl) rfl (R.slc (s := r15) (lo := (0 : Int)) (hi := r61) _ _ sl23 rfl rfl rfl h63 h64 h65) ?_
      refine LE.c (Wn.no rfl) rfl (R.call bd14 (Ls.cons rfl Ls.nil) rfl) (Calls.mono h ?_)
      rintro _ w73 ⟨r67, r68, r69, r70, r71, r72, rfl, h⟩
      refine ⟨_, rfl, ?_⟩
      refine LE.p (v := (Value.tuple #[(Value.agg #[(Value.int .i64 r67), (Value.int .i64 r68), (Value.int .u32 r69)]), (Value.agg #[(Value.int .i64 r70), (Value.int .i64 r71), (SV.v r72)])])) (Wn.no rfl) rfl (R.move rfl) ?_
      refine LE.p (v := (Value.agg #[(Value.int .i64 r67), (Value.int .i64 r68), (Value.int .u32 r69)])) (Wn.no rfl) rfl (R.ext rfl rfl) ?_
      refine LE.p (v := (Value.agg #[(Value.int .i64 r70), (Value.int .i64 r71), (SV.v r72)])) (Wn.no rfl) rfl (R.ext rfl rfl) ?_
      obtain ⟨b75, hpb75, w74, hww74, h⟩ := M.new_use h
      refine LE.r (v := (Value.pointer (some b75))) (Wn.no rfl) rfl (R.alloc (cs := #[(Value.int .i64 (0 : Int)), (Value.int .i64 (0 : Int)), (Value.int .u32 (0 : Int))]) ze29 rfl hpb75 hww74) ?_
      obtain ⟨b77, hpb77, w76, hww76, h⟩ := M.new_use h
      refine LE.r (v := (Value.pointer (some b77))) (Wn.no rfl) rfl (R.alloc (cs := #[(Value.int .i64 (0 : Int)), (Value.int .i64 (0 : Int)), (SV.v SV.nil)]) ze35 rfl hpb77 hww76) ?_
      obtain ⟨w78, hww78, h79, h⟩ := M.stA_use h
      refine LE.s (Wn.no rfl) rfl (R.stA (a := b75) [(Value.int .i64 r67), (Value.int .i64 r68), (Value.int .u32 r69)] sz29 rfl rfl rfl (by simp [Value.oneCell']) h79 hww78) ?_
      obtain ⟨w80, hww80, h81, h⟩ := M.stA_use h
      refine LE.s (Wn.no rfl) rfl (R.stA (a := b77) [(Value.int .i64 r70), (Value.int .i64 r71), (SV.v r72)] sz35 rfl rfl rfl (by simp [Value.oneCell']) h81 hww80) ?_
      refine LE.nil ?_
      refine WE.seq ?_
      refine WE.reg ?_
      refine LE.p (v := (SV.v p5)) (Wn.no rfl) rfl (R.move f56) ?_
      refine LE.c (Wn.no rfl) rfl (R.call bd12 (Ls.cons rfl (Ls.cons rfl Ls.nil)) rfl) (Calls.mono h ?_)
      rintro _ w83 ⟨r82, rfl, h⟩
      refine ⟨_, rfl, ?_⟩
      refine LE.p (v := (SV.v r82)) (Wn.no rfl) rfl (R.assign rfl) ?_
      refine LE.nil ?_
      refine WE.seq ?_
      refine WE.reg ?_
      refine LE.p (v := (Value.int .u8 p3)) (Wn.no rfl) rfl (R.move f54) ?_
      refine LE.p (v := (Value.int .i64 (IntKind.i64.wrap p3))) (Wn.no rfl) rfl (R.conv in3 in5 rfl) ?_
      refine LE.p (v := (Value.int .u8 p4)) (Wn.no rfl) rfl (R.move f55) ?_
      refine LE.p (v := (Value.int .i64 (IntKind.i64.wrap p4))) (Wn.no rfl) rfl (R.conv in3 in5 rfl) ?_
      refine LE.p (v := (SV.v r82)) (Wn.no rfl) rfl (R.move rfl) ?_
      refine LE.p (v := (Value.agg #[(Value.int .i64 (IntKind.i64.wrap p3)), (Value.int .i64 (IntKind.i64.wrap p4)), (SV.v r82)])) (Wn.no rfl) rfl (R.bld (by exact (Ls.cons (R.Pr rfl) (Ls.cons (R.Pr rfl) (Ls.cons (R.Pr rfl) Ls.nil)))) (fun w => bu35_0_1_2 (IntKind.i64.wrap p3) (IntKind.i64.wrap p4) r82 w)) ?_
      refine LE.c (Wn.no rfl) rfl (R.call bd18 (Ls.cons rfl Ls.nil) rfl) (Calls.mono h ?_)
      rintro _ w85 ⟨r84, rfl, h⟩
      refine ⟨_, rfl, ?_⟩
      refine LE.p (v := (SV.v r84)) (Wn.no rfl) rfl (R.assign rfl) ?_
      refine LE.nil ?_
      refine WE.seq ?_
      refine WE.reg ?_
      refine LE.p (v := (SV.v r84)) (Wn.no rfl) rfl (R.move rfl) ?_
      refine LE.c (Wn.no rfl) rfl (R.call bd17 (Ls.cons rfl Ls.nil) rfl) (Calls.mono h ?_)
      rintro _ w90 ⟨r86, r87, r88, r89, rfl, h⟩
      refine ⟨_, rfl, ?_⟩
      refine LE.p (v := (Value.tuple #[(Value.agg #[(Value.int .i64 r86), (Value.int .i64 r87), (SV.v r88)]), (Value.bool r89)])) (Wn.no rfl) rfl (R.move rfl) ?_
      refine LE.p (v := (Value.agg #[(Value.int .i64 r86), (Value.int .i64 r87), (SV.v r88)])) (Wn.no rfl) rfl (R.ext rfl rfl) ?_
      refine LE.p (v := (Value.bool r89)) (Wn.no rfl) rfl (R.ext rfl rfl) ?_
      obtain ⟨b92, hpb92, w91, hww91, h⟩ := M.new_use h
      refine LE.r (v := (Value.pointer (some b92))) (Wn.no rfl) rfl (R.alloc (cs := #[(Value.int .i64 (0 : Int)), (Value.int .i64 (0 : Int)), (SV.v SV.nil)]) ze35 rfl hpb92 hww91) ?_
      obtain ⟨w93, hww93, h94, h⟩ := M.stA_use h
      refine LE.s (Wn.no rfl) rfl (R.stA (a := b92) [(Value.int .i64 r86), (Value.int .i64 r87), (SV.v r88)] sz35 rfl rfl rfl (by simp [Value.oneCell']) h94 hww93) ?_
      refine LE.p (v := (Value.bool r89)) (Wn.no rfl) rfl (R.assign rfl) ?_
      refine LE.nil ?_
      refine WE.seq ?_
      obtain ⟨J95, hJ95, h⟩ := M.join_use h
      refine WE.regJ (fun e w => ∃ (x96 : Bool), J95 x96 w ∧ e 14 = (Value.bool x96)) ?_ ?_
      · clear hJ95
        refine LE.p (v := (Value.pointer (some b77))) (Wn.no rfl) rfl (R.fld (off := 0) fa35_0 rfl) ?_
        obtain ⟨t97, h98, h⟩ := h
        refine LE.r (v := (Value.int .i64 t97)) (Wn.no rfl) rfl (R.ld sc3 rfl h98) ?_
        refine LE.p (v := (Value.bool (t97 == (2 : Int)))) (Wn.no rfl) rfl (R.eql rfl rfl) ?_
        refine LE.p (v := (Value.bool (t97 == (2 : Int)))) (Wn.no rfl) rfl (R.move rfl) ?_
        rcases M.ite_use h with ⟨hb99, h⟩ | ⟨hb99, h⟩
        · refine LE.p (v := (Value.pointer (some (b77.add 1)))) (Wn.yes 3 86 true rfl rfl rfl (congrArg Value.bool hb99)) rfl (R.fld (off := 1) fa35_1 rfl) ?_
          obtain ⟨t100, h101, h⟩ := h
          refine LE.r (v := (Value.int .i64 t100)) (Wn.yes 3 86 true rfl rfl rfl (congrArg Value.bool hb99)) rfl (R.ld sc3 rfl h101) ?_
          refine LE.p (v := (Value.bool (t100 == (0 : Int)))) (Wn.yes 3 86 true rfl rfl rfl (congrArg Value.bool hb99)) rfl (R.eql rfl rfl) ?_
          refine LE.p (v := (Value.bool (t100 == (0 : Int)))) (Wn.no rfl) rfl (R.pickT (congrArg Value.bool hb99) rfl) ?_
          refine LE.p (v := (Value.bool (t100 == (0 : Int)))) (Wn.no rfl) rfl (R.move rfl) ?_
          rcases M.ite_use h with ⟨hb102, h⟩ | ⟨hb102, h⟩
          · refine LE.p (v := (Value.bool r89)) (Wn.yes 8 91 true rfl rfl rfl (congrArg Value.bool hb102)) rfl (R.move rfl) ?_
            refine LE.p (v := (Value.bool r89)) (Wn.no rfl) rfl (R.pickT (congrArg Value.bool hb102) rfl) ?_
            refine LE.p (v := (Value.bool r89)) (Wn.no rfl) rfl (R.move rfl) ?_
            rcases M.ite_use h with ⟨hb103, h⟩ | ⟨hb103, h⟩
            · refine LE.p (v := (SV.v r84)) (Wn.yes 11 94 true rfl rfl rfl (congrArg Value.bool hb103)) rfl (R.move rfl) ?_
              refine LE.p (v := (Value.int .i64 (r84.len : Int))) (Wn.yes 11 94 true rfl rfl rfl (congrArg Value.bool hb103)) rfl (R.len sl23 rfl) ?_
              refine LE.p (v := (SV.v r82)) (Wn.yes 11 94 true rfl rfl rfl (congrArg Value.bool hb103)) rfl (R.move rfl) ?_
              refine LE.p (v := (Value.int .i64 (r82.len : Int))) (Wn.yes 11 94 true rfl rfl rfl (congrArg Value.bool hb103)) rfl (R.len sl23 rfl) ?_
              refine LE.p (v := (Value.int .i64 (IntKind.i64.wrap ((r82.len : Int) + (2 : Int))))) (Wn.yes 11 94 true rfl rfl rfl (congrArg Value.bool hb103)) rfl (R.add rfl rfl) ?_
              refine LE.p (v := (Value.bool ((r84.len : Int) == (IntKind.i64.wrap ((r82.len : Int) + (2 : Int)))))) (Wn.yes 11 94 true rfl rfl rfl (congrArg Value.bool hb103)) rfl (R.eql rfl rfl) ?_
              refine LE.p (v := (Value.bool ((r84.len : Int) == (IntKind.i64.wrap ((r82.len : Int) + (2 : Int)))))) (Wn.no rfl) rfl (R.pickT (congrArg Value.bool hb103) rfl) ?_
              refine LE.p (v := (Value.bool ((r84.len : Int) == (IntKind.i64.wrap ((r82.len : Int) + (2 : Int)))))) (Wn.no rfl) rfl (R.move rfl) ?_
              rcases M.ite_use h with ⟨hb104, h⟩ | ⟨hb104, h⟩
              · obtain ⟨t105, h106, h⟩ := h
                obtain ⟨t107, h108, h⟩ := h
                obtain ⟨t109, h110, h⟩ := h
                refine LE.r (v := (Value.agg #[(Value.int .i64 t105), (Value.int .i64 t107), (SV.v t109)])) (Wn.yes 19 102 true rfl rfl rfl (congrArg Value.bool hb104)) rfl (R.ldA ag35 sz35 rfl rfl (Cs.cons h106 (Cs.cons h108 (Cs.cons h110 Cs.nil)))) ?_
                refine LE.p (v := (Value.int .u8 p3)) (Wn.yes 19 102 true rfl rfl rfl (congrArg Value.bool hb104)) rfl (R.move f54) ?_
                refine LE.p (v := (Value.int .i64 (IntKind.i64.wrap p3))) (Wn.yes 19 102 true rfl rfl rfl (congrArg Value.bool hb104)) rfl (R.conv in3 in5 rfl) ?_
                refine LE.p (v := (Value.int .u8 p4)) (Wn.yes 19 102 true rfl rfl rfl (congrArg Value.bool hb104)) rfl (R.move f55) ?_
                refine LE.p (v := (Value.int .i64 (IntKind.i64.wrap p4))) (Wn.yes 19 102 true rfl rfl rfl (congrArg Value.bool hb104)) rfl (R.conv in3 in5 rfl) ?_
                refine LE.p (v := (SV.v r82)) (Wn.yes 19 102 true rfl rfl rfl (congrArg Value.bool hb104)) rfl (R.move rfl) ?_
                refine LE.p (v := (Value.agg #[(Value.int .i64 (IntKind.i64.wrap p3)), (Value.int .i64 (IntKind.i64.wrap p4)), (SV.v r82)])) (Wn.yes 19 102 true rfl rfl rfl (congrArg Value.bool hb104)) rfl (R.bld (by exact (Ls.cons (R.Pr rfl) (Ls.cons (R.Pr rfl) (Ls.cons (R.Pr rfl) Ls.nil)))) (fun w => bu35_0_1_2 (IntKind.i64.wrap p3) (IntKind.i64.wrap p4) r82 w)) ?_
                refine LE.c (Wn.yes 19 102 true rfl rfl rfl (congrArg Value.bool hb104)) rfl (R.call bd15 (Ls.cons rfl (Ls.cons rfl Ls.nil)) rfl) (Calls.mono h ?_)
                rintro _ w112 ⟨r111, rfl, h⟩
                refine ⟨_, rfl, ?_⟩
                refine LE.p (v := (Value.bool r111)) (Wn.no rfl) rfl (R.pickT (congrArg Value.bool hb104) rfl) ?_
                refine LE.p (v := (Value.bool r111)) (Wn.no rfl) rfl (R.move rfl) ?_
                rcases M.ite_use h with ⟨hb113, h⟩ | ⟨hb113, h⟩
                · refine LE.c (Wn.yes 29 112 true rfl rfl rfl (congrArg Value.bool hb113)) rfl (R.call bd13 Ls.nil rfl) (Calls.mono h ?_)
                  rintro _ w115 ⟨r114, rfl, h⟩
                  refine ⟨_, rfl, ?_⟩
                  refine LE.p (v := (Value.bool r114)) (Wn.no rfl) rfl (R.pickT (congrArg Value.bool hb113) rfl) ?_
                  refine LE.p (v := (Value.bool r114)) (Wn.no rfl) rfl (R.assign rfl) ?_
                  refine LE.nil ?_
                  exact ⟨_, h, rfl⟩
                · refine LE.u (Un.no 29 112 true rfl rfl rfl (congrArg Value.bool hb113)) ?_
                  refine LE.p (v := (Value.bool false)) (Wn.no rfl) rfl (R.pickF (congrArg Value.bool hb113) rfl) ?_
                  refine LE.p (v := (Value.bool false)) (Wn.no rfl) rfl (R.assign rfl) ?_
                  refine LE.nil ?_
                  exact ⟨_, h, rfl⟩
              · refine LE.u (Un.no 19 102 true rfl rfl rfl (congrArg Value.bool hb104)) ?_
                refine LE.u (Un.no 19 102 true rfl rfl rfl (congrArg Value.bool hb104)) ?_
                refine LE.u (Un.no 19 102 true rfl rfl rfl (congrArg Value.bool hb104)) ?_
                refine LE.u (Un.no 19 102 true rfl rfl rfl (congrArg Value.bool hb104)) ?_
                refine LE.u (Un.no 19 102 true rfl rfl rfl (congrArg Value.bool hb104)) ?_
                refine LE.u (Un.no 19 102 true rfl rfl rfl (congrArg Value.bool hb104)) ?_
                refine LE.u (Un.no 19 102 true rfl rfl rfl (congrArg Value.bool hb104)) ?_
                refine LE.u (Un.no 19 102 true rfl rfl rfl (congrArg Value.bool hb104)) ?_
                refine LE.p (v := (Value.bool false)) (Wn.no rfl) rfl (R.pickF (congrArg Value.bool hb104) rfl) ?_
                refine LE.p (v := (Value.bool false)) (Wn.no rfl) rfl (R.move rfl) ?_
                refine LE.u (Un.no 29 112 true rfl rfl rfl rfl) ?_
                refine LE.p (v := (Value.bool false)) (Wn.no rfl) rfl (R.pickF rfl rfl) ?_
                refine LE.p (v := (Value.bool false)) (Wn.no rfl) rfl (R.assign rfl) ?_
                refine LE.nil ?_
                exact ⟨_, h, rfl⟩
            · refine LE.u (Un.no 11 94 true rfl rfl rfl (congrArg Value.bool hb103)) ?_
              refine LE.u (Un.no 11 94 true rfl rfl rfl (congrArg Value.bool hb103)) ?_
              refine LE.u (Un.no 11 94 true rfl rfl rfl (congrArg Value.bool hb103)) ?_
              refine LE.u (Un.no 11 94 true rfl rfl rfl (congrArg Value.bool hb103)) ?_
              refine LE.u (Un.no 11 94 true rfl rfl rfl (congrArg Value.bool hb103)) ?_
              refine LE.u (Un.no 11 94 true rfl rfl rfl (congrArg Value.bool hb103)) ?_
              refine LE.p (v := (Value.bool false)) (Wn.no rfl) rfl (R.pickF (congrArg Value.bool hb103) rfl) ?_
              refine LE.p (v := (Value.bool false)) (Wn.no rfl) rfl (R.move rfl) ?_
              refine LE.u (Un.no 19 102 true rfl rfl rfl rfl) ?_
              refine LE.u (Un.no 19 102 true rfl rfl rfl rfl) ?_
              refine LE.u (Un.no 19 102 true rfl rfl rfl rfl) ?_
              refine LE.u (Un.no 19 102 true rfl rfl rfl rfl) ?_
              refine LE.u (Un.no 19 102 true rfl rfl rfl rfl) ?_
              refine LE.u (Un.no 19 102 true rfl rfl rfl rfl) ?_
              refine LE.u (Un.no 19 102 true rfl rfl rfl rfl) ?_
              refine LE.u (Un.no 19 102 true rfl rfl rfl rfl) ?_
              refine LE.p (v := (Value.bool false)) (Wn.no rfl) rfl (R.pickF rfl rfl) ?_
              refine LE.p (v := (Value.bool false)) (Wn.no rfl) rfl (R.move rfl) ?_
              refine LE.u (Un.no 29 112 true rfl rfl rfl rfl) ?_
              refine LE.p (v := (Value.bool false)) (Wn.no rfl) rfl (R.pickF rfl rfl) ?_
              refine LE.p (v := (Value.bool false)) (Wn.no rfl) rfl (R.assign rfl) ?_
              refine LE.nil ?_
              exact ⟨_, h, rfl⟩
          · refine LE.u (Un.no 8 91 true rfl rfl rfl (congrArg Value.bool hb102)) ?_
            refine LE.p (v := (Value.bool false)) (Wn.no rfl) rfl (R.pickF (congrArg Value.bool hb102) rfl) ?_
            refine LE.p (v := (Value.bool false)) (Wn.no rfl) rfl (R.move rfl) ?_
            refine LE.u (Un.no 11 94 true rfl rfl rfl rfl) ?_
            refine LE.u (Un.no 11 94 true rfl rfl rfl rfl) ?_
            refine LE.u (Un.no 11 94 true rfl rfl rfl rfl) ?_
            refine LE.u (Un.no 11 94 true rfl rfl rfl rfl) ?_
            refine LE.u (Un.no 11 94 true rfl rfl rfl rfl) ?_
            refine LE.u (Un.no 11 94 true rfl rfl rfl rfl) ?_
            refine LE.p (v := (Value.bool false)) (Wn.no rfl) rfl (R.pickF rfl rfl) ?_
            refine LE.p (v := (Value.bool false)) (Wn.no rfl) rfl (R.move rfl) ?_
            refine LE.u (Un.no 19 102 true rfl rfl rfl rfl) ?_
            refine LE.u (Un.no 19 102 true rfl rfl rfl rfl) ?_
            refine LE.u (Un.no 19 102 true rfl rfl rfl rfl) ?_
            refine LE.u (Un.no 19 102 true rfl rfl rfl rfl) ?_
            refine LE.u (Un.no 19 102 true rfl rfl rfl rfl) ?_
            refine LE.u (Un.no 19 102 true rfl rfl rfl rfl) ?_
            refine LE.u (Un.no 19 102 true rfl rfl rfl rfl) ?_
            refine LE.u (Un.no 19 102 true rfl rfl rfl rfl) ?_
            refine LE.p (v := (Value.bool false)) (Wn.no rfl) rfl (R.pickF rfl rfl) ?_
            refine LE.p (v := (Value.bool false)) (Wn.no rfl) rfl (R.move rfl) ?_
            refine LE.u (Un.no 29 112 true rfl rfl rfl rfl) ?_
            refine LE.p (v := (Value.bool false)) (Wn.no rfl) rfl (R.pickF rfl rfl) ?_
            refine LE.p (v := (Value.bool false)) (Wn.no rfl) rfl (R.assign rfl) ?_
            refine LE.nil ?_
            exact ⟨_, h, rfl⟩
        · refine LE.u (Un.no 3 86 true rfl rfl rfl (congrArg Value.bool hb99)) ?_
          refine LE.u (Un.no 3 86 true rfl rfl rfl (congrArg Value.bool hb99)) ?_
          refine LE.u (Un.no 3 86 true rfl rfl rfl (congrArg Value.bool hb99)) ?_
          refine LE.p (v := (Value.bool false)) (Wn.no rfl) rfl (R.pickF (congrArg Value.bool hb99) rfl) ?_
          refine LE.p (v := (Value.bool false)) (Wn.no rfl) rfl (R.move rfl) ?_
          refine LE.u (Un.no 8 91 true rfl rfl rfl rfl) ?_
          refine LE.p (v := (Value.bool false)) (Wn.no rfl) rfl (R.pickF rfl rfl) ?_
          refine LE.p (v := (Value.bool false)) (Wn.no rfl) rfl (R.move rfl) ?_
          refine LE.u (Un.no 11 94 true rfl rfl rfl rfl) ?_
          refine LE.u (Un.no 11 94 true rfl rfl rfl rfl) ?_
          refine LE.u (Un.no 11 94 true rfl rfl rfl rfl) ?_
          refine LE.u (Un.no 11 94 true rfl rfl rfl rfl) ?_
          refine LE.u (Un.no 11 94 true rfl rfl rfl rfl) ?_
          refine LE.u (Un.no 11 94 true rfl rfl rfl rfl) ?_
          refine LE.p (v := (Value.bool false)) (Wn.no rfl) rfl (R.pickF rfl rfl) ?_
          refine LE.p (v := (Value.bool false)) (Wn.no rfl) rfl (R.move rfl) ?_
          refine LE.u (Un.no 19 102 true rfl rfl rfl rfl) ?_
          refine LE.u (Un.no 19 102 true rfl rfl rfl rfl) ?_
          refine LE.u (Un.no 19 102 true rfl rfl rfl rfl) ?_
          refine LE.u (Un.no 19 102 true rfl rfl rfl rfl) ?_
          refine LE.u (Un.no 19 102 true rfl rfl rfl rfl) ?_
          refine LE.u (Un.no 19 102 true rfl rfl rfl rfl) ?_
          refine LE.u (Un.no 19 102 true rfl rfl rfl rfl) ?_
          refine LE.u (Un.no 19 102 true rfl rfl rfl rfl) ?_
          refine LE.p (v := (Value.bool false)) (Wn.no rfl) rfl (R.pickF rfl rfl) ?_
          refine LE.p (v := (Value.bool false)) (Wn.no rfl) rfl (R.move rfl) ?_
          refine LE.u (Un.no 29 112 true rfl rfl rfl rfl) ?_
          refine LE.p (v := (Value.bool false)) (Wn.no rfl) rfl (R.pickF rfl rfl) ?_
          refine LE.p (v := (Value.bool false)) (Wn.no rfl) rfl (R.assign rfl) ?_
          refine LE.nil ?_
          exact ⟨_, h, rfl⟩
      · rintro e116 w117 ⟨x96, h, f118⟩
        subst hJ95
        refine WE.ret ?_
        exact ⟨_, (Res.tmp f118 Res.nil), _, rfl, h⟩
/-- The formula of signpost.signpostbook.Within. -/
def F8 (p0 : Int) (p1 : Int) (p2 : Int) (K : Int → World → Prop) (w0 : World) : Prop :=
M.nz (IntKind.i64.wrap ((IntKind.i64.wrap (p2 - p1)) + (1 : Int))) <|
M.join (fun (x3 : Int) (w6 : World) => 
K (IntKind.i64.wrap (p1 + x3)) w6) fun J2 => 
M.ite (decide ((Int.tmod p0 (IntKind.i64.wrap ((IntKind.i64.wrap (p2 - p1)) + (1 : Int)))) < (0 : Int))) (
J2 (IntKind.i64.wrap ((IntKind.i64.wrap ((IntKind.i64.wrap ((Int.tmod p0 (IntKind.i64.wrap ((IntKind.i64.wrap (p2 - p1)) + (1 : Int)))) + p2)) - p1)) + (1 : Int))) w0) (
J2 (Int.tmod p0 (IntKind.i64.wrap ((IntKind.i64.wrap (p2 - p1)) + (1 : Int)))) w0)
theorem F8_ok {w0 : World} {p0 : Int} {p1 : Int} {p2 : Int} {K : Int → World → Prop} (h : F8 p0 p1 p2 K w0) : Calls Try.prog 8 #[(Value.int .i64 p0), (Value.int .i64 p1), (Value.int .i64 p2)] w0 (R8 K) := by
  refine calls_of_WE (args := [(Value.int .i64 p0), (Value.int .i64 p1), (Value.int .i64 p2)]) (rs := [.tmp 6]) Try.func8 rfl (N := 24) rfl rfl rfl rfl ?_
  refine WE.seq ?_
  refine WE.reg ?_
  refine LE.p (v := (Value.int .i64 (0 : Int))) (Wn.no rfl) rfl (R.assign rfl) ?_
  refine LE.nil ?_
  refine WE.seq ?_
  refine WE.reg ?_
  refine LE.p (v := (Value.int .i64 p0)) (Wn.no rfl) rfl (R.move rfl) ?_
  refine LE.p (v := (Value.int .i64 p2)) (Wn.no rfl) rfl (R.move rfl) ?_
  refine LE.p (v := (Value.int .i64 p1)) (Wn.no rfl) rfl (R.move rfl) ?_
  refine LE.p (v := (Value.int .i64 (IntKind.i64.wrap (p2 - p1)))) (Wn.no rfl) rfl (R.sub rfl rfl) ?_
  refine LE.p (v := (Value.int .i64 (IntKind.i64.wrap ((IntKind.i64.wrap (p2 - p1)) + (1 : Int))))) (Wn.no rfl) rfl (R.add rfl rfl) ?_
  obtain ⟨h1, h⟩ := h
  refine LE.p (v := (Value.int .i64 (Int.tmod p0 (IntKind.i64.wrap ((IntKind.i64.wrap (p2 - p1)) + (1 : Int)))))) (Wn.no rfl) rfl (R.rem rfl rfl h1) ?_
  refine LE.p (v := (Value.int .i64 (Int.tmod p0 (IntKind.i64.wrap ((IntKind.i64.wrap (p2 - p1)) + (1 : Int)))))) (Wn.no rfl) rfl (R.assign rfl) ?_
  refine LE.nil ?_
  obtain ⟨J2, hJ2, h⟩ := M.join_use h
  refine WE.join (fun e w => ∃ (x3 : Int), J2 x3 w ∧ e 0 = (Value.int .i64 x3) ∧ e 1 = (Value.int .i64 p1)) ?_ ?_
  · clear hJ2
    refine WE.seq ?_
    refine WE.reg ?_
    refine LE.p (v := (Value.int .i64 (Int.tmod p0 (IntKind.i64.wrap ((IntKind.i64.wrap (p2 - p1)) + (1 : Int)))))) (Wn.no rfl) rfl (R.move rfl) ?_
    refine LE.p (v := (Value.bool (decide ((Int.tmod p0 (IntKind.i64.wrap ((IntKind.i64.wrap (p2 - p1)) + (1 : Int)))) < (0 : Int))))) (Wn.no rfl) rfl (R.lss rfl rfl) ?_
    refine LE.nil ?_
    refine WE.condT rfl (b := (decide ((Int.tmod p0 (IntKind.i64.wrap ((IntKind.i64.wrap (p2 - p1)) + (1 : Int)))) < (0 : Int)))) rfl ?_ ?_
    · intro hb4
      replace h := M.ite_t h hb4
      refine WE.reg ?_
      refine LE.p (v := (Value.int .i64 (Int.tmod p0 (IntKind.i64.wrap ((IntKind.i64.wrap (p2 - p1)) + (1 : Int)))))) (Wn.no rfl) rfl (R.move rfl) ?_
      refine LE.p (v := (Value.int .i64 p2)) (Wn.no rfl) rfl (R.move rfl) ?_
      refine LE.p (v := (Value.int .i64 (IntKind.i64.wrap ((Int.tmod p0 (IntKind.i64.wrap ((IntKind.i64.wrap (p2 - p1)) + (1 : Int)))) + p2)))) (Wn.no rfl) rfl (R.add rfl rfl) ?_
      refine LE.p (v := (Value.int .i64 p1)) (Wn.no rfl) rfl (R.move rfl) ?_
      refine LE.p (v := (Value.int .i64 (IntKind.i64.wrap ((IntKind.i64.wrap ((Int.tmod p0 (IntKind.i64.wrap ((IntKind.i64.wrap (p2 - p1)) + (1 : Int)))) + p2)) - p1)))) (Wn.no rfl) rfl (R.sub rfl rfl) ?_
      refine LE.p (v := (Value.int .i64 (IntKind.i64.wrap ((IntKind.i64.wrap ((IntKind.i64.wrap ((Int.tmod p0 (IntKind.i64.wrap ((IntKind.i64.wrap (p2 - p1)) + (1 : Int)))) + p2)) - p1)) + (1 : Int))))) (Wn.no rfl) rfl (R.add rfl rfl) ?_
      refine LE.p (v := (Value.int .i64 (IntKind.i64.wrap ((IntKind.i64.wrap ((IntKind.i64.wrap ((Int.tmod p0 (IntKind.i64.wrap ((IntKind.i64.wrap (p2 - p1)) + (1 : Int)))) + p2)) - p1)) + (1 : Int))))) (Wn.no rfl) rfl (R.assign rfl) ?_
      refine LE.nil ?_
      exact ⟨_, h, rfl, rfl⟩
    · intro hb4
      replace h := M.ite_f h hb4
      refine WE.skip ?_
      exact ⟨_, h, rfl, rfl⟩
  · rintro e5 w6 ⟨x3, h, f7, f8⟩
    subst hJ2
    refine WE.seq ?_
    refine WE.reg ?_
    refine LE.p (v := (Value.int .i64 p1)) (Wn.no rfl) rfl (R.move f8) ?_
    refine LE.p (v := (Value.int .i64 x3)) (Wn.no rfl) rfl (R.move f7) ?_
    refine LE.p (v := (Value.int .i64 (IntKind.i64.wrap (p1 + x3)))) (Wn.no rfl) rfl (R.add rfl rfl) ?_
    refine LE.p (v := (Value.int .i64 (IntKind.i64.wrap (p1 + x3)))) (Wn.no rfl) rfl (R.assign rfl) ?_
    refine LE.nil ?_
    refine WE.ret ?_
    exact ⟨_, (Res.tmp rfl Res.nil), _, rfl, h⟩
/-- The formula of signpost.signpostref10.Encode. -/
def F9 (p0_0 : Int) (p0_1 : Int) (p0_2 : Int) (K : SV → World → Prop) (w0 : World) : Prop :=
M.new (.cells #[(Value.int .i64 p0_0), (Value.int .i64 p0_1), (Value.int .u32 p0_2)] 26) w0 fun b2 w1 =>
M.drew w1 fun w3 => 
M.ld (Value.int .i64) b2 w3 fun t4 =>
M.ld (Value.int .i64) (b2.add 1) w3 fun t6 =>
M.new (.cells #[(Value.int .u8 (4 : Int))] 5) w3 fun b10 w8 =>
M.keep (w8.cell? (b2.add 1) = some (Value.int .i64 t6)) <|
M.keep (w8.cell? b2 = some (Value.int .i64 t4)) <|
Calls Try.prog 19 #[(SV.v (SV.mk (some b10) 1 1)), (Value.int .i64 t4)] w8 (R19 fun r13 w14 =>
M.keep (w14.cell? (b2.add 1) = some (Value.int .i64 t6)) <|
Calls Try.prog 19 #[(SV.v r13), (Value.int .i64 t6)] w14 (R19 fun r16 w17 =>
M.ld (Value.int .u32) (b2.add 2) w17 fun t18 =>
Calls Try.prog 20 #[(SV.v r16), (Value.int .u32 t18)] w17 (R20 fun r20 w21 =>
M.new (.cells #[(Value.int .u8 (0 : Int))] 5) w21 fun b24 w22 =>
M.app Try.prog 23 23 23 r20 (SV.v (SV.mk (some b24) 1 1)) w22 fun s25 w26 =>
K s25 w26)))
theorem F9_ok {w0 : World} {p0_0 : Int} {p0_1 : Int} {p0_2 : Int} {K : SV → World → Prop} (h : F9 p0_0 p0_1 p0_2 K w0) : Calls Try.prog 9 #[(Value.agg #[(Value.int .i64 p0_0), (Value.int .i64 p0_1), (Value.int .u32 p0_2)])] w0 (R9 K) := by
  refine calls_of_WE (args := [(Value.agg #[(Value.int .i64 p0_0), (Value.int .i64 p0_1), (Value.int .u32 p0_2)])]) (rs := [.tmp 2]) Try.func9 rfl (N := 17) rfl rfl rfl rfl ?_
  refine WE.seq ?_
  refine WE.reg ?_
  obtain ⟨b2, hpb2, w1, hww1, h⟩ := M.new_use h
  refine LE.r (v := (Value.pointer (some b2))) (Wn.no rfl) rfl (R.box (cs := #[(Value.int .i64 p0_0), (Value.int .i64 p0_1), (Value.int .u32 p0_2)]) rfl rfl hpb2 hww1) ?_
  refine LE.p (v := (SV.v SV.nil)) (Wn.no rfl) rfl (R.assign rfl) ?_
  refine LE.nil ?_
  refine WE.seq ?_
  refine WE.draw mix ?_
  obtain ⟨w3, hww3, h⟩ := M.drew_use h
  rw [← hww3]
  clear hww3
  refine DE.t 1 (v := (Value.pointer (some b2))) rfl (by kernel_rfl) (Wn.no rfl) rfl (R.fld (off := 0) fa26_0 rfl) ?_
  refine DE.t 4 (v := (Value.pointer (some (b2.add 1)))) rfl (by kernel_rfl) (Wn.no rfl) rfl (R.fld (off := 1) fa26_1 rfl) ?_
  obtain ⟨t4, h5, h⟩ := h
  refine DE.hold 2 (fun w => w.cell? b2 = some (Value.int .i64 t4)) (v := (Value.int .i64 t4)) rfl (by kernel_rfl) (Wn.no rfl) rfl h5 (fun w hs => R.ld sc3 rfl hs) ?_
  obtain ⟨t6, h7, h⟩ := h
  refine DE.hold 5 (fun w => w.cell? (b2.add 1) = some (Value.int .i64 t6)) (v := (Value.int .i64 t6)) rfl (by kernel_rfl) (Wn.no rfl) rfl h7 (fun w hs => R.ld sc3 rfl hs) ?_
  obtain ⟨b10, hpb10, w8, hww8, h⟩ := M.new_use h
  obtain ⟨k11, h⟩ := h
  obtain ⟨k12, h⟩ := h
  refine DE.main 0 (by kernel_rfl) ?_
  refine One.r 0 (v := (SV.v (SV.mk (some b10) 1 1))) rfl (Wn.no rfl) rfl (R.bsl (by exact (Ls.cons (R.Pr rfl) Ls.nil)) (fun w => bs23_1 (4 : Int) w) hpb10 hww8) (.inr ⟨fun _ => k11, fun _ => k12, trivial⟩) ?_
  refine DE.main 3 (by kernel_rfl) ?_
  refine One.c 3 rfl (Wn.no rfl) rfl (R.call bd19 (Ls.cons rfl (Ls.cons rfl Ls.nil)) rfl) (Calls.mono h ?_)
  rintro _ w14 ⟨r13, rfl, h⟩
  obtain ⟨k15, h⟩ := h
  refine ⟨_, rfl, ⟨fun _ => k15, aftT (by kernel_rfl), trivial⟩, ?_⟩
  refine DE.main 6 (by kernel_rfl) ?_
  refine One.c 6 rfl (Wn.no rfl) rfl (R.call bd19 (Ls.cons rfl (Ls.cons rfl Ls.nil)) rfl) (Calls.mono h ?_)
  rintro _ w17 ⟨r16, rfl, h⟩
  refine ⟨_, rfl, ⟨aftT (by kernel_rfl), aftT (by kernel_rfl), trivial⟩, ?_⟩
  refine DE.t 7 (v := (SV.v r16)) rfl (by kernel_rfl) (Wn.no rfl) rfl (R.assign rfl) ?_
  refine DE.done (by kernel_rfl) ?_
  refine WE.seq ?_
  refine WE.reg ?_
  refine LE.p (v := (SV.v r16)) (Wn.no rfl) rfl (R.move rfl) ?_
  refine LE.p (v := (Value.pointer (some (b2.add 2)))) (Wn.no rfl) rfl (R.fld (off := 2) fa26_2 rfl) ?_
  obtain ⟨t18, h19, h⟩ := h
  refine LE.r (v := (Value.int .u32 t18)) (Wn.no rfl) rfl (R.ld sc22 rfl h19) ?_
  refine LE.c (Wn.no rfl) rfl (R.call bd20 (Ls.cons rfl (Ls.cons rfl Ls.nil)) rfl) (Calls.mono h ?_)
  rintro _ w21 ⟨r20, rfl, h⟩
  refine ⟨_, rfl, ?_⟩
  obtain ⟨b24, hpb24, w22, hww22, h⟩ := M.new_use h
  refine LE.r (v := (SV.v (SV.mk (some b24) 1 1))) (Wn.no rfl) rfl (R.bsl (by exact (Ls.cons (R.Pr rfl) Ls.nil)) (fun w => bs23_1 (0 : Int) w) hpb24 hww22) ?_
  obtain ⟨s25, w26, h27, h⟩ := h
  refine LE.r (v := (SV.v s25)) (Wn.no rfl) rfl (R.app (s := r20) (r := s25) rfl rfl h27) ?_
  refine LE.p (v := (SV.v s25)) (Wn.no rfl) rfl (R.assign rfl) ?_
  refine LE.nil ?_
  refine WE.ret ?_
  exact ⟨_, (Res.tmp rfl Res.nil), _, rfl, h⟩
/-- The formula of signpost.signpostlaw10.same. -/
def F10 (p0_0 : Int) (p0_1 : Int) (p0_2 : Int) (K : Bool → World → Prop) (w0 : World) : Prop :=
M.new (.cells #[(Value.int .i64 p0_0), (Value.int .i64 p0_1), (Value.int .u32 p0_2)] 29) w0 fun b2 w1 =>
M.ld (Value.int .i64) b2 w1 fun t3 =>
M.ld (Value.int .i64) (b2.add 1) w1 fun t5 =>
M.ld (Value.int .u32) (b2.add 2) w1 fun t7 =>
Calls Try.prog 16 #[(Value.agg #[(Value.int .i64 t3), (Value.int .i64 t5), (Value.int .u32 t7)])] w1 (R16 fun r9 r10 w11 =>
M.ld (Value.int .i64) b2 w11 fun t12 =>
M.ld (Value.int .i64) (b2.add 1) w11 fun t14 =>
M.ld (Value.int .u32) (b2.add 2) w11 fun t16 =>
M.new (.cells #[(Value.int .i64 (0 : Int)), (Value.int .i64 (0 : Int)), (Value.int .u32 (0 : Int))] 26) w11 fun b19 w18 =>
M.stA b19 [(Value.int .i64 t12), (Value.int .i64 t14), (Value.int .u32 t16)] w18 fun w20 =>
M.ld (Value.int .i64) b19 w20 fun t22 =>
M.ld (Value.int .i64) (b19.add 1) w20 fun t24 =>
M.ld (Value.int .u32) (b19.add 2) w20 fun t26 =>
Calls Try.prog 21 #[(Value.agg #[(Value.int .i64 t22), (Value.int .i64 t24), (Value.int .u32 t26)])] w20 (R21 fun r28 w29 =>
M.ite (!r28) (
M.join (fun (x32 : Bool) (w35 : World) => 
K x32 w35) fun J31 => 
M.ite ((r9.len : Int) == (0 : Int)) (
J31 (r10 == (12 : Int)) w29) (
J31 false w29)) (
M.join (fun (x38 : Bool) (w55 : World) => 
K x38 w55) fun J37 => 
M.drew w29 fun w39 => 
M.b2s Try.prog 23 9 r9 w39 fun t40 =>
M.ld (Value.int .i64) b19 w39 fun t42 =>
M.ld (Value.int .i64) (b19.add 1) w39 fun t44 =>
M.ld (Value.int .u32) (b19.add 2) w39 fun t46 =>
Calls Try.prog 9 #[(Value.agg #[(Value.int .i64 t42), (Value.int .i64 t44), (Value.int .u32 t46)])] w39 (R9 fun r48 w49 =>
M.keep ((convert 23 9 (SV.v r9)).run Try.prog w49 = .ok (.string t40) w49) <|
M.b2s Try.prog 23 9 r48 w49 fun t51 =>
M.ite (t40.toList == t51.toList) (
J37 (r10 == (0 : Int)) w49) (
J37 false w49)))))
theorem F10_ok {w0 : World} {p0_0 : Int} {p0_1 : Int} {p0_2 : Int} {K : Bool → World → Prop} (h : F10 p0_0 p0_1 p0_2 K w0) : Calls Try.prog 10 #[(Value.agg #[(Value.int .i64 p0_0), (Value.int .i64 p0_1), (Value.int .u32 p0_2)])] w0 (R10 K) := by
  refine calls_of_WE (args := [(Value.agg #[(Value.int .i64 p0_0), (Value.int .i64 p0_1), (Value.int .u32 p0_2)])]) (rs := [.tmp 2]) Try.func10 rfl (N := 38) rfl rfl rfl rfl ?_
  refine WE.seq ?_
  refine WE.reg ?_
  obtain ⟨b2, hpb2, w1, hww1, h⟩ := M.new_use h
  refine LE.r (v := (Value.pointer (some b2))) (Wn.no rfl) rfl (R.box (cs := #[(Value.int .i64 p0_0), (Value.int .i64 p0_1), (Value.int .u32 p0_2)]) rfl rfl hpb2 hww1) ?_
  refine LE.p (v := (Value.bool false)) (Wn.no rfl) rfl (R.assign rfl) ?_
  refine LE.nil ?_
  refine WE.seq ?_
  refine WE.reg ?_
  obtain ⟨t3, h4, h⟩ := h
  obtain ⟨t5, h6, h⟩ := h
  obtain ⟨t7, h8, h⟩ := h
  refine LE.r (v := (Value.agg #[(Value.int .i64 t3), (Value.int .i64 t5), (Value.int .u32 t7)])) (Wn.no rfl) rfl (R.ldA ag29 sz29 rfl rfl (Cs.cons h4 (Cs.cons h6 (Cs.cons h8 Cs.nil)))) ?_
  refine LE.c (Wn.no rfl) rfl (R.call bd16 (Ls.cons rfl Ls.nil) rfl) (Calls.mono h ?_)
  rintro _ w11 ⟨r9, r10, rfl, h⟩
  refine ⟨_, rfl, ?_⟩
  refine LE.p (v := (Value.tuple #[(SV.v r9), (Value.int .i64 r10)])) (Wn.no rfl) rfl (R.move rfl) ?_
  refine LE.p (v := (SV.v r9)) (Wn.no rfl) rfl (R.ext rfl rfl) ?_
  refine LE.p (v := (Value.int .i64 r10)) (Wn.no rfl) rfl (R.ext rfl rfl) ?_
  refine LE.p (v := (SV.v r9)) (Wn.no rfl) rfl (R.assign rfl) ?_
  refine LE.p (v := (Value.int .i64 r10)) (Wn.no rfl) rfl (R.assign rfl) ?_
  refine LE.nil ?_
  refine WE.seq ?_
  refine WE.reg ?_
  refine LE.p (v := (Value.pointer (some b2))) (Wn.no rfl) rfl (R.fld (off := 0) fa29_0 rfl) ?_
  obtain ⟨t12, h13, h⟩ := h
  refine LE.r (v := (Value.int .i64 t12)) (Wn.no rfl) rfl (R.ld sc3 rfl h13) ?_
  refine LE.p (v := (Value.pointer (some (b2.add 1)))) (Wn.no rfl) rfl (R.fld (off := 1) fa29_1 rfl) ?_
  obtain ⟨t14, h15, h⟩ := h
  refine LE.r (v := (Value.int .i64 t14)) (Wn.no rfl) rfl (R.ld sc3 rfl h15) ?_
  refine LE.p (v := (Value.pointer (some (b2.add 2)))) (Wn.no rfl) rfl (R.fld (off := 2) fa29_2 rfl) ?_
  obtain ⟨t16, h17, h⟩ := h
  refine LE.r (v := (Value.int .u32 t16)) (Wn.no rfl) rfl (R.ld sc22 rfl h17) ?_
  refine LE.p (v := (Value.agg #[(Value.int .i64 t12), (Value.int .i64 t14), (Value.int .u32 t16)])) (Wn.no rfl) rfl (R.bld (by exact (Ls.cons (R.Pr rfl) (Ls.cons (R.Pr rfl) (Ls.cons (R.Pr rfl) Ls.nil)))) (fun w => bu26_0_1_2 t12 t14 t16 w)) ?_
  obtain ⟨b19, hpb19, w18, hww18, h⟩ := M.new_use h
  refine LE.r (v := (Value.pointer (some b19))) (Wn.no rfl) rfl (R.alloc (cs := #[(Value.int .i64 (0 : Int)), (Value.int .i64 (0 : Int)), (Value.int .u32 (0 : Int))]) ze26 rfl hpb19 hww18) ?_
  obtain ⟨w20, hww20, h21, h⟩ := M.stA_use h
  refine LE.s (Wn.no rfl) rfl (R.stA (a := b19) [(Value.int .i64 t12), (Value.int .i64 t14), (Value.int .u32 t16)] sz26 rfl rfl rfl (by simp [Value.oneCell']) h21 hww20) ?_
  refine LE.nil ?_
  refine WE.seq ?_
  refine WE.seq ?_
  refine WE.reg ?_
  obtain ⟨t22, h23, h⟩ := h
  obtain ⟨t24, h25, h⟩ := h
  obtain ⟨t26, h27, h⟩ := h
  refine LE.r (v := (Value.agg #[(Value.int .i64 t22), (Value.int .i64 t24), (Value.int .u32 t26)])) (Wn.no rfl) rfl (R.ldA ag26 sz26 rfl rfl (Cs.cons h23 (Cs.cons h25 (Cs.cons h27 Cs.nil)))) ?_
  refine LE.c (Wn.no rfl) rfl (R.call bd21 (Ls.cons rfl Ls.nil) rfl) (Calls.mono h ?_)
  rintro _ w29 ⟨r28, rfl, h⟩
  refine ⟨_, rfl, ?_⟩
  refine LE.p (v := (Value.bool (!r28))) (Wn.no rfl) rfl (R.not rfl) ?_
  refine LE.nil ?_
  refine WE.condT rfl (b := (!r28)) rfl ?_ ?_
  · intro hb30
    replace h := M.ite_t h hb30
    refine WE.seq ?_
    obtain ⟨J31, hJ31, h⟩ := M.join_use h
    refine WE.regJ (fun e w => ∃ (x32 : Bool), J31 x32 w ∧ e 2 = (Value.bool x32)) ?_ ?_
    · clear hJ31
      refine LE.p (v := (SV.v r9)) (Wn.no rfl) rfl (R.move rfl) ?_
      refine LE.p (v := (Value.int .i64 (r9.len : Int))) (Wn.no rfl) rfl (R.len sl23 rfl) ?_
      refine LE.p (v := (Value.bool ((r9.len : Int) == (0 : Int)))) (Wn.no rfl) rfl (R.eql rfl rfl) ?_
      refine LE.p (v := (Value.bool ((r9.len : Int) == (0 : Int)))) (Wn.no rfl) rfl (R.move rfl) ?_
      rcases M.ite_use h with ⟨hb33, h⟩ | ⟨hb33, h⟩
      · refine LE.p (v := (Value.int .i64 r10)) (Wn.yes 3 24 true rfl rfl rfl (congrArg Value.bool hb33)) rfl (R.move rfl) ?_
        refine LE.p (v := (Value.bool (r10 == (12 : Int)))) (Wn.yes 3 24 true rfl rfl rfl (congrArg Value.bool hb33)) rfl (R.eql rfl rfl) ?_
        refine LE.p (v := (Value.bool (r10 == (12 : Int)))) (Wn.no rfl) rfl (R.pickT (congrArg Value.bool hb33) rfl) ?_
        refine LE.p (v := (Value.bool (r10 == (12 : Int)))) (Wn.no rfl) rfl (R.assign rfl) ?_
        refine LE.nil ?_
        exact ⟨_, h, rfl⟩
      · refine LE.u (Un.no 3 24 true rfl rfl rfl (congrArg Value.bool hb33)) ?_
        refine LE.u (Un.no 3 24 true rfl rfl rfl (congrArg Value.bool hb33)) ?_
        refine LE.p (v := (Value.bool false)) (Wn.no rfl) rfl (R.pickF (congrArg Value.bool hb33) rfl) ?_
        refine LE.p (v := (Value.bool false)) (Wn.no rfl) rfl (R.assign rfl) ?_
        refine LE.nil ?_
        exact ⟨_, h, rfl⟩
    · rintro e34 w35 ⟨x32, h, f36⟩
      subst hJ31
      refine WE.ret ?_
      exact ⟨_, (Res.tmp f36 Res.nil), _, rfl, h⟩
  · intro hb30
    replace h := M.ite_f h hb30
    refine WE.skip ?_
    refine WE.seq ?_
    obtain ⟨J37, hJ37, h⟩ := M.join_use h
    refine WE.drawJ (fun e w => ∃ (x38 : Bool), J37 x38 w ∧ e 2 = (Value.bool x38)) mix ?_ ?_
    · clear hJ37
      obtain ⟨w39, hww39, h⟩ := M.drew_use h
      rw [← hww39]
      clear hww39
      refine DE.t 0 (v := (SV.v r9)) rfl (by kernel_rfl) (Wn.no rfl) rfl (R.move rfl) ?_
      obtain ⟨t40, h41, h⟩ := h
      refine DE.hold 1 (fun w => (convert 23 9 (SV.v r9)).run Try.prog w = .ok (.string t40) w) (v := (Value.string t40)) rfl (by kernel_rfl) (Wn.no rfl) rfl h41 (fun w hs => R.b2s (s := r9) hs rfl) ?_
      obtain ⟨t42, h43, h⟩ := h
      obtain ⟨t44, h45, h⟩ := h
      obtain ⟨t46, h47, h⟩ := h
      refine DE.main 2 (by kernel_rfl) ?_
      refine One.r 2 (v := (Value.agg #[(Value.int .i64 t42), (Value.int .i64 t44), (Value.int .u32 t46)])) rfl (Wn.no rfl) rfl (R.ldA ag26 sz26 rfl rfl (Cs.cons h43 (Cs.cons h45 (Cs.cons h47 Cs.nil)))) (.inl rfl) ?_
      refine DE.main 3 (by kernel_rfl) ?_
      refine One.c 3 rfl (Wn.no rfl) rfl (R.call bd9 (Ls.cons rfl Ls.nil) rfl) (Calls.mono h ?_)
      rintro _ w49 ⟨r48, rfl, h⟩
      obtain ⟨k50, h⟩ := h
      refine ⟨_, rfl, ⟨fun _ => k50, trivial⟩, ?_⟩
      obtain ⟨t51, h52, h⟩ := h
      refine DE.main 4 (by kernel_rfl) ?_
      refine One.r 4 (v := (Value.string t51)) rfl (Wn.no rfl) rfl (R.b2s (s := r48) h52 rfl) (.inl rfl) ?_
      refine DE.t 5 (v := (Value.bool (t40.toList == t51.toList))) rfl (by kernel_rfl) (Wn.no rfl) rfl (R.seql rfl rfl) ?_
      refine DE.t 6 (v := (Value.bool (t40.toList == t51.toList))) rfl (by kernel_rfl) (Wn.no rfl) rfl (R.move rfl) ?_
      rcases M.ite_use h with ⟨hb53, h⟩ | ⟨hb53, h⟩
      · refine DE.t 7 (v := (Value.int .i64 r10)) rfl (by kernel_rfl) (Wn.yes 6 34 true rfl rfl rfl (congrArg Value.bool hb53)) rfl (R.move rfl) ?_
        refine DE.t 8 (v := (Value.bool (r10 == (0 : Int)))) rfl (by kernel_rfl) (Wn.yes 6 34 true rfl rfl rfl (congrArg Value.bool hb53)) rfl (R.eql rfl rfl) ?_
        refine DE.t 9 (v := (Value.bool (r10 == (0 : Int)))) rfl (by kernel_rfl) (Wn.no rfl) rfl (R.pickT (congrArg Value.bool hb53) rfl) ?_
        refine DE.t 10 (v := (Value.bool (r10 == (0 : Int)))) rfl (by kernel_rfl) (Wn.no rfl) rfl (R.assign rfl) ?_
        refine DE.done (by kernel_rfl) ?_
        exact ⟨_, h, rfl⟩
      · refine DE.u 7 rfl (by kernel_rfl) (Un.no 6 34 true rfl rfl rfl (congrArg Value.bool hb53)) ?_
        refine DE.u 8 rfl (by kernel_rfl) (Un.no 6 34 true rfl rfl rfl (congrArg Value.bool hb53)) ?_
        refine DE.t 9 (v := (Value.bool false)) rfl (by kernel_rfl) (Wn.no rfl) rfl (R.pickF (congrArg Value.bool hb53) rfl) ?_
        refine DE.t 10 (v := (Value.bool false)) rfl (by kernel_rfl) (Wn.no rfl) rfl (R.assign rfl) ?_
        refine DE.done (by kernel_rfl) ?_
        exact ⟨_, h, rfl⟩
    · rintro e54 w55 ⟨x38, h, f56⟩
      subst hJ37
      refine WE.ret ?_
      exact ⟨_, (Res.tmp f56 Res.nil), _, rfl, h⟩
end Go.Proofs.Ytdlefnpnnpohmaa
