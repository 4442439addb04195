/-
  Printed by gen.py: the formula of each function, and that it holds of the function.
-/
import Derived.Test.YtobnlhfkggeahaaTy
namespace Go.Proofs.Ytobnlhfkggeahaa
set_option linter.unusedVariables false
set_option linter.unusedSimpArgs false
open Go.Sp
set_option linter.unusedVariables false
/-- The formula of signpost.signpostlaw4.WireNumbers. -/
def F3  (K : Bool → World → Prop) (w0 : World) : Prop :=
M.loop1 (fun (J2 : Int → World → Prop) (x1 : Int) (w3 : World) => 
M.ite (decide (x1 < (6 : Int))) (
M.loop1 (fun (J13 : Int → World → Prop) (x12 : Int) (w14 : World) => 
M.ite (decide (x12 ≤ (4 : Int))) (
M.new (.cells #[(Value.int .i64 (-1 : Int)), (Value.int .i64 (0 : Int)), (Value.int .i64 (1 : Int)), (Value.int .i64 x1), (Value.int .i64 (IntKind.i64.wrap (x1 + (1 : Int)))), (Value.int .i64 (1099511627776 : Int))] 3) w14 fun b26 w24 =>
M.loop1 (fun (J28 : Int → World → Prop) (x27 : Int) (w29 : World) => 
M.ite (decide (x27 < ((SV.mk (some b26) 6 6).len : Int))) (
M.idx (SV.mk (some b26) 6 6) x27 1 fun a42 =>
M.ld (Value.int .i64) (a42.add (x27.toNat * 1)) w29 fun t46 =>
M.new (.cells #[(Value.int .u8 (1 : Int)), (Value.int .u8 (2 : Int)), (Value.int .u8 (3 : Int)), (Value.int .u8 (4 : Int)), (Value.int .u8 (5 : Int)), (Value.int .u8 (6 : Int))] 5) w29 fun b50 w48 =>
M.bnd (0 : Int) x1 (SV.mk (some b50) 6 6) <|
Calls Try.prog 7 #[(SV.v (SV.sub (SV.mk (some b50) 6 6) (Int.toNat (0 : Int)) (Int.toNat x1) 1))] w48 (R7 fun r55 w56 =>
M.new (.cells #[(SV.v (SV.sub (SV.mk (some b50) 6 6) (Int.toNat (0 : Int)) (Int.toNat x1) 1)), (Value.int .i64 (0 : Int)), (Value.bool false)] 28) w56 fun b58 w57 =>
M.join (fun (x60 : Bool) (w74 : World) => 
M.ite x60 (
K false w74) (
J28 (IntKind.i64.wrap (x27 + (1 : Int))) w74)) fun J59 => 
M.ite (Option.isNone r55) (
J59 true w57) (
Calls Try.prog 8 #[(Value.pointer r55), (Value.pointer (some b58)), (Value.agg #[(Value.int .i64 x12), (Value.int .i64 t46), (SV.v SV.nil)])] w57 (R8 fun r62 w63 =>
M.ite (!r62) (
J59 true w63) (
Calls Try.prog 8 #[(Value.pointer r55), (Value.pointer (some b58)), (Value.agg #[(Value.int .i64 (1 : Int)), (Value.int .i64 (0 : Int)), (SV.v SV.nil)])] w63 (R8 fun r65 w66 =>
M.ite (!r65) (
J59 true w66) (
Calls Try.prog 8 #[(Value.pointer r55), (Value.pointer (some b58)), (Value.agg #[(Value.int .i64 (4 : Int)), (Value.int .i64 (0 : Int)), (SV.v SV.nil)])] w66 (R8 fun r68 w69 =>
M.ite (!r68) (
J59 true w69) (
Calls Try.prog 8 #[(Value.pointer r55), (Value.pointer (some b58)), (Value.agg #[(Value.int .i64 (2 : Int)), (Value.int .i64 (0 : Int)), (SV.v SV.nil)])] w69 (R8 fun r71 w72 =>
J59 (!r71) w72)))))))))) (
J13 (IntKind.i64.wrap (x12 + (1 : Int))) w29)) (0 : Int) w24) (
J2 (IntKind.i64.wrap (x1 + (1 : Int))) w14)) (1 : Int) w3) (
Calls Try.prog 9 #[] w3 (R9 fun r82 w83 =>
K r82 w83))) (0 : Int) w0
theorem F3_ok {w0 : World}  {K : Bool → World → Prop} (h : F3 K w0) : Calls Try.prog 3 #[] w0 (R3 K) := by
  refine calls_of_WE (args := []) (rs := [.tmp 0]) Try.func3 rfl (N := 67) rfl rfl rfl rfl ?_
  refine WE.seq ?_
  refine WE.reg ?_
  refine LE.p (v := (Value.bool false)) (Wn.no rfl) rfl (R.assign rfl) ?_
  refine LE.nil ?_
  refine WE.seq ?_
  refine WE.seq ?_
  refine WE.reg ?_
  refine LE.p (v := (Value.int .i64 (0 : Int))) (Wn.no rfl) rfl (R.assign rfl) ?_
  refine LE.nil ?_
  refine WE.block ?_
  obtain ⟨I6, ⟨n5, h⟩, hr7⟩ := h
  refine WE.loop (fun n e w => ∃ (x1 : Int), I6 n x1 w ∧ e 1 = (Value.int .i64 x1)) n5 ⟨_, h, rfl⟩ ?_
  clear h
  rintro n5 e4 w3 ⟨x1, h, f10⟩
  replace h := hr7 n5 x1 w3 h
  refine WE.seq ?_
  refine WE.seq ?_
  refine WE.reg ?_
  refine LE.p (v := (Value.int .i64 x1)) (Wn.no rfl) rfl (R.move f10) ?_
  refine LE.p (v := (Value.bool (decide (x1 < (6 : Int))))) (Wn.no rfl) rfl (R.lss rfl rfl) ?_
  refine LE.nil ?_
  refine WE.condT rfl (b := (decide (x1 < (6 : Int)))) rfl ?_ ?_
  · intro hb11
    replace h := M.ite_t h hb11
    refine WE.skip ?_
    refine WE.seq ?_
    refine WE.block ?_
    refine WE.seq ?_
    refine WE.reg ?_
    refine LE.p (v := (Value.int .i64 (1 : Int))) (Wn.no rfl) rfl (R.assign rfl) ?_
    refine LE.nil ?_
    refine WE.block ?_
    obtain ⟨I17, ⟨n16, h⟩, hr18⟩ := h
    refine WE.loop (fun n e w => ∃ (x12 : Int), I17 n x12 w ∧ e 1 = (Value.int .i64 x1) ∧ e 2 = (Value.int .i64 x12)) n16 ⟨_, h, f10, rfl⟩ ?_
    clear h
    rintro n16 e15 w14 ⟨x12, h, f21, f22⟩
    replace h := hr18 n16 x12 w14 h
    refine WE.seq ?_
    refine WE.seq ?_
    refine WE.reg ?_
    refine LE.p (v := (Value.int .i64 x12)) (Wn.no rfl) rfl (R.move f22) ?_
    refine LE.p (v := (Value.bool (decide (x12 ≤ (4 : Int))))) (Wn.no rfl) rfl (R.leq rfl rfl) ?_
    refine LE.nil ?_
    refine WE.condT rfl (b := (decide (x12 ≤ (4 : Int)))) rfl ?_ ?_
    · intro hb23
      replace h := M.ite_t h hb23
      refine WE.skip ?_
      refine WE.seq ?_
      refine WE.block ?_
      refine WE.seq ?_
      refine WE.reg ?_
      refine LE.p (v := (Value.int .i64 x1)) (Wn.no rfl) rfl (R.move f21) ?_
      refine LE.p (v := (Value.int .i64 x1)) (Wn.no rfl) rfl (R.move f21) ?_
      refine LE.p (v := (Value.int .i64 (IntKind.i64.wrap (x1 + (1 : Int))))) (Wn.no rfl) rfl (R.add rfl rfl) ?_
      obtain ⟨b26, hpb26, w24, hww24, h⟩ := M.new_use h
      refine LE.r (v := (SV.v (SV.mk (some b26) 6 6))) (Wn.no rfl) rfl (R.bsl (by exact (Ls.cons (R.Pr rfl) (Ls.cons (R.Pr rfl) (Ls.cons (R.Pr rfl) (Ls.cons (R.Pr rfl) (Ls.cons (R.Pr rfl) (Ls.cons (R.Pr rfl) Ls.nil))))))) (fun w => bs22_6 (-1 : Int) (0 : Int) (1 : Int) x1 (IntKind.i64.wrap (x1 + (1 : Int))) (1099511627776 : Int) w) hpb26 hww24) ?_
      refine LE.p (v := (Value.int .i64 ((SV.mk (some b26) 6 6).len : Int))) (Wn.no rfl) rfl (R.len sl22 rfl) ?_
      refine LE.p (v := (Value.int .i64 (0 : Int))) (Wn.no rfl) rfl (R.move rfl) ?_
      refine LE.nil ?_
      refine WE.block ?_
      obtain ⟨I32, ⟨n31, h⟩, hr33⟩ := h
      refine WE.loop (fun n e w => ∃ (x27 : Int), I32 n x27 w ∧ e 1 = (Value.int .i64 x1) ∧ e 2 = (Value.int .i64 x12) ∧ e 19 = (SV.v (SV.mk (some b26) 6 6)) ∧ e 20 = (Value.int .i64 ((SV.mk (some b26) 6 6).len : Int)) ∧ e 21 = (Value.int .i64 x27)) n31 ⟨_, h, f21, f22, rfl, rfl, rfl⟩ ?_
      clear h
      rintro n31 e30 w29 ⟨x27, h, f36, f37, f38, f39, f40⟩
      replace h := hr33 n31 x27 w29 h
      refine WE.seq ?_
      refine WE.reg ?_
      refine LE.p (v := (Value.bool (decide (x27 < ((SV.mk (some b26) 6 6).len : Int))))) (Wn.no rfl) rfl (R.lss f40 f39) ?_
      refine LE.nil ?_
      refine WE.seq ?_
      refine WE.condT rfl (b := (decide (x27 < ((SV.mk (some b26) 6 6).len : Int)))) rfl ?_ ?_
      · intro hb41
        replace h := M.ite_t h hb41
        refine WE.skip ?_
        refine WE.seq ?_
        refine WE.block ?_
        refine WE.seq ?_
        refine WE.reg ?_
        obtain ⟨a42, h43, h44, h45, h⟩ := h
        refine LE.p (v := (Value.pointer (some (a42.add (x27.toNat * 1))))) (Wn.no rfl) rfl (R.idx (s := (SV.mk (some b26) 6 6)) sl22 f38 f40 h43 h44 h45) ?_
        obtain ⟨t46, h47, h⟩ := h
        refine LE.r (v := (Value.int .i64 t46)) (Wn.no rfl) rfl (R.ld sc3 rfl h47) ?_
        refine LE.p (v := (Value.int .i64 t46)) (Wn.no rfl) rfl (R.assign rfl) ?_
        refine LE.nil ?_
        refine WE.seq ?_
        refine WE.reg ?_
        obtain ⟨b50, hpb50, w48, hww48, h⟩ := M.new_use h
        refine LE.r (v := (SV.v (SV.mk (some b50) 6 6))) (Wn.no rfl) rfl (R.bsl (by exact (Ls.cons (R.Pr rfl) (Ls.cons (R.Pr rfl) (Ls.cons (R.Pr rfl) (Ls.cons (R.Pr rfl) (Ls.cons (R.Pr rfl) (Ls.cons (R.Pr rfl) Ls.nil))))))) (fun w => bs23_6 (1 : Int) (2 : Int) (3 : Int) (4 : Int) (5 : Int) (6 : Int) w) hpb50 hww48) ?_
        refine LE.p (v := (Value.int .i64 x1)) (Wn.no rfl) rfl (R.move f36) ?_
        obtain ⟨h51, h52, h53, h⟩ := h
        refine LE.p (v := (SV.v (SV.sub (SV.mk (some b50) 6 6) (Int.toNat (0 : Int)) (Int.toNat x1) 1))) (Wn.no rfl) rfl (R.slc (s := (SV.mk (some b50) 6 6)) (lo := (0 : Int)) (hi := x1) _ _ sl23 rfl rfl rfl h51 h52 h53) ?_
        refine LE.p (v := (SV.v (SV.sub (SV.mk (some b50) 6 6) (Int.toNat (0 : Int)) (Int.toNat x1) 1))) (Wn.no rfl) rfl (R.assign rfl) ?_
        refine LE.nil ?_
        refine WE.seq ?_
        refine WE.reg ?_
        refine LE.p (v := (SV.v (SV.sub (SV.mk (some b50) 6 6) (Int.toNat (0 : Int)) (Int.toNat x1) 1))) (Wn.no rfl) rfl (R.move rfl) ?_
        refine LE.c (Wn.no rfl) rfl (R.call bd7 (Ls.cons rfl Ls.nil) rfl) (Calls.mono h ?_)
        rintro _ w56 ⟨r55, rfl, h⟩
        refine ⟨_, rfl, ?_⟩
        refine LE.p (v := (Value.pointer r55)) (Wn.no rfl) rfl (R.assign rfl) ?_
        refine LE.nil ?_
        refine WE.seq ?_
        refine WE.reg ?_
        refine LE.p (v := (SV.v (SV.sub (SV.mk (some b50) 6 6) (Int.toNat (0 : Int)) (Int.toNat x1) 1))) (Wn.no rfl) rfl (R.move rfl) ?_
        refine LE.p (v := (Value.agg #[(SV.v (SV.sub (SV.mk (some b50) 6 6) (Int.toNat (0 : Int)) (Int.toNat x1) 1)), (Value.int .i64 (0 : Int)), (Value.bool false)])) (Wn.no rfl) rfl (R.bld (by exact (Ls.cons (R.Pr rfl) Ls.nil)) (fun w => bu28_0 (SV.sub (SV.mk (some b50) 6 6) (Int.toNat (0 : Int)) (Int.toNat x1) 1) w)) ?_
        obtain ⟨b58, hpb58, w57, hww57, h⟩ := M.new_use h
        refine LE.r (v := (Value.pointer (some b58))) (Wn.no rfl) rfl (R.box (cs := #[(SV.v (SV.sub (SV.mk (some b50) 6 6) (Int.toNat (0 : Int)) (Int.toNat x1) 1)), (Value.int .i64 (0 : Int)), (Value.bool false)]) rfl rfl hpb58 hww57) ?_
        refine LE.p (v := (Value.pointer (some b58))) (Wn.no rfl) rfl (R.assign rfl) ?_
        refine LE.nil ?_
        refine WE.seq ?_
        obtain ⟨J59, hJ59, h⟩ := M.join_use h
        refine WE.regJ (fun e w => ∃ (x60 : Bool), J59 x60 w ∧ e 1 = (Value.int .i64 x1) ∧ e 2 = (Value.int .i64 x12) ∧ e 19 = (SV.v (SV.mk (some b26) 6 6)) ∧ e 20 = (Value.int .i64 ((SV.mk (some b26) 6 6).len : Int)) ∧ e 21 = (Value.int .i64 x27) ∧ e 64 = (Value.bool x60)) ?_ ?_
        · clear hJ59
          refine LE.p (v := (Value.pointer r55)) (Wn.no rfl) rfl (R.move rfl) ?_
          refine LE.p (v := (Value.bool (Option.isNone r55))) (Wn.no rfl) rfl (R.peqNil pt24 rfl rfl) ?_
          refine LE.p (v := (Value.bool (Option.isNone r55))) (Wn.no rfl) rfl (R.move rfl) ?_
          rcases M.ite_use h with ⟨hb61, h⟩ | ⟨hb61, h⟩
          · refine LE.u (Un.no 2 35 false rfl rfl rfl (congrArg Value.bool hb61)) ?_
            refine LE.u (Un.no 2 35 false rfl rfl rfl (congrArg Value.bool hb61)) ?_
            refine LE.u (Un.no 2 35 false rfl rfl rfl (congrArg Value.bool hb61)) ?_
            refine LE.u (Un.no 2 35 false rfl rfl rfl (congrArg Value.bool hb61)) ?_
            refine LE.u (Un.no 2 35 false rfl rfl rfl (congrArg Value.bool hb61)) ?_
            refine LE.u (Un.no 2 35 false rfl rfl rfl (congrArg Value.bool hb61)) ?_
            refine LE.u (Un.no 2 35 false rfl rfl rfl (congrArg Value.bool hb61)) ?_
            refine LE.p (v := (Value.bool true)) (Wn.no rfl) rfl (R.pickT (congrArg Value.bool hb61) rfl) ?_
            refine LE.p (v := (Value.bool true)) (Wn.no rfl) rfl (R.move rfl) ?_
            refine LE.u (Un.no 11 44 false rfl rfl rfl rfl) ?_
            refine LE.u (Un.no 11 44 false rfl rfl rfl rfl) ?_
            refine LE.u (Un.no 11 44 false rfl rfl rfl rfl) ?_
            refine LE.u (Un.no 11 44 false rfl rfl rfl rfl) ?_
            refine LE.u (Un.no 11 44 false rfl rfl rfl rfl) ?_
            refine LE.p (v := (Value.bool true)) (Wn.no rfl) rfl (R.pickT rfl rfl) ?_
            refine LE.p (v := (Value.bool true)) (Wn.no rfl) rfl (R.move rfl) ?_
            refine LE.u (Un.no 18 51 false rfl rfl rfl rfl) ?_
            refine LE.u (Un.no 18 51 false rfl rfl rfl rfl) ?_
            refine LE.u (Un.no 18 51 false rfl rfl rfl rfl) ?_
            refine LE.u (Un.no 18 51 false rfl rfl rfl rfl) ?_
            refine LE.u (Un.no 18 51 false rfl rfl rfl rfl) ?_
            refine LE.p (v := (Value.bool true)) (Wn.no rfl) rfl (R.pickT rfl rfl) ?_
            refine LE.p (v := (Value.bool true)) (Wn.no rfl) rfl (R.move rfl) ?_
            refine LE.u (Un.no 25 58 false rfl rfl rfl rfl) ?_
            refine LE.u (Un.no 25 58 false rfl rfl rfl rfl) ?_
            refine LE.u (Un.no 25 58 false rfl rfl rfl rfl) ?_
            refine LE.u (Un.no 25 58 false rfl rfl rfl rfl) ?_
            refine LE.u (Un.no 25 58 false rfl rfl rfl rfl) ?_
            refine LE.p (v := (Value.bool true)) (Wn.no rfl) rfl (R.pickT rfl rfl) ?_
            refine LE.nil ?_
            exact ⟨_, h, f36, f37, f38, f39, f40, rfl⟩
          · refine LE.p (v := (Value.pointer r55)) (Wn.yes 2 35 false rfl rfl rfl (congrArg Value.bool hb61)) rfl (R.move rfl) ?_
            refine LE.p (v := (Value.pointer (some b58))) (Wn.yes 2 35 false rfl rfl rfl (congrArg Value.bool hb61)) rfl (R.move rfl) ?_
            refine LE.p (v := (Value.int .i64 x12)) (Wn.yes 2 35 false rfl rfl rfl (congrArg Value.bool hb61)) rfl (R.move f37) ?_
            refine LE.p (v := (Value.int .i64 t46)) (Wn.yes 2 35 false rfl rfl rfl (congrArg Value.bool hb61)) rfl (R.move rfl) ?_
            refine LE.p (v := (Value.agg #[(Value.int .i64 x12), (Value.int .i64 t46), (SV.v SV.nil)])) (Wn.yes 2 35 false rfl rfl rfl (congrArg Value.bool hb61)) rfl (R.bld (by exact (Ls.cons (R.Pr rfl) (Ls.cons (R.Pr rfl) Ls.nil))) (fun w => bu31_0_1 x12 t46 w)) ?_
            refine LE.c (Wn.yes 2 35 false rfl rfl rfl (congrArg Value.bool hb61)) rfl (R.call bd8 (Ls.cons rfl (Ls.cons rfl (Ls.cons rfl Ls.nil))) rfl) (Calls.mono h ?_)
            rintro _ w63 ⟨r62, rfl, h⟩
            refine ⟨_, rfl, ?_⟩
            refine LE.p (v := (Value.bool (!r62))) (Wn.yes 2 35 false rfl rfl rfl (congrArg Value.bool hb61)) rfl (R.not rfl) ?_
            refine LE.p (v := (Value.bool (!r62))) (Wn.no rfl) rfl (R.pickF (congrArg Value.bool hb61) rfl) ?_
            refine LE.p (v := (Value.bool (!r62))) (Wn.no rfl) rfl (R.move rfl) ?_
            rcases M.ite_use h with ⟨hb64, h⟩ | ⟨hb64, h⟩
            · refine LE.u (Un.no 11 44 false rfl rfl rfl (congrArg Value.bool hb64)) ?_
              refine LE.u (Un.no 11 44 false rfl rfl rfl (congrArg Value.bool hb64)) ?_
              refine LE.u (Un.no 11 44 false rfl rfl rfl (congrArg Value.bool hb64)) ?_
              refine LE.u (Un.no 11 44 false rfl rfl rfl (congrArg Value.bool hb64)) ?_
              refine LE.u (Un.no 11 44 false rfl rfl rfl (congrArg Value.bool hb64)) ?_
              refine LE.p (v := (Value.bool true)) (Wn.no rfl) rfl (R.pickT (congrArg Value.bool hb64) rfl) ?_
              refine LE.p (v := (Value.bool true)) (Wn.no rfl) rfl (R.move rfl) ?_
              refine LE.u (Un.no 18 51 false rfl rfl rfl rfl) ?_
              refine LE.u (Un.no 18 51 false rfl rfl rfl rfl) ?_
              refine LE.u (Un.no 18 51 false rfl rfl rfl rfl) ?_
              refine LE.u (Un.no 18 51 false rfl rfl rfl rfl) ?_
              refine LE.u (Un.no 18 51 false rfl rfl rfl rfl) ?_
              refine LE.p (v := (Value.bool true)) (Wn.no rfl) rfl (R.pickT rfl rfl) ?_
              refine LE.p (v := (Value.bool true)) (Wn.no rfl) rfl (R.move rfl) ?_
              refine LE.u (Un.no 25 58 false rfl rfl rfl rfl) ?_
              refine LE.u (Un.no 25 58 false rfl rfl rfl rfl) ?_
              refine LE.u (Un.no 25 58 false rfl rfl rfl rfl) ?_
              refine LE.u (Un.no 25 58 false rfl rfl rfl rfl) ?_
              refine LE.u (Un.no 25 58 false rfl rfl rfl rfl) ?_
              refine LE.p (v := (Value.bool true)) (Wn.no rfl) rfl (R.pickT rfl rfl) ?_
              refine LE.nil ?_
              exact ⟨_, h, f36, f37, f38, f39, f40, rfl⟩
            · refine LE.p (v := (Value.pointer r55)) (Wn.yes 11 44 false rfl rfl rfl (congrArg Value.bool hb64)) rfl (R.move rfl) ?_
              refine LE.p (v := (Value.pointer (some b58))) (Wn.yes 11 44 false rfl rfl rfl (congrArg Value.bool hb64)) rfl (R.move rfl) ?_
              refine LE.p (v := (Value.agg #[(Value.int .i64 (1 : Int)), (Value.int .i64 (0 : Int)), (SV.v SV.nil)])) (Wn.yes 11 44 false rfl rfl rfl (congrArg Value.bool hb64)) rfl (R.bld (by exact (Ls.cons (R.Pr rfl) Ls.nil)) (fun w => bu31_0 (1 : Int) w)) ?_
              refine LE.c (Wn.yes 11 44 false rfl rfl rfl (congrArg Value.bool hb64)) rfl (R.call bd8 (Ls.cons rfl (Ls.cons rfl (Ls.cons rfl Ls.nil))) rfl) (Calls.mono h ?_)
              rintro _ w66 ⟨r65, rfl, h⟩
              refine ⟨_, rfl, ?_⟩
              refine LE.p (v := (Value.bool (!r65))) (Wn.yes 11 44 false rfl rfl rfl (congrArg Value.bool hb64)) rfl (R.not rfl) ?_
              refine LE.p (v := (Value.bool (!r65))) (Wn.no rfl) rfl (R.pickF (congrArg Value.bool hb64) rfl) ?_
              refine LE.p (v := (Value.bool (!r65))) (Wn.no rfl) rfl (R.move rfl) ?_
              rcases M.ite_use h with ⟨hb67, h⟩ | ⟨hb67, h⟩
              · refine LE.u (Un.no 18 51 false rfl rfl rfl (congrArg Value.bool hb67)) ?_
                refine LE.u (Un.no 18 51 false rfl rfl rfl (congrArg Value.bool hb67)) ?_
                refine LE.u (Un.no 18 51 false rfl rfl rfl (congrArg Value.bool hb67)) ?_
                refine LE.u (Un.no 18 51 false rfl rfl rfl (congrArg Value.bool hb67)) ?_
                refine LE.u (Un.no 18 51 false rfl rfl rfl (congrArg Value.bool hb67)) ?_
                refine LE.p (v := (Value.bool true)) (Wn.no rfl) rfl (R.pickT (congrArg Value.bool hb67) rfl) ?_
                refine LE.p (v := (Value.bool true)) (Wn.no rfl) rfl (R.move rfl) ?_
                refine LE.u (Un.no 25 58 false rfl rfl rfl rfl) ?_
                refine LE.u (Un.no 25 58 false rfl rfl rfl rfl) ?_
                refine LE.u (Un.no 25 58 false rfl rfl rfl rfl) ?_
                refine LE.u (Un.no 25 58 false rfl rfl rfl rfl) ?_
                refine LE.u (Un.no 25 58 false rfl rfl rfl rfl) ?_
                refine LE.p (v := (Value.bool true)) (Wn.no rfl) rfl (R.pickT rfl rfl) ?_
                refine LE.nil ?_
                exact ⟨_, h, f36, f37, f38, f39, f40, rfl⟩
              · refine LE.p (v := (Value.pointer r55)) (Wn.yes 18 51 false rfl rfl rfl (congrArg Value.bool hb67)) rfl (R.move rfl) ?_
                refine LE.p (v := (Value.pointer (some b58))) (Wn.yes 18 51 false rfl rfl rfl (congrArg Value.bool hb67)) rfl (R.move rfl) ?_
                refine LE.p (v := (Value.agg #[(Value.int .i64 (4 : Int)), (Value.int .i64 (0 : Int)), (SV.v SV.nil)])) (Wn.yes 18 51 false rfl rfl rfl (congrArg Value.bool hb67)) rfl (R.bld (by exact (Ls.cons (R.Pr rfl) (Ls.cons (R.Pr rfl) Ls.nil))) (fun w => bu31_0_1 (4 : Int) (0 : Int) w)) ?_
                refine LE.c (Wn.yes 18 51 false rfl rfl rfl (congrArg Value.bool hb67)) rfl (R.call bd8 (Ls.cons rfl (Ls.cons rfl (Ls.cons rfl Ls.nil))) rfl) (Calls.mono h ?_)
                rintro _ w69 ⟨r68, rfl, h⟩
                refine ⟨_, rfl, ?_⟩
                refine LE.p (v := (Value.bool (!r68))) (Wn.yes 18 51 false rfl rfl rfl (congrArg Value.bool hb67)) rfl (R.not rfl) ?_
                refine LE.p (v := (Value.bool (!r68))) (Wn.no rfl) rfl (R.pickF (congrArg Value.bool hb67) rfl) ?_
                refine LE.p (v := (Value.bool (!r68))) (Wn.no rfl) rfl (R.move rfl) ?_
                rcases M.ite_use h with ⟨hb70, h⟩ | ⟨hb70, h⟩
                · refine LE.u (Un.no 25 58 false rfl rfl rfl (congrArg Value.bool hb70)) ?_
                  refine LE.u (Un.no 25 58 false rfl rfl rfl (congrArg Value.bool hb70)) ?_
                  refine LE.u (Un.no 25 58 false rfl rfl rfl (congrArg Value.bool hb70)) ?_
                  refine LE.u (Un.no 25 58 false rfl rfl rfl (congrArg Value.bool hb70)) ?_
                  refine LE.u (Un.no 25 58 false rfl rfl rfl (congrArg Value.bool hb70)) ?_
                  refine LE.p (v := (Value.bool true)) (Wn.no rfl) rfl (R.pickT (congrArg Value.bool hb70) rfl) ?_
                  refine LE.nil ?_
                  exact ⟨_, h, f36, f37, f38, f39, f40, rfl⟩
                · refine LE.p (v := (Value.pointer r55)) (Wn.yes 25 58 false rfl rfl rfl (congrArg Value.bool hb70)) rfl (R.move rfl) ?_
                  refine LE.p (v := (Value.pointer (some b58))) (Wn.yes 25 58 false rfl rfl rfl (congrArg Value.bool hb70)) rfl (R.move rfl) ?_
                  refine LE.p (v := (Value.agg #[(Value.int .i64 (2 : Int)), (Value.int .i64 (0 : Int)), (SV.v SV.nil)])) (Wn.yes 25 58 false rfl rfl rfl (congrArg Value.bool hb70)) rfl (R.bld (by exact (Ls.cons (R.Pr rfl) Ls.nil)) (fun w => bu31_0 (2 : Int) w)) ?_
                  refine LE.c (Wn.yes 25 58 false rfl rfl rfl (congrArg Value.bool hb70)) rfl (R.call bd8 (Ls.cons rfl (Ls.cons rfl (Ls.cons rfl Ls.nil))) rfl) (Calls.mono h ?_)
                  rintro _ w72 ⟨r71, rfl, h⟩
                  refine ⟨_, rfl, ?_⟩
                  refine LE.p (v := (Value.bool (!r71))) (Wn.yes 25 58 false rfl rfl rfl (congrArg Value.bool hb70)) rfl (R.not rfl) ?_
                  refine LE.p (v := (Value.bool (!r71))) (Wn.no rfl) rfl (R.pickF (congrArg Value.bool hb70) rfl) ?_
                  refine LE.nil ?_
                  exact ⟨_, h, f36, f37, f38, f39, f40, rfl⟩
        · rintro e73 w74 ⟨x60, h, f75, f76, f77, f78, f79, f80⟩
          subst hJ59
          refine WE.condT rfl (b := x60) f80 ?_ ?_
          · intro hb81
            replace h := M.ite_t h hb81
            refine WE.seq ?_
            refine WE.reg ?_
            refine LE.p (v := (Value.bool false)) (Wn.no rfl) rfl (R.assign rfl) ?_
            refine LE.nil ?_
            refine WE.ret ?_
            exact ⟨_, (Res.tmp rfl Res.nil), _, rfl, h⟩
          · intro hb81
            replace h := M.ite_f h hb81
            refine WE.skip ?_
            refine WE.reg ?_
            refine LE.p (v := (Value.int .i64 (IntKind.i64.wrap (x27 + (1 : Int))))) (Wn.no rfl) rfl (R.add f79 rfl) ?_
            refine LE.p (v := (Value.int .i64 (IntKind.i64.wrap (x27 + (1 : Int))))) (Wn.no rfl) rfl (R.move rfl) ?_
            refine LE.nil ?_
            obtain ⟨m34, hm35, h⟩ := h
            exact ⟨m34, hm35, _, h, f75, f76, f77, f78, rfl⟩
      · intro hb41
        replace h := M.ite_f h hb41
        refine WE.exit ?_
        refine WE.reg ?_
        refine LE.p (v := (Value.int .i64 x12)) (Wn.no rfl) rfl (R.move f37) ?_
        refine LE.p (v := (Value.int .i64 (IntKind.i64.wrap (x12 + (1 : Int))))) (Wn.no rfl) rfl (R.add rfl rfl) ?_
        refine LE.p (v := (Value.int .i64 (IntKind.i64.wrap (x12 + (1 : Int))))) (Wn.no rfl) rfl (R.assign rfl) ?_
        refine LE.nil ?_
        obtain ⟨m19, hm20, h⟩ := h
        exact ⟨m19, hm20, _, h, f36, rfl⟩
    · intro hb23
      replace h := M.ite_f h hb23
      refine WE.exit ?_
      refine WE.reg ?_
      refine LE.p (v := (Value.int .i64 x1)) (Wn.no rfl) rfl (R.move f21) ?_
      refine LE.p (v := (Value.int .i64 (IntKind.i64.wrap (x1 + (1 : Int))))) (Wn.no rfl) rfl (R.add rfl rfl) ?_
      refine LE.p (v := (Value.int .i64 (IntKind.i64.wrap (x1 + (1 : Int))))) (Wn.no rfl) rfl (R.assign rfl) ?_
      refine LE.nil ?_
      obtain ⟨m8, hm9, h⟩ := h
      exact ⟨m8, hm9, _, h, rfl⟩
  · intro hb11
    replace h := M.ite_f h hb11
    refine WE.exit ?_
    refine WE.seq ?_
    refine WE.reg ?_
    refine LE.c (Wn.no rfl) rfl (R.call bd9 Ls.nil rfl) (Calls.mono h ?_)
    rintro _ w83 ⟨r82, rfl, h⟩
    refine ⟨_, rfl, ?_⟩
    refine LE.p (v := (Value.bool r82)) (Wn.no rfl) rfl (R.assign rfl) ?_
    refine LE.nil ?_
    refine WE.ret ?_
    exact ⟨_, (Res.tmp rfl Res.nil), _, rfl, h⟩
/-- The formula of signpost.signpostlaw4.WireLacks. -/
def F4 (p0 : SV) (p1 : SV) (K : Bool → World → Prop) (w0 : World) : Prop :=
Calls Try.prog 10 #[(SV.v p0), (Value.int .i64 (60 : Int))] w0 (R10 fun r1 w2 =>
Calls Try.prog 7 #[(SV.v r1)] w2 (R7 fun r3 w4 =>
M.join (fun (x6 : Bool) (w14 : World) => 
M.ite x6 (
K false w14) (
Calls Try.prog 13 #[(Value.pointer r3), (Value.int .i64 (r1.len : Int))] w14 (R13 fun r20 w21 =>
M.join (fun (x23 : Bool) (w35 : World) => 
M.ite x23 (
K false w35) (
M.join (fun (x41 : Bool) (w48 : World) => 
M.ite x41 (
K false w48) (
M.loop1 (fun (J54 : Int → World → Prop) (x53 : Int) (w55 : World) => 
M.join (fun (x66 : Bool) (w69 : World) => 
M.ite x66 (
M.join (fun (x76 : Bool) (w101 : World) => 
M.ite x76 (
K false w101) (
J54 (IntKind.i64.wrap (x53 + (1 : Int))) w101)) fun J75 => 
Calls Try.prog 14 #[(Value.pointer r3)] w69 (R14 fun r77 w78 =>
M.ite (r77 != (0 : Int)) (
J75 true w78) (
Calls Try.prog 15 #[(Value.pointer r3)] w78 (R15 fun r80 w81 =>
M.ite (r80 != (0 : Int)) (
J75 true w81) (
Calls Try.prog 16 #[(Value.pointer r3)] w81 (R16 fun r83 w84 =>
M.ite (r83 != (0 : Int)) (
J75 true w84) (
M.idx p1 x53 3 fun a86 =>
M.ld (Value.int .i64) ((a86.add (x53.toNat * 3)).add 1) w84 fun t90 =>
Calls Try.prog 13 #[(Value.pointer r3), (Value.int .i64 t90)] w84 (R13 fun r92 w93 =>
M.ite ((r92.len : Int) != (0 : Int)) (
J75 true w93) (
Calls Try.prog 11 #[(Value.pointer r3)] w93 (R11 fun r95 w96 =>
M.ite (r95 != (0 : Int)) (
J75 true w96) (
Calls Try.prog 12 #[(Value.pointer r3)] w96 (R12 fun r98 w99 =>
J75 r98 w99)))))))))))) (
Calls Try.prog 9 #[] w69 (R9 fun r107 w108 =>
K r107 w108))) fun J65 => 
M.ite (decide (x53 < (p1.len : Int))) (
J65 (decide (x53 < (20 : Int))) w55) (
J65 false w55)) (0 : Int) w48)) fun J40 => 
Calls Try.prog 13 #[(Value.pointer r3), (Value.int .i64 (1 : Int))] w35 (R13 fun r42 w43 =>
M.ite ((r42.len : Int) != (0 : Int)) (
J40 true w43) (
Calls Try.prog 12 #[(Value.pointer r3)] w43 (R12 fun r45 w46 =>
J40 r45 w46))))) fun J22 => 
M.b2s Try.prog 23 9 r20 w21 fun t24 =>
M.b2s Try.prog 23 9 r1 w21 fun t26 =>
M.ite (!(t24.toList == t26.toList)) (
J22 true w21) (
Calls Try.prog 11 #[(Value.pointer r3)] w21 (R11 fun r29 w30 =>
M.ite (r29 != (0 : Int)) (
J22 true w30) (
Calls Try.prog 12 #[(Value.pointer r3)] w30 (R12 fun r32 w33 =>
J22 (!r32) w33))))))) fun J5 => 
M.ite (Option.isNone r3) (
J5 true w4) (
Calls Try.prog 11 #[(Value.pointer r3)] w4 (R11 fun r8 w9 =>
M.ite (r8 != (r1.len : Int)) (
J5 true w9) (
Calls Try.prog 12 #[(Value.pointer r3)] w9 (R12 fun r11 w12 =>
J5 (!r11) w12))))))
theorem F4_ok {w0 : World} {p0 : SV} {p1 : SV} {K : Bool → World → Prop} (h : F4 p0 p1 K w0) : Calls Try.prog 4 #[(SV.v p0), (SV.v p1)] w0 (R4 K) := by
  refine calls_of_WE (args := [(SV.v p0), (SV.v p1)]) (rs := [.tmp 4]) Try.func4 rfl (N := 97) rfl rfl rfl rfl ?_
  refine WE.seq ?_
  refine WE.reg ?_
  refine LE.p (v := (Value.bool false)) (Wn.no rfl) rfl (R.assign rfl) ?_
  refine LE.nil ?_
  refine WE.seq ?_
  refine WE.reg ?_
  refine LE.p (v := (SV.v p0)) (Wn.no rfl) rfl (R.move rfl) ?_
  refine LE.c (Wn.no rfl) rfl (R.call bd10 (Ls.cons rfl (Ls.cons rfl Ls.nil)) rfl) (Calls.mono h ?_)
  rintro _ w2 ⟨r1, rfl, h⟩
  refine ⟨_, rfl, ?_⟩
  refine LE.p (v := (SV.v r1)) (Wn.no rfl) rfl (R.assign rfl) ?_
  refine LE.nil ?_
  refine WE.seq ?_
  refine WE.reg ?_
  refine LE.p (v := (SV.v r1)) (Wn.no rfl) rfl (R.move rfl) ?_
  refine LE.c (Wn.no rfl) rfl (R.call bd7 (Ls.cons rfl Ls.nil) rfl) (Calls.mono h ?_)
  rintro _ w4 ⟨r3, rfl, h⟩
  refine ⟨_, rfl, ?_⟩
  refine LE.p (v := (Value.pointer r3)) (Wn.no rfl) rfl (R.assign rfl) ?_
  refine LE.nil ?_
  refine WE.seq ?_
  refine WE.seq ?_
  obtain ⟨J5, hJ5, h⟩ := M.join_use h
  refine WE.regJ (fun e w => ∃ (x6 : Bool), J5 x6 w ∧ e 0 = (SV.v r1) ∧ e 1 = (SV.v p1) ∧ e 5 = (Value.pointer r3) ∧ e 25 = (Value.bool x6)) ?_ ?_
  · clear hJ5
    refine LE.p (v := (Value.pointer r3)) (Wn.no rfl) rfl (R.move rfl) ?_
    refine LE.p (v := (Value.bool (Option.isNone r3))) (Wn.no rfl) rfl (R.peqNil pt24 rfl rfl) ?_
    refine LE.p (v := (Value.bool (Option.isNone r3))) (Wn.no rfl) rfl (R.move rfl) ?_
    rcases M.ite_use h with ⟨hb7, h⟩ | ⟨hb7, h⟩
    · refine LE.u (Un.no 2 14 false rfl rfl rfl (congrArg Value.bool hb7)) ?_
      refine LE.u (Un.no 2 14 false rfl rfl rfl (congrArg Value.bool hb7)) ?_
      refine LE.u (Un.no 2 14 false rfl rfl rfl (congrArg Value.bool hb7)) ?_
      refine LE.u (Un.no 2 14 false rfl rfl rfl (congrArg Value.bool hb7)) ?_
      refine LE.u (Un.no 2 14 false rfl rfl rfl (congrArg Value.bool hb7)) ?_
      refine LE.p (v := (Value.bool true)) (Wn.no rfl) rfl (R.pickT (congrArg Value.bool hb7) rfl) ?_
      refine LE.p (v := (Value.bool true)) (Wn.no rfl) rfl (R.move rfl) ?_
      refine LE.u (Un.no 9 21 false rfl rfl rfl rfl) ?_
      refine LE.u (Un.no 9 21 false rfl rfl rfl rfl) ?_
      refine LE.u (Un.no 9 21 false rfl rfl rfl rfl) ?_
      refine LE.p (v := (Value.bool true)) (Wn.no rfl) rfl (R.pickT rfl rfl) ?_
      refine LE.nil ?_
      exact ⟨_, h, rfl, rfl, rfl, rfl⟩
    · refine LE.p (v := (Value.pointer r3)) (Wn.yes 2 14 false rfl rfl rfl (congrArg Value.bool hb7)) rfl (R.move rfl) ?_
      refine LE.c (Wn.yes 2 14 false rfl rfl rfl (congrArg Value.bool hb7)) rfl (R.call bd11 (Ls.cons rfl Ls.nil) rfl) (Calls.mono h ?_)
      rintro _ w9 ⟨r8, rfl, h⟩
      refine ⟨_, rfl, ?_⟩
      refine LE.p (v := (SV.v r1)) (Wn.yes 2 14 false rfl rfl rfl (congrArg Value.bool hb7)) rfl (R.move rfl) ?_
      refine LE.p (v := (Value.int .i64 (r1.len : Int))) (Wn.yes 2 14 false rfl rfl rfl (congrArg Value.bool hb7)) rfl (R.len sl23 rfl) ?_
      refine LE.p (v := (Value.bool (r8 != (r1.len : Int)))) (Wn.yes 2 14 false rfl rfl rfl (congrArg Value.bool hb7)) rfl (R.neq rfl rfl) ?_
      refine LE.p (v := (Value.bool (r8 != (r1.len : Int)))) (Wn.no rfl) rfl (R.pickF (congrArg Value.bool hb7) rfl) ?_
      refine LE.p (v := (Value.bool (r8 != (r1.len : Int)))) (Wn.no rfl) rfl (R.move rfl) ?_
      rcases M.ite_use h with ⟨hb10, h⟩ | ⟨hb10, h⟩
      · refine LE.u (Un.no 9 21 false rfl rfl rfl (congrArg Value.bool hb10)) ?_
        refine LE.u (Un.no 9 21 false rfl rfl rfl (congrArg Value.bool hb10)) ?_
        refine LE.u (Un.no 9 21 false rfl rfl rfl (congrArg Value.bool hb10)) ?_
        refine LE.p (v := (Value.bool true)) (Wn.no rfl) rfl (R.pickT (congrArg Value.bool hb10) rfl) ?_
        refine LE.nil ?_
        exact ⟨_, h, rfl, rfl, rfl, rfl⟩
      · refine LE.p (v := (Value.pointer r3)) (Wn.yes 9 21 false rfl rfl rfl (congrArg Value.bool hb10)) rfl (R.move rfl) ?_
        refine LE.c (Wn.yes 9 21 false rfl rfl rfl (congrArg Value.bool hb10)) rfl (R.call bd12 (Ls.cons rfl Ls.nil) rfl) (Calls.mono h ?_)
        rintro _ w12 ⟨r11, rfl, h⟩
        refine ⟨_, rfl, ?_⟩
        refine LE.p (v := (Value.bool (!r11))) (Wn.yes 9 21 false rfl rfl rfl (congrArg Value.bool hb10)) rfl (R.not rfl) ?_
        refine LE.p (v := (Value.bool (!r11))) (Wn.no rfl) rfl (R.pickF (congrArg Value.bool hb10) rfl) ?_
        refine LE.nil ?_
        exact ⟨_, h, rfl, rfl, rfl, rfl⟩
  · rintro e13 w14 ⟨x6, h, f15, f16, f17, f18⟩
    subst hJ5
    refine WE.condT rfl (b := x6) f18 ?_ ?_
    · intro hb19
      replace h := M.ite_t h hb19
      refine WE.seq ?_
      refine WE.reg ?_
      refine LE.p (v := (Value.bool false)) (Wn.no rfl) rfl (R.assign rfl) ?_
      refine LE.nil ?_
      refine WE.ret ?_
      exact ⟨_, (Res.tmp rfl Res.nil), _, rfl, h⟩
    · intro hb19
      replace h := M.ite_f h hb19
      refine WE.skip ?_
      refine WE.seq ?_
      refine WE.seq ?_
      refine WE.reg ?_
      refine LE.p (v := (Value.pointer r3)) (Wn.no rfl) rfl (R.move f17) ?_
      refine LE.p (v := (SV.v r1)) (Wn.no rfl) rfl (R.move f15) ?_
      refine LE.p (v := (Value.int .i64 (r1.len : Int))) (Wn.no rfl) rfl (R.len sl23 rfl) ?_
      refine LE.c (Wn.no rfl) rfl (R.call bd13 (Ls.cons rfl (Ls.cons rfl Ls.nil)) rfl) (Calls.mono h ?_)
      rintro _ w21 ⟨r20, rfl, h⟩
      refine ⟨_, rfl, ?_⟩
      refine LE.p (v := (SV.v r20)) (Wn.no rfl) rfl (R.assign rfl) ?_
      refine LE.nil ?_
      refine WE.seq ?_
      obtain ⟨J22, hJ22, h⟩ := M.join_use h
      refine WE.regJ (fun e w => ∃ (x23 : Bool), J22 x23 w ∧ e 1 = (SV.v p1) ∧ e 5 = (Value.pointer r3) ∧ e 44 = (Value.bool x23)) ?_ ?_
      · clear hJ22
        refine LE.p (v := (SV.v r20)) (Wn.no rfl) rfl (R.move rfl) ?_
        obtain ⟨t24, h25, h⟩ := h
        refine LE.r (v := (Value.string t24)) (Wn.no rfl) rfl (R.b2s (s := r20) h25 rfl) ?_
        refine LE.p (v := (SV.v r1)) (Wn.no rfl) rfl (R.move f15) ?_
        obtain ⟨t26, h27, h⟩ := h
        refine LE.r (v := (Value.string t26)) (Wn.no rfl) rfl (R.b2s (s := r1) h27 rfl) ?_
        refine LE.p (v := (Value.bool (!(t24.toList == t26.toList)))) (Wn.no rfl) rfl (R.sneq rfl rfl) ?_
        refine LE.p (v := (Value.bool (!(t24.toList == t26.toList)))) (Wn.no rfl) rfl (R.move rfl) ?_
        rcases M.ite_use h with ⟨hb28, h⟩ | ⟨hb28, h⟩
        · refine LE.u (Un.no 5 35 false rfl rfl rfl (congrArg Value.bool hb28)) ?_
          refine LE.u (Un.no 5 35 false rfl rfl rfl (congrArg Value.bool hb28)) ?_
          refine LE.u (Un.no 5 35 false rfl rfl rfl (congrArg Value.bool hb28)) ?_
          refine LE.p (v := (Value.bool true)) (Wn.no rfl) rfl (R.pickT (congrArg Value.bool hb28) rfl) ?_
          refine LE.p (v := (Value.bool true)) (Wn.no rfl) rfl (R.move rfl) ?_
          refine LE.u (Un.no 10 40 false rfl rfl rfl rfl) ?_
          refine LE.u (Un.no 10 40 false rfl rfl rfl rfl) ?_
          refine LE.u (Un.no 10 40 false rfl rfl rfl rfl) ?_
          refine LE.p (v := (Value.bool true)) (Wn.no rfl) rfl (R.pickT rfl rfl) ?_
          refine LE.nil ?_
          exact ⟨_, h, f16, f17, rfl⟩
        · refine LE.p (v := (Value.pointer r3)) (Wn.yes 5 35 false rfl rfl rfl (congrArg Value.bool hb28)) rfl (R.move f17) ?_
          refine LE.c (Wn.yes 5 35 false rfl rfl rfl (congrArg Value.bool hb28)) rfl (R.call bd11 (Ls.cons rfl Ls.nil) rfl) (Calls.mono h ?_)
          rintro _ w30 ⟨r29, rfl, h⟩
          refine ⟨_, rfl, ?_⟩
          refine LE.p (v := (Value.bool (r29 != (0 : Int)))) (Wn.yes 5 35 false rfl rfl rfl (congrArg Value.bool hb28)) rfl (R.neq rfl rfl) ?_
          refine LE.p (v := (Value.bool (r29 != (0 : Int)))) (Wn.no rfl) rfl (R.pickF (congrArg Value.bool hb28) rfl) ?_
          refine LE.p (v := (Value.bool (r29 != (0 : Int)))) (Wn.no rfl) rfl (R.move rfl) ?_
          rcases M.ite_use h with ⟨hb31, h⟩ | ⟨hb31, h⟩
          · refine LE.u (Un.no 10 40 false rfl rfl rfl (congrArg Value.bool hb31)) ?_
            refine LE.u (Un.no 10 40 false rfl rfl rfl (congrArg Value.bool hb31)) ?_
            refine LE.u (Un.no 10 40 false rfl rfl rfl (congrArg Value.bool hb31)) ?_
            refine LE.p (v := (Value.bool true)) (Wn.no rfl) rfl (R.pickT (congrArg Value.bool hb31) rfl) ?_
            refine LE.nil ?_
            exact ⟨_, h, f16, f17, rfl⟩
          · refine LE.p (v := (Value.pointer r3)) (Wn.yes 10 40 false rfl rfl rfl (congrArg Value.bool hb31)) rfl (R.move f17) ?_
            refine LE.c (Wn.yes 10 40 false rfl rfl rfl (congrArg Value.bool hb31)) rfl (R.call bd12 (Ls.cons rfl Ls.nil) rfl) (Calls.mono h ?_)
            rintro _ w33 ⟨r32, rfl, h⟩
            refine ⟨_, rfl, ?_⟩
            refine LE.p (v := (Value.bool (!r32))) (Wn.yes 10 40 false rfl rfl rfl (congrArg Value.bool hb31)) rfl (R.not rfl) ?_
            refine LE.p (v := (Value.bool (!r32))) (Wn.no rfl) rfl (R.pickF (congrArg Value.bool hb31) rfl) ?_
            refine LE.nil ?_
            exact ⟨_, h, f16, f17, rfl⟩
      · rintro e34 w35 ⟨x23, h, f36, f37, f38⟩
        subst hJ22
        refine WE.condT rfl (b := x23) f38 ?_ ?_
        · intro hb39
          replace h := M.ite_t h hb39
          refine WE.seq ?_
          refine WE.reg ?_
          refine LE.p (v := (Value.bool false)) (Wn.no rfl) rfl (R.assign rfl) ?_
          refine LE.nil ?_
          refine WE.ret ?_
          exact ⟨_, (Res.tmp rfl Res.nil), _, rfl, h⟩
        · intro hb39
          replace h := M.ite_f h hb39
          refine WE.skip ?_
          refine WE.seq ?_
          refine WE.seq ?_
          obtain ⟨J40, hJ40, h⟩ := M.join_use h
          refine WE.regJ (fun e w => ∃ (x41 : Bool), J40 x41 w ∧ e 1 = (SV.v p1) ∧ e 5 = (Value.pointer r3) ∧ e 52 = (Value.bool x41)) ?_ ?_
          · clear hJ40
            refine LE.p (v := (Value.pointer r3)) (Wn.no rfl) rfl (R.move f37) ?_
            refine LE.c (Wn.no rfl) rfl (R.call bd13 (Ls.cons rfl (Ls.cons rfl Ls.nil)) rfl) (Calls.mono h ?_)
            rintro _ w43 ⟨r42, rfl, h⟩
            refine ⟨_, rfl, ?_⟩
            refine LE.p (v := (Value.int .i64 (r42.len : Int))) (Wn.no rfl) rfl (R.len sl23 rfl) ?_
            refine LE.p (v := (Value.bool ((r42.len : Int) != (0 : Int)))) (Wn.no rfl) rfl (R.neq rfl rfl) ?_
            refine LE.p (v := (Value.bool ((r42.len : Int) != (0 : Int)))) (Wn.no rfl) rfl (R.move rfl) ?_
            rcases M.ite_use h with ⟨hb44, h⟩ | ⟨hb44, h⟩
            · refine LE.u (Un.no 4 49 false rfl rfl rfl (congrArg Value.bool hb44)) ?_
              refine LE.u (Un.no 4 49 false rfl rfl rfl (congrArg Value.bool hb44)) ?_
              refine LE.p (v := (Value.bool true)) (Wn.no rfl) rfl (R.pickT (congrArg Value.bool hb44) rfl) ?_
              refine LE.nil ?_
              exact ⟨_, h, f36, f37, rfl⟩
            · refine LE.p (v := (Value.pointer r3)) (Wn.yes 4 49 false rfl rfl rfl (congrArg Value.bool hb44)) rfl (R.move f37) ?_
              refine LE.c (Wn.yes 4 49 false rfl rfl rfl (congrArg Value.bool hb44)) rfl (R.call bd12 (Ls.cons rfl Ls.nil) rfl) (Calls.mono h ?_)
              rintro _ w46 ⟨r45, rfl, h⟩
              refine ⟨_, rfl, ?_⟩
              refine LE.p (v := (Value.bool r45)) (Wn.no rfl) rfl (R.pickF (congrArg Value.bool hb44) rfl) ?_
              refine LE.nil ?_
              exact ⟨_, h, f36, f37, rfl⟩
          · rintro e47 w48 ⟨x41, h, f49, f50, f51⟩
            subst hJ40
            refine WE.condT rfl (b := x41) f51 ?_ ?_
            · intro hb52
              replace h := M.ite_t h hb52
              refine WE.seq ?_
              refine WE.reg ?_
              refine LE.p (v := (Value.bool false)) (Wn.no rfl) rfl (R.assign rfl) ?_
              refine LE.nil ?_
              refine WE.ret ?_
              exact ⟨_, (Res.tmp rfl Res.nil), _, rfl, h⟩
            · intro hb52
              replace h := M.ite_f h hb52
              refine WE.skip ?_
              refine WE.seq ?_
              refine WE.seq ?_
              refine WE.reg ?_
              refine LE.p (v := (Value.int .i64 (0 : Int))) (Wn.no rfl) rfl (R.assign rfl) ?_
              refine LE.nil ?_
              refine WE.block ?_
              obtain ⟨I58, ⟨n57, h⟩, hr59⟩ := h
              refine WE.loop (fun n e w => ∃ (x53 : Int), I58 n x53 w ∧ e 1 = (SV.v p1) ∧ e 5 = (Value.pointer r3) ∧ e 7 = (Value.int .i64 x53)) n57 ⟨_, h, f49, f50, rfl⟩ ?_
              clear h
              rintro n57 e56 w55 ⟨x53, h, f62, f63, f64⟩
              replace h := hr59 n57 x53 w55 h
              refine WE.seq ?_
              refine WE.seq ?_
              obtain ⟨J65, hJ65, h⟩ := M.join_use h
              refine WE.regJ (fun e w => ∃ (x66 : Bool), J65 x66 w ∧ e 1 = (SV.v p1) ∧ e 5 = (Value.pointer r3) ∧ e 7 = (Value.int .i64 x53) ∧ e 60 = (Value.bool x66)) ?_ ?_
              · clear hJ65
                refine LE.p (v := (Value.int .i64 x53)) (Wn.no rfl) rfl (R.move f64) ?_
                refine LE.p (v := (SV.v p1)) (Wn.no rfl) rfl (R.move f62) ?_
                refine LE.p (v := (Value.int .i64 (p1.len : Int))) (Wn.no rfl) rfl (R.len sl33 rfl) ?_
                refine LE.p (v := (Value.bool (decide (x53 < (p1.len : Int))))) (Wn.no rfl) rfl (R.lss rfl rfl) ?_
                refine LE.p (v := (Value.bool (decide (x53 < (p1.len : Int))))) (Wn.no rfl) rfl (R.move rfl) ?_
                rcases M.ite_use h with ⟨hb67, h⟩ | ⟨hb67, h⟩
                · refine LE.p (v := (Value.int .i64 x53)) (Wn.yes 4 57 true rfl rfl rfl (congrArg Value.bool hb67)) rfl (R.move f64) ?_
                  refine LE.p (v := (Value.bool (decide (x53 < (20 : Int))))) (Wn.yes 4 57 true rfl rfl rfl (congrArg Value.bool hb67)) rfl (R.lss rfl rfl) ?_
                  refine LE.p (v := (Value.bool (decide (x53 < (20 : Int))))) (Wn.no rfl) rfl (R.pickT (congrArg Value.bool hb67) rfl) ?_
                  refine LE.nil ?_
                  exact ⟨_, h, f62, f63, f64, rfl⟩
                · refine LE.u (Un.no 4 57 true rfl rfl rfl (congrArg Value.bool hb67)) ?_
                  refine LE.u (Un.no 4 57 true rfl rfl rfl (congrArg Value.bool hb67)) ?_
                  refine LE.p (v := (Value.bool false)) (Wn.no rfl) rfl (R.pickF (congrArg Value.bool hb67) rfl) ?_
                  refine LE.nil ?_
                  exact ⟨_, h, f62, f63, f64, rfl⟩
              · rintro e68 w69 ⟨x66, h, f70, f71, f72, f73⟩
                subst hJ65
                refine WE.condT rfl (b := x66) f73 ?_ ?_
                · intro hb74
                  replace h := M.ite_t h hb74
                  refine WE.skip ?_
                  refine WE.seq ?_
                  refine WE.block ?_
                  refine WE.seq ?_
                  obtain ⟨J75, hJ75, h⟩ := M.join_use h
                  refine WE.regJ (fun e w => ∃ (x76 : Bool), J75 x76 w ∧ e 1 = (SV.v p1) ∧ e 5 = (Value.pointer r3) ∧ e 7 = (Value.int .i64 x53) ∧ e 95 = (Value.bool x76)) ?_ ?_
                  · clear hJ75
                    refine LE.p (v := (Value.pointer r3)) (Wn.no rfl) rfl (R.move f71) ?_
                    refine LE.c (Wn.no rfl) rfl (R.call bd14 (Ls.cons rfl Ls.nil) rfl) (Calls.mono h ?_)
                    rintro _ w78 ⟨r77, rfl, h⟩
                    refine ⟨_, rfl, ?_⟩
                    refine LE.p (v := (Value.bool (r77 != (0 : Int)))) (Wn.no rfl) rfl (R.neq rfl rfl) ?_
                    refine LE.p (v := (Value.bool (r77 != (0 : Int)))) (Wn.no rfl) rfl (R.move rfl) ?_
                    rcases M.ite_use h with ⟨hb79, h⟩ | ⟨hb79, h⟩
                    · refine LE.u (Un.no 3 66 false rfl rfl rfl (congrArg Value.bool hb79)) ?_
                      refine LE.u (Un.no 3 66 false rfl rfl rfl (congrArg Value.bool hb79)) ?_
                      refine LE.u (Un.no 3 66 false rfl rfl rfl (congrArg Value.bool hb79)) ?_
                      refine LE.p (v := (Value.bool true)) (Wn.no rfl) rfl (R.pickT (congrArg Value.bool hb79) rfl) ?_
                      refine LE.p (v := (Value.bool true)) (Wn.no rfl) rfl (R.move rfl) ?_
                      refine LE.u (Un.no 8 71 false rfl rfl rfl rfl) ?_
                      refine LE.u (Un.no 8 71 false rfl rfl rfl rfl) ?_
                      refine LE.u (Un.no 8 71 false rfl rfl rfl rfl) ?_
                      refine LE.p (v := (Value.bool true)) (Wn.no rfl) rfl (R.pickT rfl rfl) ?_
                      refine LE.p (v := (Value.bool true)) (Wn.no rfl) rfl (R.move rfl) ?_
                      refine LE.u (Un.no 13 76 false rfl rfl rfl rfl) ?_
                      refine LE.u (Un.no 13 76 false rfl rfl rfl rfl) ?_
                      refine LE.u (Un.no 13 76 false rfl rfl rfl rfl) ?_
                      refine LE.u (Un.no 13 76 false rfl rfl rfl rfl) ?_
                      refine LE.u (Un.no 13 76 false rfl rfl rfl rfl) ?_
                      refine LE.u (Un.no 13 76 false rfl rfl rfl rfl) ?_
                      refine LE.u (Un.no 13 76 false rfl rfl rfl rfl) ?_
                      refine LE.u (Un.no 13 76 false rfl rfl rfl rfl) ?_
                      refine LE.u (Un.no 13 76 false rfl rfl rfl rfl) ?_
                      refine LE.p (v := (Value.bool true)) (Wn.no rfl) rfl (R.pickT rfl rfl) ?_
                      refine LE.p (v := (Value.bool true)) (Wn.no rfl) rfl (R.move rfl) ?_
                      refine LE.u (Un.no 24 87 false rfl rfl rfl rfl) ?_
                      refine LE.u (Un.no 24 87 false rfl rfl rfl rfl) ?_
                      refine LE.u (Un.no 24 87 false rfl rfl rfl rfl) ?_
                      refine LE.p (v := (Value.bool true)) (Wn.no rfl) rfl (R.pickT rfl rfl) ?_
                      refine LE.p (v := (Value.bool true)) (Wn.no rfl) rfl (R.move rfl) ?_
                      refine LE.u (Un.no 29 92 false rfl rfl rfl rfl) ?_
                      refine LE.u (Un.no 29 92 false rfl rfl rfl rfl) ?_
                      refine LE.p (v := (Value.bool true)) (Wn.no rfl) rfl (R.pickT rfl rfl) ?_
                      refine LE.nil ?_
                      exact ⟨_, h, f70, f71, f72, rfl⟩
                    · refine LE.p (v := (Value.pointer r3)) (Wn.yes 3 66 false rfl rfl rfl (congrArg Value.bool hb79)) rfl (R.move f71) ?_
                      refine LE.c (Wn.yes 3 66 false rfl rfl rfl (congrArg Value.bool hb79)) rfl (R.call bd15 (Ls.cons rfl Ls.nil) rfl) (Calls.mono h ?_)
                      rintro _ w81 ⟨r80, rfl, h⟩
                      refine ⟨_, rfl, ?_⟩
                      refine LE.p (v := (Value.bool (r80 != (0 : Int)))) (Wn.yes 3 66 false rfl rfl rfl (congrArg Value.bool hb79)) rfl (R.neq rfl rfl) ?_
                      refine LE.p (v := (Value.bool (r80 != (0 : Int)))) (Wn.no rfl) rfl (R.pickF (congrArg Value.bool hb79) rfl) ?_
                      refine LE.p (v := (Value.bool (r80 != (0 : Int)))) (Wn.no rfl) rfl (R.move rfl) ?_
                      rcases M.ite_use h with ⟨hb82, h⟩ | ⟨hb82, h⟩
                      · refine LE.u (Un.no 8 71 false rfl rfl rfl (congrArg Value.bool hb82)) ?_
                        refine LE.u (Un.no 8 71 false rfl rfl rfl (congrArg Value.bool hb82)) ?_
                        refine LE.u (Un.no 8 71 false rfl rfl rfl (congrArg Value.bool hb82)) ?_
                        refine LE.p (v := (Value.bool true)) (Wn.no rfl) rfl (R.pickT (congrArg Value.bool hb82) rfl) ?_
                        refine LE.p (v := (Value.bool true)) (Wn.no rfl) rfl (R.move rfl) ?_
                        refine LE.u (Un.no 13 76 false rfl rfl rfl rfl) ?_
                        refine LE.u (Un.no 13 76 false rfl rfl rfl rfl) ?_
                        refine LE.u (Un.no 13 76 false rfl rfl rfl rfl) ?_
                        refine LE.u (Un.no 13 76 false rfl rfl rfl rfl) ?_
                        refine LE.u (Un.no 13 76 false rfl rfl rfl rfl) ?_
                        refine LE.u (Un.no 13 76 false rfl rfl rfl rfl) ?_
                        refine LE.u (Un.no 13 76 false rfl rfl rfl rfl) ?_
                        refine LE.u (Un.no 13 76 false rfl rfl rfl rfl) ?_
                        refine LE.u (Un.no 13 76 false rfl rfl rfl rfl) ?_
                        refine LE.p (v := (Value.bool true)) (Wn.no rfl) rfl (R.pickT rfl rfl) ?_
                        refine LE.p (v := (Value.bool true)) (Wn.no rfl) rfl (R.move rfl) ?_
                        refine LE.u (Un.no 24 87 false rfl rfl rfl rfl) ?_
                        refine LE.u (Un.no 24 87 false rfl rfl rfl rfl) ?_
                        refine LE.u (Un.no 24 87 false rfl rfl rfl rfl) ?_
                        refine LE.p (v := (Value.bool true)) (Wn.no rfl) rfl (R.pickT rfl rfl) ?_
                        refine LE.p (v := (Value.bool true)) (Wn.no rfl) rfl (R.move rfl) ?_
                        refine LE.u (Un.no 29 92 false rfl rfl rfl rfl) ?_
                        refine LE.u (Un.no 29 92 false rfl rfl rfl rfl) ?_
                        refine LE.p (v := (Value.bool true)) (Wn.no rfl) rfl (R.pickT rfl rfl) ?_
                        refine LE.nil ?_
                        exact ⟨_, h, f70, f71, f72, rfl⟩
                      · refine LE.p (v := (Value.pointer r3)) (Wn.yes 8 71 false rfl rfl rfl (congrArg Value.bool hb82)) rfl (R.move f71) ?_
                        refine LE.c (Wn.yes 8 71 false rfl rfl rfl (congrArg Value.bool hb82)) rfl (R.call bd16 (Ls.cons rfl Ls.nil) rfl) (Calls.mono h ?_)
                        rintro _ w84 ⟨r83, rfl, h⟩
                        refine ⟨_, rfl, ?_⟩
                        refine LE.p (v := (Value.bool (r83 != (0 : Int)))) (Wn.yes 8 71 false rfl rfl rfl (congrArg Value.bool hb82)) rfl (R.neq rfl rfl) ?_
                        refine LE.p (v := (Value.bool (r83 != (0 : Int)))) (Wn.no rfl) rfl (R.pickF (congrArg Value.bool hb82) rfl) ?_
                        refine LE.p (v := (Value.bool (r83 != (0 : Int)))) (Wn.no rfl) rfl (R.move rfl) ?_
                        rcases M.ite_use h with ⟨hb85, h⟩ | ⟨hb85, h⟩
                        · refine LE.u (Un.no 13 76 false rfl rfl rfl (congrArg Value.bool hb85)) ?_
                          refine LE.u (Un.no 13 76 false rfl rfl rfl (congrArg Value.bool hb85)) ?_
                          refine LE.u (Un.no 13 76 false rfl rfl rfl (congrArg Value.bool hb85)) ?_
                          refine LE.u (Un.no 13 76 false rfl rfl rfl (congrArg Value.bool hb85)) ?_
                          refine LE.u (Un.no 13 76 false rfl rfl rfl (congrArg Value.bool hb85)) ?_
                          refine LE.u (Un.no 13 76 false rfl rfl rfl (congrArg Value.bool hb85)) ?_
                          refine LE.u (Un.no 13 76 false rfl rfl rfl (congrArg Value.bool hb85)) ?_
                          refine LE.u (Un.no 13 76 false rfl rfl rfl (congrArg Value.bool hb85)) ?_
                          refine LE.u (Un.no 13 76 false rfl rfl rfl (congrArg Value.bool hb85)) ?_
                          refine LE.p (v := (Value.bool true)) (Wn.no rfl) rfl (R.pickT (congrArg Value.bool hb85) rfl) ?_
                          refine LE.p (v := (Value.bool true)) (Wn.no rfl) rfl (R.move rfl) ?_
                          refine LE.u (Un.no 24 87 false rfl rfl rfl rfl) ?_
                          refine LE.u (Un.no 24 87 false rfl rfl rfl rfl) ?_
                          refine LE.u (Un.no 24 87 false rfl rfl rfl rfl) ?_
                          refine LE.p (v := (Value.bool true)) (Wn.no rfl) rfl (R.pickT rfl rfl) ?_
                          refine LE.p (v := (Value.bool true)) (Wn.no rfl) rfl (R.move rfl) ?_
                          refine LE.u (Un.no 29 92 false rfl rfl rfl rfl) ?_
                          refine LE.u (Un.no 29 92 false rfl rfl rfl rfl) ?_
                          refine LE.p (v := (Value.bool true)) (Wn.no rfl) rfl (R.pickT rfl rfl) ?_
                          refine LE.nil ?_
                          exact ⟨_, h, f70, f71, f72, rfl⟩
                        · refine LE.p (v := (Value.pointer r3)) (Wn.yes 13 76 false rfl rfl rfl (congrArg Value.bool hb85)) rfl (R.move f71) ?_
                          refine LE.p (v := (SV.v p1)) (Wn.yes 13 76 false rfl rfl rfl (congrArg Value.bool hb85)) rfl (R.move f70) ?_
                          refine LE.p (v := (Value.int .i64 x53)) (Wn.yes 13 76 false rfl rfl rfl (congrArg Value.bool hb85)) rfl (R.move f72) ?_
                          obtain ⟨a86, h87, h88, h89, h⟩ := h
                          refine LE.p (v := (Value.pointer (some (a86.add (x53.toNat * 3))))) (Wn.yes 13 76 false rfl rfl rfl (congrArg Value.bool hb85)) rfl (R.idx (s := p1) sl33 rfl rfl h87 h88 h89) ?_
                          refine LE.p (v := (Value.pointer (some ((a86.add (x53.toNat * 3)).add 1)))) (Wn.yes 13 76 false rfl rfl rfl (congrArg Value.bool hb85)) rfl (R.fld (off := 1) fa31_1 rfl) ?_
                          obtain ⟨t90, h91, h⟩ := h
                          refine LE.r (v := (Value.int .i64 t90)) (Wn.yes 13 76 false rfl rfl rfl (congrArg Value.bool hb85)) rfl (R.ld sc3 rfl h91) ?_
                          refine LE.c (Wn.yes 13 76 false rfl rfl rfl (congrArg Value.bool hb85)) rfl (R.call bd13 (Ls.cons rfl (Ls.cons rfl Ls.nil)) rfl) (Calls.mono h ?_)
                          rintro _ w93 ⟨r92, rfl, h⟩
                          refine ⟨_, rfl, ?_⟩
                          refine LE.p (v := (Value.int .i64 (r92.len : Int))) (Wn.yes 13 76 false rfl rfl rfl (congrArg Value.bool hb85)) rfl (R.len sl23 rfl) ?_
                          refine LE.p (v := (Value.bool ((r92.len : Int) != (0 : Int)))) (Wn.yes 13 76 false rfl rfl rfl (congrArg Value.bool hb85)) rfl (R.neq rfl rfl) ?_
                          refine LE.p (v := (Value.bool ((r92.len : Int) != (0 : Int)))) (Wn.no rfl) rfl (R.pickF (congrArg Value.bool hb85) rfl) ?_
                          refine LE.p (v := (Value.bool ((r92.len : Int) != (0 : Int)))) (Wn.no rfl) rfl (R.move rfl) ?_
                          rcases M.ite_use h with ⟨hb94, h⟩ | ⟨hb94, h⟩
                          · refine LE.u (Un.no 24 87 false rfl rfl rfl (congrArg Value.bool hb94)) ?_
                            refine LE.u (Un.no 24 87 false rfl rfl rfl (congrArg Value.bool hb94)) ?_
                            refine LE.u (Un.no 24 87 false rfl rfl rfl (congrArg Value.bool hb94)) ?_
                            refine LE.p (v := (Value.bool true)) (Wn.no rfl) rfl (R.pickT (congrArg Value.bool hb94) rfl) ?_
                            refine LE.p (v := (Value.bool true)) (Wn.no rfl) rfl (R.move rfl) ?_
                            refine LE.u (Un.no 29 92 false rfl rfl rfl rfl) ?_
                            refine LE.u (Un.no 29 92 false rfl rfl rfl rfl) ?_
                            refine LE.p (v := (Value.bool true)) (Wn.no rfl) rfl (R.pickT rfl rfl) ?_
                            refine LE.nil ?_
                            exact ⟨_, h, f70, f71, f72, rfl⟩
                          · refine LE.p (v := (Value.pointer r3)) (Wn.yes 24 87 false rfl rfl rfl (congrArg Value.bool hb94)) rfl (R.move f71) ?_
                            refine LE.c (Wn.yes 24 87 false rfl rfl rfl (congrArg Value.bool hb94)) rfl (R.call bd11 (Ls.cons rfl Ls.nil) rfl) (Calls.mono h ?_)
                            rintro _ w96 ⟨r95, rfl, h⟩
                            refine ⟨_, rfl, ?_⟩
                            refine LE.p (v := (Value.bool (r95 != (0 : Int)))) (Wn.yes 24 87 false rfl rfl rfl (congrArg Value.bool hb94)) rfl (R.neq rfl rfl) ?_
                            refine LE.p (v := (Value.bool (r95 != (0 : Int)))) (Wn.no rfl) rfl (R.pickF (congrArg Value.bool hb94) rfl) ?_
                            refine LE.p (v := (Value.bool (r95 != (0 : Int)))) (Wn.no rfl) rfl (R.move rfl) ?_
                            rcases M.ite_use h with ⟨hb97, h⟩ | ⟨hb97, h⟩
                            · refine LE.u (Un.no 29 92 false rfl rfl rfl (congrArg Value.bool hb97)) ?_
                              refine LE.u (Un.no 29 92 false rfl rfl rfl (congrArg Value.bool hb97)) ?_
                              refine LE.p (v := (Value.bool true)) (Wn.no rfl) rfl (R.pickT (congrArg Value.bool hb97) rfl) ?_
                              refine LE.nil ?_
                              exact ⟨_, h, f70, f71, f72, rfl⟩
                            · refine LE.p (v := (Value.pointer r3)) (Wn.yes 29 92 false rfl rfl rfl (congrArg Value.bool hb97)) rfl (R.move f71) ?_
                              refine LE.c (Wn.yes 29 92 false rfl rfl rfl (congrArg Value.bool hb97)) rfl (R.call bd12 (Ls.cons rfl Ls.nil) rfl) (Calls.mono h ?_)
                              rintro _ w99 ⟨r98, rfl, h⟩
                              refine ⟨_, rfl, ?_⟩
                              refine LE.p (v := (Value.bool r98)) (Wn.no rfl) rfl (R.pickF (congrArg Value.bool hb97) rfl) ?_
                              refine LE.nil ?_
                              exact ⟨_, h, f70, f71, f72, rfl⟩
                  · rintro e100 w101 ⟨x76, h, f102, f103, f104, f105⟩
                    subst hJ75
                    refine WE.condT rfl (b := x76) f105 ?_ ?_
                    · intro hb106
                      replace h := M.ite_t h hb106
                      refine WE.seq ?_
                      refine WE.reg ?_
                      refine LE.p (v := (Value.bool false)) (Wn.no rfl) rfl (R.assign rfl) ?_
                      refine LE.nil ?_
                      refine WE.ret ?_
                      exact ⟨_, (Res.tmp rfl Res.nil), _, rfl, h⟩
                    · intro hb106
                      replace h := M.ite_f h hb106
                      refine WE.skip ?_
                      refine WE.reg ?_
                      refine LE.p (v := (Value.int .i64 x53)) (Wn.no rfl) rfl (R.move f104) ?_
                      refine LE.p (v := (Value.int .i64 (IntKind.i64.wrap (x53 + (1 : Int))))) (Wn.no rfl) rfl (R.add rfl rfl) ?_
                      refine LE.p (v := (Value.int .i64 (IntKind.i64.wrap (x53 + (1 : Int))))) (Wn.no rfl) rfl (R.assign rfl) ?_
                      refine LE.nil ?_
                      obtain ⟨m60, hm61, h⟩ := h
                      exact ⟨m60, hm61, _, h, f102, f103, rfl⟩
                · intro hb74
                  replace h := M.ite_f h hb74
                  refine WE.exit ?_
                  refine WE.seq ?_
                  refine WE.reg ?_
                  refine LE.c (Wn.no rfl) rfl (R.call bd9 Ls.nil rfl) (Calls.mono h ?_)
                  rintro _ w108 ⟨r107, rfl, h⟩
                  refine ⟨_, rfl, ?_⟩
                  refine LE.p (v := (Value.bool r107)) (Wn.no rfl) rfl (R.assign rfl) ?_
                  refine LE.nil ?_
                  refine WE.ret ?_
                  exact ⟨_, (Res.tmp rfl Res.nil), _, rfl, h⟩
/-- The formula of signpost.signpostlaw4.WireTells. -/
def F5 (p0 : SV) (p1 : SV) (p2 : SV) (K : Bool → World → Prop) (w0 : World) : Prop :=
Calls Try.prog 17 #[] w0 (R17 fun r1 w2 =>
M.ite (Option.isNone r1) (
K false w2) (
M.loop2 (fun (J6 : SV → Int → World → Prop) (x4 : SV) (x5 : Int) (w7 : World) => 
M.join (fun (x21 : Bool) (w24 : World) => 
M.ite x21 (
M.idx p0 x5 3 fun a33 =>
M.ld (Value.int .i64) (a33.add (x5.toNat * 3)) w24 fun t37 =>
M.ld (Value.int .i64) ((a33.add (x5.toNat * 3)).add 1) w24 fun t39 =>
M.ld SV.v ((a33.add (x5.toNat * 3)).add 2) w24 fun t41 =>
Calls Try.prog 18 #[(Value.pointer r1), (SV.v x4), (Value.agg #[(Value.int .i64 t37), (Value.int .i64 t39), (SV.v t41)])] w24 (R18 fun r43 w44 =>
M.join (fun (x46 : Bool) (w59 : World) => 
M.ite x46 (
K false w59) (
J6 r43 (IntKind.i64.wrap (x5 + (1 : Int))) w59)) fun J45 => 
M.drew w44 fun w47 => 
Calls Try.prog 19 #[(Value.pointer r1)] w47 (R19 fun r48 w49 =>
M.ite (r48 != (r43.len : Int)) (
J45 true w49) (
M.b2s Try.prog 23 9 r43 w49 fun t51 =>
Calls Try.prog 20 #[(Value.pointer r1)] w49 (R20 fun r53 w54 =>
M.keep ((convert 23 9 (SV.v r43)).run Try.prog w54 = .ok (.string t51) w54) <|
M.b2s Try.prog 23 9 r53 w54 fun t56 =>
J45 (!(t56.toList == t51.toList)) w54))))) (
Calls Try.prog 10 #[(SV.v p2), (Value.int .i64 (100 : Int))] w24 (R10 fun r68 w69 =>
M.app Try.prog 23 23 23 x4 (SV.v r68) w69 fun s70 w71 =>
Calls Try.prog 7 #[(SV.v s70)] w71 (R7 fun r73 w74 =>
M.new (.cells #[(SV.v s70), (Value.int .i64 (0 : Int)), (Value.bool false)] 28) w74 fun b76 w75 =>
M.ite (Option.isNone r73) (
K false w75) (
M.loop1 (fun (J79 : Int → World → Prop) (x78 : Int) (w80 : World) => 
M.join (fun (x92 : Bool) (w95 : World) => 
M.ite x92 (
M.idx p1 x78 3 fun a102 =>
M.ld (Value.int .i64) (a102.add (x78.toNat * 3)) w95 fun t106 =>
M.ld (Value.int .i64) ((a102.add (x78.toNat * 3)).add 1) w95 fun t108 =>
M.ld SV.v ((a102.add (x78.toNat * 3)).add 2) w95 fun t110 =>
Calls Try.prog 8 #[(Value.pointer r73), (Value.pointer (some b76)), (Value.agg #[(Value.int .i64 t106), (Value.int .i64 t108), (SV.v t110)])] w95 (R8 fun r112 w113 =>
M.ite (!r112) (
K false w113) (
J79 (IntKind.i64.wrap (x78 + (1 : Int))) w113))) (
Calls Try.prog 9 #[] w95 (R9 fun r115 w116 =>
K r115 w116))) fun J91 => 
M.ite (decide (x78 < (p1.len : Int))) (
J91 (decide (x78 < (30 : Int))) w80) (
J91 false w80)) (0 : Int) w75))))) fun J20 => 
M.ite (decide (x5 < (p0.len : Int))) (
J20 (decide (x5 < (30 : Int))) w7) (
J20 false w7)) SV.nil (0 : Int) w2))
theorem F5_ok {w0 : World} {p0 : SV} {p1 : SV} {p2 : SV} {K : Bool → World → Prop} (h : F5 p0 p1 p2 K w0) : Calls Try.prog 5 #[(SV.v p0), (SV.v p1), (SV.v p2)] w0 (R5 K) := by
  refine calls_of_WE (args := [(SV.v p0), (SV.v p1), (SV.v p2)]) (rs := [.tmp 6]) Try.func5 rfl (N := 76) rfl rfl rfl rfl ?_
  refine WE.seq ?_
  refine WE.reg ?_
  refine LE.p (v := (Value.bool false)) (Wn.no rfl) rfl (R.assign rfl) ?_
  refine LE.nil ?_
  refine WE.seq ?_
  refine WE.reg ?_
  refine LE.c (Wn.no rfl) rfl (R.call bd17 Ls.nil rfl) (Calls.mono h ?_)
  rintro _ w2 ⟨r1, rfl, h⟩
  refine ⟨_, rfl, ?_⟩
  refine LE.p (v := (Value.pointer r1)) (Wn.no rfl) rfl (R.assign rfl) ?_
  refine LE.nil ?_
  refine WE.seq ?_
  refine WE.seq ?_
  refine WE.reg ?_
  refine LE.p (v := (Value.pointer r1)) (Wn.no rfl) rfl (R.move rfl) ?_
  refine LE.p (v := (Value.bool (Option.isNone r1))) (Wn.no rfl) rfl (R.peqNil pt40 rfl rfl) ?_
  refine LE.nil ?_
  refine WE.condT rfl (b := (Option.isNone r1)) rfl ?_ ?_
  · intro hb3
    replace h := M.ite_t h hb3
    refine WE.seq ?_
    refine WE.reg ?_
    refine LE.p (v := (Value.bool false)) (Wn.no rfl) rfl (R.assign rfl) ?_
    refine LE.nil ?_
    refine WE.ret ?_
    exact ⟨_, (Res.tmp rfl Res.nil), _, rfl, h⟩
  · intro hb3
    replace h := M.ite_f h hb3
    refine WE.skip ?_
    refine WE.seq ?_
    refine WE.reg ?_
    refine LE.p (v := (SV.v SV.nil)) (Wn.no rfl) rfl (R.assign rfl) ?_
    refine LE.nil ?_
    refine WE.seq ?_
    refine WE.seq ?_
    refine WE.reg ?_
    refine LE.p (v := (Value.int .i64 (0 : Int))) (Wn.no rfl) rfl (R.assign rfl) ?_
    refine LE.nil ?_
    refine WE.block ?_
    obtain ⟨I10, ⟨n9, h⟩, hr11⟩ := h
    refine WE.loop (fun n e w => ∃ (x4 : SV) (x5 : Int), I10 n x4 x5 w ∧ e 0 = (SV.v p0) ∧ e 1 = (SV.v p1) ∧ e 2 = (SV.v p2) ∧ e 7 = (Value.pointer r1) ∧ e 8 = (SV.v x4) ∧ e 9 = (Value.int .i64 x5)) n9 ⟨_, _, h, rfl, rfl, rfl, rfl, rfl, rfl⟩ ?_
    clear h
    rintro n9 e8 w7 ⟨x4, x5, h, f14, f15, f16, f17, f18, f19⟩
    replace h := hr11 n9 x4 x5 w7 h
    refine WE.seq ?_
    refine WE.seq ?_
    obtain ⟨J20, hJ20, h⟩ := M.join_use h
    refine WE.regJ (fun e w => ∃ (x21 : Bool), J20 x21 w ∧ e 0 = (SV.v p0) ∧ e 1 = (SV.v p1) ∧ e 2 = (SV.v p2) ∧ e 7 = (Value.pointer r1) ∧ e 8 = (SV.v x4) ∧ e 9 = (Value.int .i64 x5) ∧ e 23 = (Value.bool x21)) ?_ ?_
    · clear hJ20
      refine LE.p (v := (Value.int .i64 x5)) (Wn.no rfl) rfl (R.move f19) ?_
      refine LE.p (v := (SV.v p0)) (Wn.no rfl) rfl (R.move f14) ?_
      refine LE.p (v := (Value.int .i64 (p0.len : Int))) (Wn.no rfl) rfl (R.len sl33 rfl) ?_
      refine LE.p (v := (Value.bool (decide (x5 < (p0.len : Int))))) (Wn.no rfl) rfl (R.lss rfl rfl) ?_
      refine LE.p (v := (Value.bool (decide (x5 < (p0.len : Int))))) (Wn.no rfl) rfl (R.move rfl) ?_
      rcases M.ite_use h with ⟨hb22, h⟩ | ⟨hb22, h⟩
      · refine LE.p (v := (Value.int .i64 x5)) (Wn.yes 4 20 true rfl rfl rfl (congrArg Value.bool hb22)) rfl (R.move f19) ?_
        refine LE.p (v := (Value.bool (decide (x5 < (30 : Int))))) (Wn.yes 4 20 true rfl rfl rfl (congrArg Value.bool hb22)) rfl (R.lss rfl rfl) ?_
        refine LE.p (v := (Value.bool (decide (x5 < (30 : Int))))) (Wn.no rfl) rfl (R.pickT (congrArg Value.bool hb22) rfl) ?_
        refine LE.nil ?_
        exact ⟨_, h, f14, f15, f16, f17, f18, f19, rfl⟩
      · refine LE.u (Un.no 4 20 true rfl rfl rfl (congrArg Value.bool hb22)) ?_
        refine LE.u (Un.no 4 20 true rfl rfl rfl (congrArg Value.bool hb22)) ?_
        refine LE.p (v := (Value.bool false)) (Wn.no rfl) rfl (R.pickF (congrArg Value.bool hb22) rfl) ?_
        refine LE.nil ?_
        exact ⟨_, h, f14, f15, f16, f17, f18, f19, rfl⟩
    · rintro e23 w24 ⟨x21, h, f25, f26, f27, f28, f29, f30, f31⟩
      subst hJ20
      refine WE.condT rfl (b := x21) f31 ?_ ?_
      · intro hb32
        replace h := M.ite_t h hb32
        refine WE.skip ?_
        refine WE.seq ?_
        refine WE.block ?_
        refine WE.seq ?_
        refine WE.reg ?_
        refine LE.p (v := (Value.pointer r1)) (Wn.no rfl) rfl (R.move f28) ?_
        refine LE.p (v := (SV.v x4)) (Wn.no rfl) rfl (R.move f29) ?_
        refine LE.p (v := (SV.v p0)) (Wn.no rfl) rfl (R.move f25) ?_
        refine LE.p (v := (Value.int .i64 x5)) (Wn.no rfl) rfl (R.move f30) ?_
        obtain ⟨a33, h34, h35, h36, h⟩ := h
        refine LE.p (v := (Value.pointer (some (a33.add (x5.toNat * 3))))) (Wn.no rfl) rfl (R.idx (s := p0) sl33 rfl rfl h34 h35 h36) ?_
        obtain ⟨t37, h38, h⟩ := h
        obtain ⟨t39, h40, h⟩ := h
        obtain ⟨t41, h42, h⟩ := h
        refine LE.r (v := (Value.agg #[(Value.int .i64 t37), (Value.int .i64 t39), (SV.v t41)])) (Wn.no rfl) rfl (R.ldA ag31 sz31 rfl rfl (Cs.cons h38 (Cs.cons h40 (Cs.cons h42 Cs.nil)))) ?_
        refine LE.c (Wn.no rfl) rfl (R.call bd18 (Ls.cons rfl (Ls.cons rfl (Ls.cons rfl Ls.nil))) rfl) (Calls.mono h ?_)
        rintro _ w44 ⟨r43, rfl, h⟩
        refine ⟨_, rfl, ?_⟩
        refine LE.p (v := (SV.v r43)) (Wn.no rfl) rfl (R.assign rfl) ?_
        refine LE.nil ?_
        refine WE.seq ?_
        obtain ⟨J45, hJ45, h⟩ := M.join_use h
        refine WE.drawJ (fun e w => ∃ (x46 : Bool), J45 x46 w ∧ e 0 = (SV.v p0) ∧ e 1 = (SV.v p1) ∧ e 2 = (SV.v p2) ∧ e 7 = (Value.pointer r1) ∧ e 8 = (SV.v r43) ∧ e 9 = (Value.int .i64 x5) ∧ e 45 = (Value.bool x46)) mix ?_ ?_
        · clear hJ45
          obtain ⟨w47, hww47, h⟩ := M.drew_use h
          rw [← hww47]
          clear hww47
          refine DE.t 0 (v := (Value.pointer r1)) rfl (by kernel_rfl) (Wn.no rfl) rfl (R.move f28) ?_
          refine DE.t 2 (v := (SV.v r43)) rfl (by kernel_rfl) (Wn.no rfl) rfl (R.move rfl) ?_
          refine DE.t 3 (v := (Value.int .i64 (r43.len : Int))) rfl (by kernel_rfl) (Wn.no rfl) rfl (R.len sl23 rfl) ?_
          refine DE.main 1 (by kernel_rfl) ?_
          refine One.c 1 rfl (Wn.no rfl) rfl (R.call bd19 (Ls.cons rfl Ls.nil) rfl) (Calls.mono h ?_)
          rintro _ w49 ⟨r48, rfl, h⟩
          refine ⟨_, rfl, trivial, ?_⟩
          refine DE.t 4 (v := (Value.bool (r48 != (r43.len : Int)))) rfl (by kernel_rfl) (Wn.no rfl) rfl (R.neq rfl rfl) ?_
          refine DE.t 5 (v := (Value.bool (r48 != (r43.len : Int)))) rfl (by kernel_rfl) (Wn.no rfl) rfl (R.move rfl) ?_
          rcases M.ite_use h with ⟨hb50, h⟩ | ⟨hb50, h⟩
          · refine DE.u 6 rfl (by kernel_rfl) (Un.no 5 38 false rfl rfl rfl (congrArg Value.bool hb50)) ?_
            refine DE.u 7 rfl (by kernel_rfl) (Un.no 5 38 false rfl rfl rfl (congrArg Value.bool hb50)) ?_
            refine DE.u 8 rfl (by kernel_rfl) (Un.no 5 38 false rfl rfl rfl (congrArg Value.bool hb50)) ?_
            refine DE.u 9 rfl (by kernel_rfl) (Un.no 5 38 false rfl rfl rfl (congrArg Value.bool hb50)) ?_
            refine DE.u 10 rfl (by kernel_rfl) (Un.no 5 38 false rfl rfl rfl (congrArg Value.bool hb50)) ?_
            refine DE.u 11 rfl (by kernel_rfl) (Un.no 5 38 false rfl rfl rfl (congrArg Value.bool hb50)) ?_
            refine DE.t 12 (v := (Value.bool true)) rfl (by kernel_rfl) (Wn.no rfl) rfl (R.pickT (congrArg Value.bool hb50) rfl) ?_
            refine DE.done (by kernel_rfl) ?_
            exact ⟨_, h, f25, f26, f27, f28, rfl, f30, rfl⟩
          · refine DE.t 6 (v := (Value.pointer r1)) rfl (by kernel_rfl) (Wn.yes 5 38 false rfl rfl rfl (congrArg Value.bool hb50)) rfl (R.move f28) ?_
            refine DE.t 9 (v := (SV.v r43)) rfl (by kernel_rfl) (Wn.yes 5 38 false rfl rfl rfl (congrArg Value.bool hb50)) rfl (R.move rfl) ?_
            obtain ⟨t51, h52, h⟩ := h
            refine DE.hold 10 (fun w => (convert 23 9 (SV.v r43)).run Try.prog w = .ok (.string t51) w) (v := (Value.string t51)) rfl (by kernel_rfl) (Wn.yes 5 38 false rfl rfl rfl (congrArg Value.bool hb50)) rfl h52 (fun w hs => R.b2s (s := r43) hs rfl) ?_
            refine DE.main 7 (by kernel_rfl) ?_
            refine One.c 7 rfl (Wn.yes 5 38 false rfl rfl rfl (congrArg Value.bool hb50)) rfl (R.call bd20 (Ls.cons rfl Ls.nil) rfl) (Calls.mono h ?_)
            rintro _ w54 ⟨r53, rfl, h⟩
            obtain ⟨k55, h⟩ := h
            refine ⟨_, rfl, ⟨fun _ => k55, trivial⟩, ?_⟩
            obtain ⟨t56, h57, h⟩ := h
            refine DE.main 8 (by kernel_rfl) ?_
            refine One.r 8 (v := (Value.string t56)) rfl (Wn.yes 5 38 false rfl rfl rfl (congrArg Value.bool hb50)) rfl (R.b2s (s := r53) h57 rfl) (.inl rfl) ?_
            refine DE.t 11 (v := (Value.bool (!(t56.toList == t51.toList)))) rfl (by kernel_rfl) (Wn.yes 5 38 false rfl rfl rfl (congrArg Value.bool hb50)) rfl (R.sneq rfl rfl) ?_
            refine DE.t 12 (v := (Value.bool (!(t56.toList == t51.toList)))) rfl (by kernel_rfl) (Wn.no rfl) rfl (R.pickF (congrArg Value.bool hb50) rfl) ?_
            refine DE.done (by kernel_rfl) ?_
            exact ⟨_, h, f25, f26, f27, f28, rfl, f30, rfl⟩
        · rintro e58 w59 ⟨x46, h, f60, f61, f62, f63, f64, f65, f66⟩
          subst hJ45
          refine WE.condT rfl (b := x46) f66 ?_ ?_
          · intro hb67
            replace h := M.ite_t h hb67
            refine WE.seq ?_
            refine WE.reg ?_
            refine LE.p (v := (Value.bool false)) (Wn.no rfl) rfl (R.assign rfl) ?_
            refine LE.nil ?_
            refine WE.ret ?_
            exact ⟨_, (Res.tmp rfl Res.nil), _, rfl, h⟩
          · intro hb67
            replace h := M.ite_f h hb67
            refine WE.skip ?_
            refine WE.reg ?_
            refine LE.p (v := (Value.int .i64 x5)) (Wn.no rfl) rfl (R.move f65) ?_
            refine LE.p (v := (Value.int .i64 (IntKind.i64.wrap (x5 + (1 : Int))))) (Wn.no rfl) rfl (R.add rfl rfl) ?_
            refine LE.p (v := (Value.int .i64 (IntKind.i64.wrap (x5 + (1 : Int))))) (Wn.no rfl) rfl (R.assign rfl) ?_
            refine LE.nil ?_
            obtain ⟨m12, hm13, h⟩ := h
            exact ⟨m12, hm13, _, _, h, f60, f61, f62, f63, f64, rfl⟩
      · intro hb32
        replace h := M.ite_f h hb32
        refine WE.exit ?_
        refine WE.seq ?_
        refine WE.reg ?_
        refine LE.p (v := (SV.v x4)) (Wn.no rfl) rfl (R.move f29) ?_
        refine LE.p (v := (SV.v p2)) (Wn.no rfl) rfl (R.move f27) ?_
        refine LE.c (Wn.no rfl) rfl (R.call bd10 (Ls.cons rfl (Ls.cons rfl Ls.nil)) rfl) (Calls.mono h ?_)
        rintro _ w69 ⟨r68, rfl, h⟩
        refine ⟨_, rfl, ?_⟩
        obtain ⟨s70, w71, h72, h⟩ := h
        refine LE.r (v := (SV.v s70)) (Wn.no rfl) rfl (R.app (s := x4) (r := s70) rfl rfl h72) ?_
        refine LE.p (v := (SV.v s70)) (Wn.no rfl) rfl (R.assign rfl) ?_
        refine LE.nil ?_
        refine WE.seq ?_
        refine WE.reg ?_
        refine LE.p (v := (SV.v s70)) (Wn.no rfl) rfl (R.move rfl) ?_
        refine LE.c (Wn.no rfl) rfl (R.call bd7 (Ls.cons rfl Ls.nil) rfl) (Calls.mono h ?_)
        rintro _ w74 ⟨r73, rfl, h⟩
        refine ⟨_, rfl, ?_⟩
        refine LE.p (v := (Value.pointer r73)) (Wn.no rfl) rfl (R.assign rfl) ?_
        refine LE.nil ?_
        refine WE.seq ?_
        refine WE.reg ?_
        refine LE.p (v := (SV.v s70)) (Wn.no rfl) rfl (R.move rfl) ?_
        refine LE.p (v := (Value.agg #[(SV.v s70), (Value.int .i64 (0 : Int)), (Value.bool false)])) (Wn.no rfl) rfl (R.bld (by exact (Ls.cons (R.Pr rfl) Ls.nil)) (fun w => bu28_0 s70 w)) ?_
        obtain ⟨b76, hpb76, w75, hww75, h⟩ := M.new_use h
        refine LE.r (v := (Value.pointer (some b76))) (Wn.no rfl) rfl (R.box (cs := #[(SV.v s70), (Value.int .i64 (0 : Int)), (Value.bool false)]) rfl rfl hpb76 hww75) ?_
        refine LE.p (v := (Value.pointer (some b76))) (Wn.no rfl) rfl (R.assign rfl) ?_
        refine LE.nil ?_
        refine WE.seq ?_
        refine WE.seq ?_
        refine WE.reg ?_
        refine LE.p (v := (Value.pointer r73)) (Wn.no rfl) rfl (R.move rfl) ?_
        refine LE.p (v := (Value.bool (Option.isNone r73))) (Wn.no rfl) rfl (R.peqNil pt24 rfl rfl) ?_
        refine LE.nil ?_
        refine WE.condT rfl (b := (Option.isNone r73)) rfl ?_ ?_
        · intro hb77
          replace h := M.ite_t h hb77
          refine WE.seq ?_
          refine WE.reg ?_
          refine LE.p (v := (Value.bool false)) (Wn.no rfl) rfl (R.assign rfl) ?_
          refine LE.nil ?_
          refine WE.ret ?_
          exact ⟨_, (Res.tmp rfl Res.nil), _, rfl, h⟩
        · intro hb77
          replace h := M.ite_f h hb77
          refine WE.skip ?_
          refine WE.seq ?_
          refine WE.seq ?_
          refine WE.reg ?_
          refine LE.p (v := (Value.int .i64 (0 : Int))) (Wn.no rfl) rfl (R.assign rfl) ?_
          refine LE.nil ?_
          refine WE.block ?_
          obtain ⟨I83, ⟨n82, h⟩, hr84⟩ := h
          refine WE.loop (fun n e w => ∃ (x78 : Int), I83 n x78 w ∧ e 1 = (SV.v p1) ∧ e 10 = (Value.pointer r73) ∧ e 11 = (Value.pointer (some b76)) ∧ e 12 = (Value.int .i64 x78)) n82 ⟨_, h, f26, rfl, rfl, rfl⟩ ?_
          clear h
          rintro n82 e81 w80 ⟨x78, h, f87, f88, f89, f90⟩
          replace h := hr84 n82 x78 w80 h
          refine WE.seq ?_
          refine WE.seq ?_
          obtain ⟨J91, hJ91, h⟩ := M.join_use h
          refine WE.regJ (fun e w => ∃ (x92 : Bool), J91 x92 w ∧ e 1 = (SV.v p1) ∧ e 10 = (Value.pointer r73) ∧ e 11 = (Value.pointer (some b76)) ∧ e 12 = (Value.int .i64 x78) ∧ e 64 = (Value.bool x92)) ?_ ?_
          · clear hJ91
            refine LE.p (v := (Value.int .i64 x78)) (Wn.no rfl) rfl (R.move f90) ?_
            refine LE.p (v := (SV.v p1)) (Wn.no rfl) rfl (R.move f87) ?_
            refine LE.p (v := (Value.int .i64 (p1.len : Int))) (Wn.no rfl) rfl (R.len sl33 rfl) ?_
            refine LE.p (v := (Value.bool (decide (x78 < (p1.len : Int))))) (Wn.no rfl) rfl (R.lss rfl rfl) ?_
            refine LE.p (v := (Value.bool (decide (x78 < (p1.len : Int))))) (Wn.no rfl) rfl (R.move rfl) ?_
            rcases M.ite_use h with ⟨hb93, h⟩ | ⟨hb93, h⟩
            · refine LE.p (v := (Value.int .i64 x78)) (Wn.yes 4 61 true rfl rfl rfl (congrArg Value.bool hb93)) rfl (R.move f90) ?_
              refine LE.p (v := (Value.bool (decide (x78 < (30 : Int))))) (Wn.yes 4 61 true rfl rfl rfl (congrArg Value.bool hb93)) rfl (R.lss rfl rfl) ?_
              refine LE.p (v := (Value.bool (decide (x78 < (30 : Int))))) (Wn.no rfl) rfl (R.pickT (congrArg Value.bool hb93) rfl) ?_
              refine LE.nil ?_
              exact ⟨_, h, f87, f88, f89, f90, rfl⟩
            · refine LE.u (Un.no 4 61 true rfl rfl rfl (congrArg Value.bool hb93)) ?_
              refine LE.u (Un.no 4 61 true rfl rfl rfl (congrArg Value.bool hb93)) ?_
              refine LE.p (v := (Value.bool false)) (Wn.no rfl) rfl (R.pickF (congrArg Value.bool hb93) rfl) ?_
              refine LE.nil ?_
              exact ⟨_, h, f87, f88, f89, f90, rfl⟩
          · rintro e94 w95 ⟨x92, h, f96, f97, f98, f99, f100⟩
            subst hJ91
            refine WE.condT rfl (b := x92) f100 ?_ ?_
            · intro hb101
              replace h := M.ite_t h hb101
              refine WE.skip ?_
              refine WE.seq ?_
              refine WE.block ?_
              refine WE.seq ?_
              refine WE.reg ?_
              refine LE.p (v := (Value.pointer r73)) (Wn.no rfl) rfl (R.move f97) ?_
              refine LE.p (v := (Value.pointer (some b76))) (Wn.no rfl) rfl (R.move f98) ?_
              refine LE.p (v := (SV.v p1)) (Wn.no rfl) rfl (R.move f96) ?_
              refine LE.p (v := (Value.int .i64 x78)) (Wn.no rfl) rfl (R.move f99) ?_
              obtain ⟨a102, h103, h104, h105, h⟩ := h
              refine LE.p (v := (Value.pointer (some (a102.add (x78.toNat * 3))))) (Wn.no rfl) rfl (R.idx (s := p1) sl33 rfl rfl h103 h104 h105) ?_
              obtain ⟨t106, h107, h⟩ := h
              obtain ⟨t108, h109, h⟩ := h
              obtain ⟨t110, h111, h⟩ := h
              refine LE.r (v := (Value.agg #[(Value.int .i64 t106), (Value.int .i64 t108), (SV.v t110)])) (Wn.no rfl) rfl (R.ldA ag31 sz31 rfl rfl (Cs.cons h107 (Cs.cons h109 (Cs.cons h111 Cs.nil)))) ?_
              refine LE.c (Wn.no rfl) rfl (R.call bd8 (Ls.cons rfl (Ls.cons rfl (Ls.cons rfl Ls.nil))) rfl) (Calls.mono h ?_)
              rintro _ w113 ⟨r112, rfl, h⟩
              refine ⟨_, rfl, ?_⟩
              refine LE.p (v := (Value.bool (!r112))) (Wn.no rfl) rfl (R.not rfl) ?_
              refine LE.nil ?_
              refine WE.condT rfl (b := (!r112)) rfl ?_ ?_
              · intro hb114
                replace h := M.ite_t h hb114
                refine WE.seq ?_
                refine WE.reg ?_
                refine LE.p (v := (Value.bool false)) (Wn.no rfl) rfl (R.assign rfl) ?_
                refine LE.nil ?_
                refine WE.ret ?_
                exact ⟨_, (Res.tmp rfl Res.nil), _, rfl, h⟩
              · intro hb114
                replace h := M.ite_f h hb114
                refine WE.skip ?_
                refine WE.reg ?_
                refine LE.p (v := (Value.int .i64 x78)) (Wn.no rfl) rfl (R.move f99) ?_
                refine LE.p (v := (Value.int .i64 (IntKind.i64.wrap (x78 + (1 : Int))))) (Wn.no rfl) rfl (R.add rfl rfl) ?_
                refine LE.p (v := (Value.int .i64 (IntKind.i64.wrap (x78 + (1 : Int))))) (Wn.no rfl) rfl (R.assign rfl) ?_
                refine LE.nil ?_
                obtain ⟨m85, hm86, h⟩ := h
                exact ⟨m85, hm86, _, h, f96, f97, f98, rfl⟩
            · intro hb101
              replace h := M.ite_f h hb101
              refine WE.exit ?_
              refine WE.seq ?_
              refine WE.reg ?_
              refine LE.c (Wn.no rfl) rfl (R.call bd9 Ls.nil rfl) (Calls.mono h ?_)
              rintro _ w116 ⟨r115, rfl, h⟩
              refine ⟨_, rfl, ?_⟩
              refine LE.p (v := (Value.bool r115)) (Wn.no rfl) rfl (R.assign rfl) ?_
              refine LE.nil ?_
              refine WE.ret ?_
              exact ⟨_, (Res.tmp rfl Res.nil), _, rfl, h⟩
/-- The formula of signpost.signpostlaw4.WireBack. -/
def F6 (p0 : SV) (K : Bool → World → Prop) (w0 : World) : Prop :=
Calls Try.prog 17 #[] w0 (R17 fun r1 w2 =>
M.ite (Option.isNone r1) (
K false w2) (
M.loop1 (fun (J5 : Int → World → Prop) (x4 : Int) (w6 : World) => 
M.join (fun (x17 : Bool) (w20 : World) => 
M.ite x17 (
M.idx p0 x4 3 fun a26 =>
M.ld (Value.int .i64) ((a26.add (x4.toNat * 3)).add 1) w20 fun t30 =>
Calls Try.prog 21 #[(Value.pointer r1), (Value.int .i64 t30)] w20 (R21 fun w32 =>
M.idx p0 x4 3 fun a33 =>
M.ld (Value.int .i64) ((a33.add (x4.toNat * 3)).add 1) w32 fun t37 =>
Calls Try.prog 22 #[(Value.pointer r1), (Value.int .i64 t37)] w32 (R22 fun w39 =>
M.idx p0 x4 3 fun a40 =>
M.ld (Value.int .i64) ((a40.add (x4.toNat * 3)).add 1) w39 fun t44 =>
Calls Try.prog 23 #[(Value.pointer r1), (Value.int .u32 (IntKind.u32.wrap t44))] w39 (R23 fun w46 =>
M.idx p0 x4 3 fun a47 =>
M.ld SV.v ((a47.add (x4.toNat * 3)).add 2) w46 fun t51 =>
Calls Try.prog 10 #[(SV.v t51), (Value.int .i64 (50 : Int))] w46 (R10 fun r53 w54 =>
Calls Try.prog 24 #[(Value.pointer r1), (SV.v r53)] w54 (R24 fun w55 =>
J5 (IntKind.i64.wrap (x4 + (1 : Int))) w55)))))) (
Calls Try.prog 20 #[(Value.pointer r1)] w20 (R20 fun r56 w57 =>
Calls Try.prog 7 #[(SV.v r56)] w57 (R7 fun r58 w59 =>
M.join (fun (x61 : Bool) (w68 : World) => 
M.ite x61 (
K false w68) (
M.loop1 (fun (J74 : Int → World → Prop) (x73 : Int) (w75 : World) => 
M.join (fun (x86 : Bool) (w89 : World) => 
M.ite x86 (
M.idx p0 x73 3 fun a95 =>
M.ld SV.v ((a95.add (x73.toNat * 3)).add 2) w89 fun t99 =>
Calls Try.prog 10 #[(SV.v t99), (Value.int .i64 (50 : Int))] w89 (R10 fun r101 w102 =>
M.join (fun (x104 : Bool) (w147 : World) => 
M.ite x104 (
K false w147) (
J74 (IntKind.i64.wrap (x73 + (1 : Int))) w147)) fun J103 => 
M.drew w102 fun w105 => 
M.idx p0 x73 3 fun a106 =>
M.ld (Value.int .i64) ((a106.add (x73.toNat * 3)).add 1) w105 fun t110 =>
Calls Try.prog 14 #[(Value.pointer r58)] w105 (R14 fun r112 w113 =>
M.keep (w113.cell? ((a106.add (x73.toNat * 3)).add 1) = some (Value.int .i64 t110)) <|
M.ite (r112 != (bAnd .i64 t110 (255 : Int))) (
J103 true w113) (
M.idx p0 x73 3 fun a116 =>
M.ld (Value.int .i64) ((a116.add (x73.toNat * 3)).add 1) w113 fun t120 =>
Calls Try.prog 15 #[(Value.pointer r58)] w113 (R15 fun r122 w123 =>
M.keep (w123.cell? ((a116.add (x73.toNat * 3)).add 1) = some (Value.int .i64 t120)) <|
M.ite (r122 != (bAnd .i64 t120 (65535 : Int))) (
J103 true w123) (
M.idx p0 x73 3 fun a126 =>
M.ld (Value.int .i64) ((a126.add (x73.toNat * 3)).add 1) w123 fun t130 =>
Calls Try.prog 16 #[(Value.pointer r58)] w123 (R16 fun r132 w133 =>
M.keep (w133.cell? ((a126.add (x73.toNat * 3)).add 1) = some (Value.int .i64 t130)) <|
M.ite (r132 != (IntKind.u32.wrap t130)) (
J103 true w133) (
M.b2s Try.prog 23 9 r101 w133 fun t136 =>
Calls Try.prog 13 #[(Value.pointer r58), (Value.int .i64 (r101.len : Int))] w133 (R13 fun r138 w139 =>
M.keep ((convert 23 9 (SV.v r101)).run Try.prog w139 = .ok (.string t136) w139) <|
M.b2s Try.prog 23 9 r138 w139 fun t141 =>
M.ite (!(t141.toList == t136.toList)) (
J103 true w139) (
Calls Try.prog 12 #[(Value.pointer r58)] w139 (R12 fun r144 w145 =>
J103 (!r144) w145))))))))))) (
M.join (fun (x154 : Bool) (w167 : World) => 
K x154 w167) fun J153 => 
Calls Try.prog 11 #[(Value.pointer r58)] w89 (R11 fun r155 w156 =>
M.ite (r155 == (0 : Int)) (
Calls Try.prog 14 #[(Value.pointer r58)] w156 (R14 fun r158 w159 =>
M.ite (r158 == (0 : Int)) (
Calls Try.prog 12 #[(Value.pointer r58)] w159 (R12 fun r161 w162 =>
M.ite (!r161) (
Calls Try.prog 9 #[] w162 (R9 fun r164 w165 =>
J153 r164 w165)) (
J153 false w162))) (
J153 false w159))) (
J153 false w156)))) fun J85 => 
M.ite (decide (x73 < (p0.len : Int))) (
J85 (decide (x73 < (30 : Int))) w75) (
J85 false w75)) (0 : Int) w68)) fun J60 => 
M.ite (Option.isNone r58) (
J60 true w59) (
Calls Try.prog 11 #[(Value.pointer r58)] w59 (R11 fun r63 w64 =>
Calls Try.prog 19 #[(Value.pointer r1)] w64 (R19 fun r65 w66 =>
J60 (r63 != r65) w66))))))) fun J16 => 
M.ite (decide (x4 < (p0.len : Int))) (
J16 (decide (x4 < (30 : Int))) w6) (
J16 false w6)) (0 : Int) w2))
theorem F6_ok {w0 : World} {p0 : SV} {K : Bool → World → Prop} (h : F6 p0 K w0) : Calls Try.prog 6 #[(SV.v p0)] w0 (R6 K) := by
  refine calls_of_WE (args := [(SV.v p0)]) (rs := [.tmp 2]) Try.func6 rfl (N := 141) rfl rfl rfl rfl ?_
  refine WE.seq ?_
  refine WE.reg ?_
  refine LE.p (v := (Value.bool false)) (Wn.no rfl) rfl (R.assign rfl) ?_
  refine LE.nil ?_
  refine WE.seq ?_
  refine WE.reg ?_
  refine LE.c (Wn.no rfl) rfl (R.call bd17 Ls.nil rfl) (Calls.mono h ?_)
  rintro _ w2 ⟨r1, rfl, h⟩
  refine ⟨_, rfl, ?_⟩
  refine LE.p (v := (Value.pointer r1)) (Wn.no rfl) rfl (R.assign rfl) ?_
  refine LE.nil ?_
  refine WE.seq ?_
  refine WE.seq ?_
  refine WE.reg ?_
  refine LE.p (v := (Value.pointer r1)) (Wn.no rfl) rfl (R.move rfl) ?_
  refine LE.p (v := (Value.bool (Option.isNone r1))) (Wn.no rfl) rfl (R.peqNil pt40 rfl rfl) ?_
  refine LE.nil ?_
  refine WE.condT rfl (b := (Option.isNone r1)) rfl ?_ ?_
  · intro hb3
    replace h := M.ite_t h hb3
    refine WE.seq ?_
    refine WE.reg ?_
    refine LE.p (v := (Value.bool false)) (Wn.no rfl) rfl (R.assign rfl) ?_
    refine LE.nil ?_
    refine WE.ret ?_
    exact ⟨_, (Res.tmp rfl Res.nil), _, rfl, h⟩
  · intro hb3
    replace h := M.ite_f h hb3
    refine WE.skip ?_
    refine WE.seq ?_
    refine WE.seq ?_
    refine WE.reg ?_
    refine LE.p (v := (Value.int .i64 (0 : Int))) (Wn.no rfl) rfl (R.assign rfl) ?_
    refine LE.nil ?_
    refine WE.block ?_
    obtain ⟨I9, ⟨n8, h⟩, hr10⟩ := h
    refine WE.loop (fun n e w => ∃ (x4 : Int), I9 n x4 w ∧ e 0 = (SV.v p0) ∧ e 3 = (Value.pointer r1) ∧ e 4 = (Value.int .i64 x4)) n8 ⟨_, h, rfl, rfl, rfl⟩ ?_
    clear h
    rintro n8 e7 w6 ⟨x4, h, f13, f14, f15⟩
    replace h := hr10 n8 x4 w6 h
    refine WE.seq ?_
    refine WE.seq ?_
    obtain ⟨J16, hJ16, h⟩ := M.join_use h
    refine WE.regJ (fun e w => ∃ (x17 : Bool), J16 x17 w ∧ e 0 = (SV.v p0) ∧ e 3 = (Value.pointer r1) ∧ e 4 = (Value.int .i64 x4) ∧ e 18 = (Value.bool x17)) ?_ ?_
    · clear hJ16
      refine LE.p (v := (Value.int .i64 x4)) (Wn.no rfl) rfl (R.move f15) ?_
      refine LE.p (v := (SV.v p0)) (Wn.no rfl) rfl (R.move f13) ?_
      refine LE.p (v := (Value.int .i64 (p0.len : Int))) (Wn.no rfl) rfl (R.len sl33 rfl) ?_
      refine LE.p (v := (Value.bool (decide (x4 < (p0.len : Int))))) (Wn.no rfl) rfl (R.lss rfl rfl) ?_
      refine LE.p (v := (Value.bool (decide (x4 < (p0.len : Int))))) (Wn.no rfl) rfl (R.move rfl) ?_
      rcases M.ite_use h with ⟨hb18, h⟩ | ⟨hb18, h⟩
      · refine LE.p (v := (Value.int .i64 x4)) (Wn.yes 4 15 true rfl rfl rfl (congrArg Value.bool hb18)) rfl (R.move f15) ?_
        refine LE.p (v := (Value.bool (decide (x4 < (30 : Int))))) (Wn.yes 4 15 true rfl rfl rfl (congrArg Value.bool hb18)) rfl (R.lss rfl rfl) ?_
        refine LE.p (v := (Value.bool (decide (x4 < (30 : Int))))) (Wn.no rfl) rfl (R.pickT (congrArg Value.bool hb18) rfl) ?_
        refine LE.nil ?_
        exact ⟨_, h, f13, f14, f15, rfl⟩
      · refine LE.u (Un.no 4 15 true rfl rfl rfl (congrArg Value.bool hb18)) ?_
        refine LE.u (Un.no 4 15 true rfl rfl rfl (congrArg Value.bool hb18)) ?_
        refine LE.p (v := (Value.bool false)) (Wn.no rfl) rfl (R.pickF (congrArg Value.bool hb18) rfl) ?_
        refine LE.nil ?_
        exact ⟨_, h, f13, f14, f15, rfl⟩
    · rintro e19 w20 ⟨x17, h, f21, f22, f23, f24⟩
      subst hJ16
      refine WE.condT rfl (b := x17) f24 ?_ ?_
      · intro hb25
        replace h := M.ite_t h hb25
        refine WE.skip ?_
        refine WE.seq ?_
        refine WE.block ?_
        refine WE.seq ?_
        refine WE.reg ?_
        refine LE.p (v := (Value.pointer r1)) (Wn.no rfl) rfl (R.move f22) ?_
        refine LE.p (v := (SV.v p0)) (Wn.no rfl) rfl (R.move f21) ?_
        refine LE.p (v := (Value.int .i64 x4)) (Wn.no rfl) rfl (R.move f23) ?_
        obtain ⟨a26, h27, h28, h29, h⟩ := h
        refine LE.p (v := (Value.pointer (some (a26.add (x4.toNat * 3))))) (Wn.no rfl) rfl (R.idx (s := p0) sl33 rfl rfl h27 h28 h29) ?_
        refine LE.p (v := (Value.pointer (some ((a26.add (x4.toNat * 3)).add 1)))) (Wn.no rfl) rfl (R.fld (off := 1) fa31_1 rfl) ?_
        obtain ⟨t30, h31, h⟩ := h
        refine LE.r (v := (Value.int .i64 t30)) (Wn.no rfl) rfl (R.ld sc3 rfl h31) ?_
        refine LE.c (Wn.no rfl) rfl (R.call bd21 (Ls.cons rfl (Ls.cons rfl Ls.nil)) rfl) (Calls.mono h ?_)
        rintro _ w32 ⟨rfl, h⟩
        refine ⟨_, rfl, ?_⟩
        refine LE.nil ?_
        refine WE.seq ?_
        refine WE.reg ?_
        refine LE.p (v := (Value.pointer r1)) (Wn.no rfl) rfl (R.move f22) ?_
        refine LE.p (v := (SV.v p0)) (Wn.no rfl) rfl (R.move f21) ?_
        refine LE.p (v := (Value.int .i64 x4)) (Wn.no rfl) rfl (R.move f23) ?_
        obtain ⟨a33, h34, h35, h36, h⟩ := h
        refine LE.p (v := (Value.pointer (some (a33.add (x4.toNat * 3))))) (Wn.no rfl) rfl (R.idx (s := p0) sl33 rfl rfl h34 h35 h36) ?_
        refine LE.p (v := (Value.pointer (some ((a33.add (x4.toNat * 3)).add 1)))) (Wn.no rfl) rfl (R.fld (off := 1) fa31_1 rfl) ?_
        obtain ⟨t37, h38, h⟩ := h
        refine LE.r (v := (Value.int .i64 t37)) (Wn.no rfl) rfl (R.ld sc3 rfl h38) ?_
        refine LE.c (Wn.no rfl) rfl (R.call bd22 (Ls.cons rfl (Ls.cons rfl Ls.nil)) rfl) (Calls.mono h ?_)
        rintro _ w39 ⟨rfl, h⟩
        refine ⟨_, rfl, ?_⟩
        refine LE.nil ?_
        refine WE.seq ?_
        refine WE.reg ?_
        refine LE.p (v := (Value.pointer r1)) (Wn.no rfl) rfl (R.move f22) ?_
        refine LE.p (v := (SV.v p0)) (Wn.no rfl) rfl (R.move f21) ?_
        refine LE.p (v := (Value.int .i64 x4)) (Wn.no rfl) rfl (R.move f23) ?_
        obtain ⟨a40, h41, h42, h43, h⟩ := h
        refine LE.p (v := (Value.pointer (some (a40.add (x4.toNat * 3))))) (Wn.no rfl) rfl (R.idx (s := p0) sl33 rfl rfl h41 h42 h43) ?_
        refine LE.p (v := (Value.pointer (some ((a40.add (x4.toNat * 3)).add 1)))) (Wn.no rfl) rfl (R.fld (off := 1) fa31_1 rfl) ?_
        obtain ⟨t44, h45, h⟩ := h
        refine LE.r (v := (Value.int .i64 t44)) (Wn.no rfl) rfl (R.ld sc3 rfl h45) ?_
        refine LE.p (v := (Value.int .u32 (IntKind.u32.wrap t44))) (Wn.no rfl) rfl (R.conv in37 in3 rfl) ?_
        refine LE.c (Wn.no rfl) rfl (R.call bd23 (Ls.cons rfl (Ls.cons rfl Ls.nil)) rfl) (Calls.mono h ?_)
        rintro _ w46 ⟨rfl, h⟩
        refine ⟨_, rfl, ?_⟩
        refine LE.nil ?_
        refine WE.reg ?_
        refine LE.p (v := (Value.pointer r1)) (Wn.no rfl) rfl (R.move f22) ?_
        refine LE.p (v := (SV.v p0)) (Wn.no rfl) rfl (R.move f21) ?_
        refine LE.p (v := (Value.int .i64 x4)) (Wn.no rfl) rfl (R.move f23) ?_
        obtain ⟨a47, h48, h49, h50, h⟩ := h
        refine LE.p (v := (Value.pointer (some (a47.add (x4.toNat * 3))))) (Wn.no rfl) rfl (R.idx (s := p0) sl33 rfl rfl h48 h49 h50) ?_
        refine LE.p (v := (Value.pointer (some ((a47.add (x4.toNat * 3)).add 2)))) (Wn.no rfl) rfl (R.fld (off := 2) fa31_2 rfl) ?_
        obtain ⟨t51, h52, h⟩ := h
        refine LE.r (v := (SV.v t51)) (Wn.no rfl) rfl (R.ld sc23 rfl h52) ?_
        refine LE.c (Wn.no rfl) rfl (R.call bd10 (Ls.cons rfl (Ls.cons rfl Ls.nil)) rfl) (Calls.mono h ?_)
        rintro _ w54 ⟨r53, rfl, h⟩
        refine ⟨_, rfl, ?_⟩
        refine LE.c (Wn.no rfl) rfl (R.call bd24 (Ls.cons rfl (Ls.cons rfl Ls.nil)) rfl) (Calls.mono h ?_)
        rintro _ w55 ⟨rfl, h⟩
        refine ⟨_, rfl, ?_⟩
        refine LE.nil ?_
        refine WE.reg ?_
        refine LE.p (v := (Value.int .i64 x4)) (Wn.no rfl) rfl (R.move f23) ?_
        refine LE.p (v := (Value.int .i64 (IntKind.i64.wrap (x4 + (1 : Int))))) (Wn.no rfl) rfl (R.add rfl rfl) ?_
        refine LE.p (v := (Value.int .i64 (IntKind.i64.wrap (x4 + (1 : Int))))) (Wn.no rfl) rfl (R.assign rfl) ?_
        refine LE.nil ?_
        obtain ⟨m11, hm12, h⟩ := h
        exact ⟨m11, hm12, _, h, f21, f22, rfl⟩
      · intro hb25
        replace h := M.ite_f h hb25
        refine WE.exit ?_
        refine WE.seq ?_
        refine WE.reg ?_
        refine LE.p (v := (Value.pointer r1)) (Wn.no rfl) rfl (R.move f22) ?_
        refine LE.c (Wn.no rfl) rfl (R.call bd20 (Ls.cons rfl Ls.nil) rfl) (Calls.mono h ?_)
        rintro _ w57 ⟨r56, rfl, h⟩
        refine ⟨_, rfl, ?_⟩
        refine LE.c (Wn.no rfl) rfl (R.call bd7 (Ls.cons rfl Ls.nil) rfl) (Calls.mono h ?_)
        rintro _ w59 ⟨r58, rfl, h⟩
        refine ⟨_, rfl, ?_⟩
        refine LE.p (v := (Value.pointer r58)) (Wn.no rfl) rfl (R.assign rfl) ?_
        refine LE.nil ?_
        refine WE.seq ?_
        refine WE.seq ?_
        obtain ⟨J60, hJ60, h⟩ := M.join_use h
        refine WE.regJ (fun e w => ∃ (x61 : Bool), J60 x61 w ∧ e 0 = (SV.v p0) ∧ e 5 = (Value.pointer r58) ∧ e 62 = (Value.bool x61)) ?_ ?_
        · clear hJ60
          refine LE.p (v := (Value.pointer r58)) (Wn.no rfl) rfl (R.move rfl) ?_
          refine LE.p (v := (Value.bool (Option.isNone r58))) (Wn.no rfl) rfl (R.peqNil pt24 rfl rfl) ?_
          refine LE.p (v := (Value.bool (Option.isNone r58))) (Wn.no rfl) rfl (R.move rfl) ?_
          rcases M.ite_use h with ⟨hb62, h⟩ | ⟨hb62, h⟩
          · refine LE.u (Un.no 2 56 false rfl rfl rfl (congrArg Value.bool hb62)) ?_
            refine LE.u (Un.no 2 56 false rfl rfl rfl (congrArg Value.bool hb62)) ?_
            refine LE.u (Un.no 2 56 false rfl rfl rfl (congrArg Value.bool hb62)) ?_
            refine LE.u (Un.no 2 56 false rfl rfl rfl (congrArg Value.bool hb62)) ?_
            refine LE.u (Un.no 2 56 false rfl rfl rfl (congrArg Value.bool hb62)) ?_
            refine LE.p (v := (Value.bool true)) (Wn.no rfl) rfl (R.pickT (congrArg Value.bool hb62) rfl) ?_
            refine LE.nil ?_
            exact ⟨_, h, f21, rfl, rfl⟩
          · refine LE.p (v := (Value.pointer r58)) (Wn.yes 2 56 false rfl rfl rfl (congrArg Value.bool hb62)) rfl (R.move rfl) ?_
            refine LE.c (Wn.yes 2 56 false rfl rfl rfl (congrArg Value.bool hb62)) rfl (R.call bd11 (Ls.cons rfl Ls.nil) rfl) (Calls.mono h ?_)
            rintro _ w64 ⟨r63, rfl, h⟩
            refine ⟨_, rfl, ?_⟩
            refine LE.p (v := (Value.pointer r1)) (Wn.yes 2 56 false rfl rfl rfl (congrArg Value.bool hb62)) rfl (R.move f22) ?_
            refine LE.c (Wn.yes 2 56 false rfl rfl rfl (congrArg Value.bool hb62)) rfl (R.call bd19 (Ls.cons rfl Ls.nil) rfl) (Calls.mono h ?_)
            rintro _ w66 ⟨r65, rfl, h⟩
            refine ⟨_, rfl, ?_⟩
            refine LE.p (v := (Value.bool (r63 != r65))) (Wn.yes 2 56 false rfl rfl rfl (congrArg Value.bool hb62)) rfl (R.neq rfl rfl) ?_
            refine LE.p (v := (Value.bool (r63 != r65))) (Wn.no rfl) rfl (R.pickF (congrArg Value.bool hb62) rfl) ?_
            refine LE.nil ?_
            exact ⟨_, h, f21, rfl, rfl⟩
        · rintro e67 w68 ⟨x61, h, f69, f70, f71⟩
          subst hJ60
          refine WE.condT rfl (b := x61) f71 ?_ ?_
          · intro hb72
            replace h := M.ite_t h hb72
            refine WE.seq ?_
            refine WE.reg ?_
            refine LE.p (v := (Value.bool false)) (Wn.no rfl) rfl (R.assign rfl) ?_
            refine LE.nil ?_
            refine WE.ret ?_
            exact ⟨_, (Res.tmp rfl Res.nil), _, rfl, h⟩
          · intro hb72
            replace h := M.ite_f h hb72
            refine WE.skip ?_
            refine WE.seq ?_
            refine WE.seq ?_
            refine WE.reg ?_
            refine LE.p (v := (Value.int .i64 (0 : Int))) (Wn.no rfl) rfl (R.assign rfl) ?_
            refine LE.nil ?_
            refine WE.block ?_
            obtain ⟨I78, ⟨n77, h⟩, hr79⟩ := h
            refine WE.loop (fun n e w => ∃ (x73 : Int), I78 n x73 w ∧ e 0 = (SV.v p0) ∧ e 5 = (Value.pointer r58) ∧ e 6 = (Value.int .i64 x73)) n77 ⟨_, h, f69, f70, rfl⟩ ?_
            clear h
            rintro n77 e76 w75 ⟨x73, h, f82, f83, f84⟩
            replace h := hr79 n77 x73 w75 h
            refine WE.seq ?_
            refine WE.seq ?_
            obtain ⟨J85, hJ85, h⟩ := M.join_use h
            refine WE.regJ (fun e w => ∃ (x86 : Bool), J85 x86 w ∧ e 0 = (SV.v p0) ∧ e 5 = (Value.pointer r58) ∧ e 6 = (Value.int .i64 x73) ∧ e 70 = (Value.bool x86)) ?_ ?_
            · clear hJ85
              refine LE.p (v := (Value.int .i64 x73)) (Wn.no rfl) rfl (R.move f84) ?_
              refine LE.p (v := (SV.v p0)) (Wn.no rfl) rfl (R.move f82) ?_
              refine LE.p (v := (Value.int .i64 (p0.len : Int))) (Wn.no rfl) rfl (R.len sl33 rfl) ?_
              refine LE.p (v := (Value.bool (decide (x73 < (p0.len : Int))))) (Wn.no rfl) rfl (R.lss rfl rfl) ?_
              refine LE.p (v := (Value.bool (decide (x73 < (p0.len : Int))))) (Wn.no rfl) rfl (R.move rfl) ?_
              rcases M.ite_use h with ⟨hb87, h⟩ | ⟨hb87, h⟩
              · refine LE.p (v := (Value.int .i64 x73)) (Wn.yes 4 67 true rfl rfl rfl (congrArg Value.bool hb87)) rfl (R.move f84) ?_
                refine LE.p (v := (Value.bool (decide (x73 < (30 : Int))))) (Wn.yes 4 67 true rfl rfl rfl (congrArg Value.bool hb87)) rfl (R.lss rfl rfl) ?_
                refine LE.p (v := (Value.bool (decide (x73 < (30 : Int))))) (Wn.no rfl) rfl (R.pickT (congrArg Value.bool hb87) rfl) ?_
                refine LE.nil ?_
                exact ⟨_, h, f82, f83, f84, rfl⟩
              · refine LE.u (Un.no 4 67 true rfl rfl rfl (congrArg Value.bool hb87)) ?_
                refine LE.u (Un.no 4 67 true rfl rfl rfl (congrArg Value.bool hb87)) ?_
                refine LE.p (v := (Value.bool false)) (Wn.no rfl) rfl (R.pickF (congrArg Value.bool hb87) rfl) ?_
                refine LE.nil ?_
                exact ⟨_, h, f82, f83, f84, rfl⟩
            · rintro e88 w89 ⟨x86, h, f90, f91, f92, f93⟩
              subst hJ85
              refine WE.condT rfl (b := x86) f93 ?_ ?_
              · intro hb94
                replace h := M.ite_t h hb94
                refine WE.skip ?_
                refine WE.seq ?_
                refine WE.block ?_
                refine WE.seq ?_
                refine WE.reg ?_
                refine LE.p (v := (SV.v p0)) (Wn.no rfl) rfl (R.move f90) ?_
                refine LE.p (v := (Value.int .i64 x73)) (Wn.no rfl) rfl (R.move f92) ?_
                obtain ⟨a95, h96, h97, h98, h⟩ := h
                refine LE.p (v := (Value.pointer (some (a95.add (x73.toNat * 3))))) (Wn.no rfl) rfl (R.idx (s := p0) sl33 rfl rfl h96 h97 h98) ?_
                refine LE.p (v := (Value.pointer (some ((a95.add (x73.toNat * 3)).add 2)))) (Wn.no rfl) rfl (R.fld (off := 2) fa31_2 rfl) ?_
                obtain ⟨t99, h100, h⟩ := h
                refine LE.r (v := (SV.v t99)) (Wn.no rfl) rfl (R.ld sc23 rfl h100) ?_
                refine LE.c (Wn.no rfl) rfl (R.call bd10 (Ls.cons rfl (Ls.cons rfl Ls.nil)) rfl) (Calls.mono h ?_)
                rintro _ w102 ⟨r101, rfl, h⟩
                refine ⟨_, rfl, ?_⟩
                refine LE.p (v := (SV.v r101)) (Wn.no rfl) rfl (R.assign rfl) ?_
                refine LE.nil ?_
                refine WE.seq ?_
                obtain ⟨J103, hJ103, h⟩ := M.join_use h
                refine WE.drawJ (fun e w => ∃ (x104 : Bool), J103 x104 w ∧ e 0 = (SV.v p0) ∧ e 5 = (Value.pointer r58) ∧ e 6 = (Value.int .i64 x73) ∧ e 124 = (Value.bool x104)) mix ?_ ?_
                · clear hJ103
                  obtain ⟨w105, hww105, h⟩ := M.drew_use h
                  rw [← hww105]
                  clear hww105
                  refine DE.t 0 (v := (Value.pointer r58)) rfl (by kernel_rfl) (Wn.no rfl) rfl (R.move f91) ?_
                  refine DE.t 2 (v := (SV.v p0)) rfl (by kernel_rfl) (Wn.no rfl) rfl (R.move f90) ?_
                  refine DE.t 3 (v := (Value.int .i64 x73)) rfl (by kernel_rfl) (Wn.no rfl) rfl (R.move f92) ?_
                  obtain ⟨a106, h107, h108, h109, h⟩ := h
                  refine DE.t 4 (v := (Value.pointer (some (a106.add (x73.toNat * 3))))) rfl (by kernel_rfl) (Wn.no rfl) rfl (R.idx (s := p0) sl33 rfl rfl h107 h108 h109) ?_
                  refine DE.t 5 (v := (Value.pointer (some ((a106.add (x73.toNat * 3)).add 1)))) rfl (by kernel_rfl) (Wn.no rfl) rfl (R.fld (off := 1) fa31_1 rfl) ?_
                  obtain ⟨t110, h111, h⟩ := h
                  refine DE.hold 6 (fun w => w.cell? ((a106.add (x73.toNat * 3)).add 1) = some (Value.int .i64 t110)) (v := (Value.int .i64 t110)) rfl (by kernel_rfl) (Wn.no rfl) rfl h111 (fun w hs => R.ld sc3 rfl hs) ?_
                  refine DE.t 7 (v := (Value.int .i64 (bAnd .i64 t110 (255 : Int)))) rfl (by kernel_rfl) (Wn.no rfl) rfl (R.and rfl rfl) ?_
                  refine DE.main 1 (by kernel_rfl) ?_
                  refine One.c 1 rfl (Wn.no rfl) rfl (R.call bd14 (Ls.cons rfl Ls.nil) rfl) (Calls.mono h ?_)
                  rintro _ w113 ⟨r112, rfl, h⟩
                  obtain ⟨k114, h⟩ := h
                  refine ⟨_, rfl, ⟨fun _ => k114, trivial⟩, ?_⟩
                  refine DE.t 8 (v := (Value.bool (r112 != (bAnd .i64 t110 (255 : Int))))) rfl (by kernel_rfl) (Wn.no rfl) rfl (R.neq rfl rfl) ?_
                  refine DE.t 9 (v := (Value.bool (r112 != (bAnd .i64 t110 (255 : Int))))) rfl (by kernel_rfl) (Wn.no rfl) rfl (R.move rfl) ?_
                  rcases M.ite_use h with ⟨hb115, h⟩ | ⟨hb115, h⟩
                  · refine DE.u 10 rfl (by kernel_rfl) (Un.no 9 88 false rfl rfl rfl (congrArg Value.bool hb115)) ?_
                    refine DE.u 11 rfl (by kernel_rfl) (Un.no 9 88 false rfl rfl rfl (congrArg Value.bool hb115)) ?_
                    refine DE.u 12 rfl (by kernel_rfl) (Un.no 9 88 false rfl rfl rfl (congrArg Value.bool hb115)) ?_
                    refine DE.u 13 rfl (by kernel_rfl) (Un.no 9 88 false rfl rfl rfl (congrArg Value.bool hb115)) ?_
                    refine DE.u 14 rfl (by kernel_rfl) (Un.no 9 88 false rfl rfl rfl (congrArg Value.bool hb115)) ?_
                    refine DE.u 15 rfl (by kernel_rfl) (Un.no 9 88 false rfl rfl rfl (congrArg Value.bool hb115)) ?_
                    refine DE.u 16 rfl (by kernel_rfl) (Un.no 9 88 false rfl rfl rfl (congrArg Value.bool hb115)) ?_
                    refine DE.u 17 rfl (by kernel_rfl) (Un.no 9 88 false rfl rfl rfl (congrArg Value.bool hb115)) ?_
                    refine DE.u 18 rfl (by kernel_rfl) (Un.no 9 88 false rfl rfl rfl (congrArg Value.bool hb115)) ?_
                    refine DE.t 19 (v := (Value.bool true)) rfl (by kernel_rfl) (Wn.no rfl) rfl (R.pickT (congrArg Value.bool hb115) rfl) ?_
                    refine DE.t 20 (v := (Value.bool true)) rfl (by kernel_rfl) (Wn.no rfl) rfl (R.move rfl) ?_
                    refine DE.u 21 rfl (by kernel_rfl) (Un.no 20 99 false rfl rfl rfl rfl) ?_
                    refine DE.u 22 rfl (by kernel_rfl) (Un.no 20 99 false rfl rfl rfl rfl) ?_
                    refine DE.u 23 rfl (by kernel_rfl) (Un.no 20 99 false rfl rfl rfl rfl) ?_
                    refine DE.u 24 rfl (by kernel_rfl) (Un.no 20 99 false rfl rfl rfl rfl) ?_
                    refine DE.u 25 rfl (by kernel_rfl) (Un.no 20 99 false rfl rfl rfl rfl) ?_
                    refine DE.u 26 rfl (by kernel_rfl) (Un.no 20 99 false rfl rfl rfl rfl) ?_
                    refine DE.u 27 rfl (by kernel_rfl) (Un.no 20 99 false rfl rfl rfl rfl) ?_
                    refine DE.u 28 rfl (by kernel_rfl) (Un.no 20 99 false rfl rfl rfl rfl) ?_
                    refine DE.u 29 rfl (by kernel_rfl) (Un.no 20 99 false rfl rfl rfl rfl) ?_
                    refine DE.t 30 (v := (Value.bool true)) rfl (by kernel_rfl) (Wn.no rfl) rfl (R.pickT rfl rfl) ?_
                    refine DE.t 31 (v := (Value.bool true)) rfl (by kernel_rfl) (Wn.no rfl) rfl (R.move rfl) ?_
                    refine DE.u 32 rfl (by kernel_rfl) (Un.no 31 110 false rfl rfl rfl rfl) ?_
                    refine DE.u 33 rfl (by kernel_rfl) (Un.no 31 110 false rfl rfl rfl rfl) ?_
                    refine DE.u 34 rfl (by kernel_rfl) (Un.no 31 110 false rfl rfl rfl rfl) ?_
                    refine DE.u 35 rfl (by kernel_rfl) (Un.no 31 110 false rfl rfl rfl rfl) ?_
                    refine DE.u 36 rfl (by kernel_rfl) (Un.no 31 110 false rfl rfl rfl rfl) ?_
                    refine DE.u 37 rfl (by kernel_rfl) (Un.no 31 110 false rfl rfl rfl rfl) ?_
                    refine DE.u 38 rfl (by kernel_rfl) (Un.no 31 110 false rfl rfl rfl rfl) ?_
                    refine DE.u 39 rfl (by kernel_rfl) (Un.no 31 110 false rfl rfl rfl rfl) ?_
                    refine DE.t 40 (v := (Value.bool true)) rfl (by kernel_rfl) (Wn.no rfl) rfl (R.pickT rfl rfl) ?_
                    refine DE.t 41 (v := (Value.bool true)) rfl (by kernel_rfl) (Wn.no rfl) rfl (R.move rfl) ?_
                    refine DE.u 42 rfl (by kernel_rfl) (Un.no 41 120 false rfl rfl rfl rfl) ?_
                    refine DE.u 43 rfl (by kernel_rfl) (Un.no 41 120 false rfl rfl rfl rfl) ?_
                    refine DE.u 44 rfl (by kernel_rfl) (Un.no 41 120 false rfl rfl rfl rfl) ?_
                    refine DE.t 45 (v := (Value.bool true)) rfl (by kernel_rfl) (Wn.no rfl) rfl (R.pickT rfl rfl) ?_
                    refine DE.done (by kernel_rfl) ?_
                    exact ⟨_, h, f90, f91, f92, rfl⟩
                  · refine DE.t 10 (v := (Value.pointer r58)) rfl (by kernel_rfl) (Wn.yes 9 88 false rfl rfl rfl (congrArg Value.bool hb115)) rfl (R.move f91) ?_
                    refine DE.t 12 (v := (SV.v p0)) rfl (by kernel_rfl) (Wn.yes 9 88 false rfl rfl rfl (congrArg Value.bool hb115)) rfl (R.move f90) ?_
                    refine DE.t 13 (v := (Value.int .i64 x73)) rfl (by kernel_rfl) (Wn.yes 9 88 false rfl rfl rfl (congrArg Value.bool hb115)) rfl (R.move f92) ?_
                    obtain ⟨a116, h117, h118, h119, h⟩ := h
                    refine DE.t 14 (v := (Value.pointer (some (a116.add (x73.toNat * 3))))) rfl (by kernel_rfl) (Wn.yes 9 88 false rfl rfl rfl (congrArg Value.bool hb115)) rfl (R.idx (s := p0) sl33 rfl rfl h117 h118 h119) ?_
                    refine DE.t 15 (v := (Value.pointer (some ((a116.add (x73.toNat * 3)).add 1)))) rfl (by kernel_rfl) (Wn.yes 9 88 false rfl rfl rfl (congrArg Value.bool hb115)) rfl (R.fld (off := 1) fa31_1 rfl) ?_
                    obtain ⟨t120, h121, h⟩ := h
                    refine DE.hold 16 (fun w => w.cell? ((a116.add (x73.toNat * 3)).add 1) = some (Value.int .i64 t120)) (v := (Value.int .i64 t120)) rfl (by kernel_rfl) (Wn.yes 9 88 false rfl rfl rfl (congrArg Value.bool hb115)) rfl h121 (fun w hs => R.ld sc3 rfl hs) ?_
                    refine DE.t 17 (v := (Value.int .i64 (bAnd .i64 t120 (65535 : Int)))) rfl (by kernel_rfl) (Wn.yes 9 88 false rfl rfl rfl (congrArg Value.bool hb115)) rfl (R.and rfl rfl) ?_
                    refine DE.main 11 (by kernel_rfl) ?_
                    refine One.c 11 rfl (Wn.yes 9 88 false rfl rfl rfl (congrArg Value.bool hb115)) rfl (R.call bd15 (Ls.cons rfl Ls.nil) rfl) (Calls.mono h ?_)
                    rintro _ w123 ⟨r122, rfl, h⟩
                    obtain ⟨k124, h⟩ := h
                    refine ⟨_, rfl, ⟨fun _ => k124, aftT (by kernel_rfl), trivial⟩, ?_⟩
                    refine DE.t 18 (v := (Value.bool (r122 != (bAnd .i64 t120 (65535 : Int))))) rfl (by kernel_rfl) (Wn.yes 9 88 false rfl rfl rfl (congrArg Value.bool hb115)) rfl (R.neq rfl rfl) ?_
                    refine DE.t 19 (v := (Value.bool (r122 != (bAnd .i64 t120 (65535 : Int))))) rfl (by kernel_rfl) (Wn.no rfl) rfl (R.pickF (congrArg Value.bool hb115) rfl) ?_
                    refine DE.t 20 (v := (Value.bool (r122 != (bAnd .i64 t120 (65535 : Int))))) rfl (by kernel_rfl) (Wn.no rfl) rfl (R.move rfl) ?_
                    rcases M.ite_use h with ⟨hb125, h⟩ | ⟨hb125, h⟩
                    · refine DE.u 21 rfl (by kernel_rfl) (Un.no 20 99 false rfl rfl rfl (congrArg Value.bool hb125)) ?_
                      refine DE.u 22 rfl (by kernel_rfl) (Un.no 20 99 false rfl rfl rfl (congrArg Value.bool hb125)) ?_
                      refine DE.u 23 rfl (by kernel_rfl) (Un.no 20 99 false rfl rfl rfl (congrArg Value.bool hb125)) ?_
                      refine DE.u 24 rfl (by kernel_rfl) (Un.no 20 99 false rfl rfl rfl (congrArg Value.bool hb125)) ?_
                      refine DE.u 25 rfl (by kernel_rfl) (Un.no 20 99 false rfl rfl rfl (congrArg Value.bool hb125)) ?_
                      refine DE.u 26 rfl (by kernel_rfl) (Un.no 20 99 false rfl rfl rfl (congrArg Value.bool hb125)) ?_
                      refine DE.u 27 rfl (by kernel_rfl) (Un.no 20 99 false rfl rfl rfl (congrArg Value.bool hb125)) ?_
                      refine DE.u 28 rfl (by kernel_rfl) (Un.no 20 99 false rfl rfl rfl (congrArg Value.bool hb125)) ?_
                      refine DE.u 29 rfl (by kernel_rfl) (Un.no 20 99 false rfl rfl rfl (congrArg Value.bool hb125)) ?_
                      refine DE.t 30 (v := (Value.bool true)) rfl (by kernel_rfl) (Wn.no rfl) rfl (R.pickT (congrArg Value.bool hb125) rfl) ?_
                      refine DE.t 31 (v := (Value.bool true)) rfl (by kernel_rfl) (Wn.no rfl) rfl (R.move rfl) ?_
                      refine DE.u 32 rfl (by kernel_rfl) (Un.no 31 110 false rfl rfl rfl rfl) ?_
                      refine DE.u 33 rfl (by kernel_rfl) (Un.no 31 110 false rfl rfl rfl rfl) ?_
                      refine DE.u 34 rfl (by kernel_rfl) (Un.no 31 110 false rfl rfl rfl rfl) ?_
                      refine DE.u 35 rfl (by kernel_rfl) (Un.no 31 110 false rfl rfl rfl rfl) ?_
                      refine DE.u 36 rfl (by kernel_rfl) (Un.no 31 110 false rfl rfl rfl rfl) ?_
                      refine DE.u 37 rfl (by kernel_rfl) (Un.no 31 110 false rfl rfl rfl rfl) ?_
                      refine DE.u 38 rfl (by kernel_rfl) (Un.no 31 110 false rfl rfl rfl rfl) ?_
                      refine DE.u 39 rfl (by kernel_rfl) (Un.no 31 110 false rfl rfl rfl rfl) ?_
                      refine DE.t 40 (v := (Value.bool true)) rfl (by kernel_rfl) (Wn.no rfl) rfl (R.pickT rfl rfl) ?_
                      refine DE.t 41 (v := (Value.bool true)) rfl (by kernel_rfl) (Wn.no rfl) rfl (R.move rfl) ?_
                      refine DE.u 42 rfl (by kernel_rfl) (Un.no 41 120 false rfl rfl rfl rfl) ?_
                      refine DE.u 43 rfl (by kernel_rfl) (Un.no 41 120 false rfl rfl rfl rfl) ?_
                      refine DE.u 44 rfl (by kernel_rfl) (Un.no 41 120 false rfl rfl rfl rfl) ?_
                      refine DE.t 45 (v := (Value.bool true)) rfl (by kernel_rfl) (Wn.no rfl) rfl (R.pickT rfl rfl) ?_
                      refine DE.done (by kernel_rfl) ?_
                      exact ⟨_, h, f90, f91, f92, rfl⟩
                    · refine DE.t 21 (v := (Value.pointer r58)) rfl (by kernel_rfl) (Wn.yes 20 99 false rfl rfl rfl (congrArg Value.bool hb125)) rfl (R.move f91) ?_
                      refine DE.t 23 (v := (SV.v p0)) rfl (by kernel_rfl) (Wn.yes 20 99 false rfl rfl rfl (congrArg Value.bool hb125)) rfl (R.move f90) ?_
                      refine DE.t 24 (v := (Value.int .i64 x73)) rfl (by kernel_rfl) (Wn.yes 20 99 false rfl rfl rfl (congrArg Value.bool hb125)) rfl (R.move f92) ?_
                      obtain ⟨a126, h127, h128, h129, h⟩ := h
                      refine DE.t 25 (v := (Value.pointer (some (a126.add (x73.toNat * 3))))) rfl (by kernel_rfl) (Wn.yes 20 99 false rfl rfl rfl (congrArg Value.bool hb125)) rfl (R.idx (s := p0) sl33 rfl rfl h127 h128 h129) ?_
                      refine DE.t 26 (v := (Value.pointer (some ((a126.add (x73.toNat * 3)).add 1)))) rfl (by kernel_rfl) (Wn.yes 20 99 false rfl rfl rfl (congrArg Value.bool hb125)) rfl (R.fld (off := 1) fa31_1 rfl) ?_
                      obtain ⟨t130, h131, h⟩ := h
                      refine DE.hold 27 (fun w => w.cell? ((a126.add (x73.toNat * 3)).add 1) = some (Value.int .i64 t130)) (v := (Value.int .i64 t130)) rfl (by kernel_rfl) (Wn.yes 20 99 false rfl rfl rfl (congrArg Value.bool hb125)) rfl h131 (fun w hs => R.ld sc3 rfl hs) ?_
                      refine DE.t 28 (v := (Value.int .u32 (IntKind.u32.wrap t130))) rfl (by kernel_rfl) (Wn.yes 20 99 false rfl rfl rfl (congrArg Value.bool hb125)) rfl (R.conv in37 in3 rfl) ?_
                      refine DE.main 22 (by kernel_rfl) ?_
                      refine One.c 22 rfl (Wn.yes 20 99 false rfl rfl rfl (congrArg Value.bool hb125)) rfl (R.call bd16 (Ls.cons rfl Ls.nil) rfl) (Calls.mono h ?_)
                      rintro _ w133 ⟨r132, rfl, h⟩
                      obtain ⟨k134, h⟩ := h
                      refine ⟨_, rfl, ⟨fun _ => k134, aftT (by kernel_rfl), aftT (by kernel_rfl), trivial⟩, ?_⟩
                      refine DE.t 29 (v := (Value.bool (r132 != (IntKind.u32.wrap t130)))) rfl (by kernel_rfl) (Wn.yes 20 99 false rfl rfl rfl (congrArg Value.bool hb125)) rfl (R.neq rfl rfl) ?_
                      refine DE.t 30 (v := (Value.bool (r132 != (IntKind.u32.wrap t130)))) rfl (by kernel_rfl) (Wn.no rfl) rfl (R.pickF (congrArg Value.bool hb125) rfl) ?_
                      refine DE.t 31 (v := (Value.bool (r132 != (IntKind.u32.wrap t130)))) rfl (by kernel_rfl) (Wn.no rfl) rfl (R.move rfl) ?_
                      rcases M.ite_use h with ⟨hb135, h⟩ | ⟨hb135, h⟩
                      · refine DE.u 32 rfl (by kernel_rfl) (Un.no 31 110 false rfl rfl rfl (congrArg Value.bool hb135)) ?_
                        refine DE.u 33 rfl (by kernel_rfl) (Un.no 31 110 false rfl rfl rfl (congrArg Value.bool hb135)) ?_
                        refine DE.u 34 rfl (by kernel_rfl) (Un.no 31 110 false rfl rfl rfl (congrArg Value.bool hb135)) ?_
                        refine DE.u 35 rfl (by kernel_rfl) (Un.no 31 110 false rfl rfl rfl (congrArg Value.bool hb135)) ?_
                        refine DE.u 36 rfl (by kernel_rfl) (Un.no 31 110 false rfl rfl rfl (congrArg Value.bool hb135)) ?_
                        refine DE.u 37 rfl (by kernel_rfl) (Un.no 31 110 false rfl rfl rfl (congrArg Value.bool hb135)) ?_
                        refine DE.u 38 rfl (by kernel_rfl) (Un.no 31 110 false rfl rfl rfl (congrArg Value.bool hb135)) ?_
                        refine DE.u 39 rfl (by kernel_rfl) (Un.no 31 110 false rfl rfl rfl (congrArg Value.bool hb135)) ?_
                        refine DE.t 40 (v := (Value.bool true)) rfl (by kernel_rfl) (Wn.no rfl) rfl (R.pickT (congrArg Value.bool hb135) rfl) ?_
                        refine DE.t 41 (v := (Value.bool true)) rfl (by kernel_rfl) (Wn.no rfl) rfl (R.move rfl) ?_
                        refine DE.u 42 rfl (by kernel_rfl) (Un.no 41 120 false rfl rfl rfl rfl) ?_
                        refine DE.u 43 rfl (by kernel_rfl) (Un.no 41 120 false rfl rfl rfl rfl) ?_
                        refine DE.u 44 rfl (by kernel_rfl) (Un.no 41 120 false rfl rfl rfl rfl) ?_
                        refine DE.t 45 (v := (Value.bool true)) rfl (by kernel_rfl) (Wn.no rfl) rfl (R.pickT rfl rfl) ?_
                        refine DE.done (by kernel_rfl) ?_
                        exact ⟨_, h, f90, f91, f92, rfl⟩
                      · refine DE.t 32 (v := (Value.pointer r58)) rfl (by kernel_rfl) (Wn.yes 31 110 false rfl rfl rfl (congrArg Value.bool hb135)) rfl (R.move f91) ?_
                        refine DE.t 33 (v := (SV.v r101)) rfl (by kernel_rfl) (Wn.yes 31 110 false rfl rfl rfl (congrArg Value.bool hb135)) rfl (R.move rfl) ?_
                        refine DE.t 34 (v := (Value.int .i64 (r101.len : Int))) rfl (by kernel_rfl) (Wn.yes 31 110 false rfl rfl rfl (congrArg Value.bool hb135)) rfl (R.len sl23 rfl) ?_
                        refine DE.t 37 (v := (SV.v r101)) rfl (by kernel_rfl) (Wn.yes 31 110 false rfl rfl rfl (congrArg Value.bool hb135)) rfl (R.move rfl) ?_
                        obtain ⟨t136, h137, h⟩ := h
                        refine DE.hold 38 (fun w => (convert 23 9 (SV.v r101)).run Try.prog w = .ok (.string t136) w) (v := (Value.string t136)) rfl (by kernel_rfl) (Wn.yes 31 110 false rfl rfl rfl (congrArg Value.bool hb135)) rfl h137 (fun w hs => R.b2s (s := r101) hs rfl) ?_
                        refine DE.main 35 (by kernel_rfl) ?_
                        refine One.c 35 rfl (Wn.yes 31 110 false rfl rfl rfl (congrArg Value.bool hb135)) rfl (R.call bd13 (Ls.cons rfl (Ls.cons rfl Ls.nil)) rfl) (Calls.mono h ?_)
                        rintro _ w139 ⟨r138, rfl, h⟩
                        obtain ⟨k140, h⟩ := h
                        refine ⟨_, rfl, ⟨fun _ => k140, aftT (by kernel_rfl), aftT (by kernel_rfl), aftT (by kernel_rfl), trivial⟩, ?_⟩
                        obtain ⟨t141, h142, h⟩ := h
                        refine DE.main 36 (by kernel_rfl) ?_
                        refine One.r 36 (v := (Value.string t141)) rfl (Wn.yes 31 110 false rfl rfl rfl (congrArg Value.bool hb135)) rfl (R.b2s (s := r138) h142 rfl) (.inl rfl) ?_
                        refine DE.t 39 (v := (Value.bool (!(t141.toList == t136.toList)))) rfl (by kernel_rfl) (Wn.yes 31 110 false rfl rfl rfl (congrArg Value.bool hb135)) rfl (R.sneq rfl rfl) ?_
                        refine DE.t 40 (v := (Value.bool (!(t141.toList == t136.toList)))) rfl (by kernel_rfl) (Wn.no rfl) rfl (R.pickF (congrArg Value.bool hb135) rfl) ?_
                        refine DE.t 41 (v := (Value.bool (!(t141.toList == t136.toList)))) rfl (by kernel_rfl) (Wn.no rfl) rfl (R.move rfl) ?_
                        rcases M.ite_use h with ⟨hb143, h⟩ | ⟨hb143, h⟩
                        · refine DE.u 42 rfl (by kernel_rfl) (Un.no 41 120 false rfl rfl rfl (congrArg Value.bool hb143)) ?_
                          refine DE.u 43 rfl (by kernel_rfl) (Un.no 41 120 false rfl rfl rfl (congrArg Value.bool hb143)) ?_
                          refine DE.u 44 rfl (by kernel_rfl) (Un.no 41 120 false rfl rfl rfl (congrArg Value.bool hb143)) ?_
                          refine DE.t 45 (v := (Value.bool true)) rfl (by kernel_rfl) (Wn.no rfl) rfl (R.pickT (congrArg Value.bool hb143) rfl) ?_
                          refine DE.done (by kernel_rfl) ?_
                          exact ⟨_, h, f90, f91, f92, rfl⟩
                        · refine DE.t 42 (v := (Value.pointer r58)) rfl (by kernel_rfl) (Wn.yes 41 120 false rfl rfl rfl (congrArg Value.bool hb143)) rfl (R.move f91) ?_
                          refine DE.main 43 (by kernel_rfl) ?_
                          refine One.c 43 rfl (Wn.yes 41 120 false rfl rfl rfl (congrArg Value.bool hb143)) rfl (R.call bd12 (Ls.cons rfl Ls.nil) rfl) (Calls.mono h ?_)
                          rintro _ w145 ⟨r144, rfl, h⟩
                          refine ⟨_, rfl, ⟨aftT (by kernel_rfl), aftT (by kernel_rfl), aftT (by kernel_rfl), aftT (by kernel_rfl), trivial⟩, ?_⟩
                          refine DE.t 44 (v := (Value.bool (!r144))) rfl (by kernel_rfl) (Wn.yes 41 120 false rfl rfl rfl (congrArg Value.bool hb143)) rfl (R.not rfl) ?_
                          refine DE.t 45 (v := (Value.bool (!r144))) rfl (by kernel_rfl) (Wn.no rfl) rfl (R.pickF (congrArg Value.bool hb143) rfl) ?_
                          refine DE.done (by kernel_rfl) ?_
                          exact ⟨_, h, f90, f91, f92, rfl⟩
                · rintro e146 w147 ⟨x104, h, f148, f149, f150, f151⟩
                  subst hJ103
                  refine WE.condT rfl (b := x104) f151 ?_ ?_
                  · intro hb152
                    replace h := M.ite_t h hb152
                    refine WE.seq ?_
                    refine WE.reg ?_
                    refine LE.p (v := (Value.bool false)) (Wn.no rfl) rfl (R.assign rfl) ?_
                    refine LE.nil ?_
                    refine WE.ret ?_
                    exact ⟨_, (Res.tmp rfl Res.nil), _, rfl, h⟩
                  · intro hb152
                    replace h := M.ite_f h hb152
                    refine WE.skip ?_
                    refine WE.reg ?_
                    refine LE.p (v := (Value.int .i64 x73)) (Wn.no rfl) rfl (R.move f150) ?_
                    refine LE.p (v := (Value.int .i64 (IntKind.i64.wrap (x73 + (1 : Int))))) (Wn.no rfl) rfl (R.add rfl rfl) ?_
                    refine LE.p (v := (Value.int .i64 (IntKind.i64.wrap (x73 + (1 : Int))))) (Wn.no rfl) rfl (R.assign rfl) ?_
                    refine LE.nil ?_
                    obtain ⟨m80, hm81, h⟩ := h
                    exact ⟨m80, hm81, _, h, f148, f149, rfl⟩
              · intro hb94
                replace h := M.ite_f h hb94
                refine WE.exit ?_
                refine WE.seq ?_
                obtain ⟨J153, hJ153, h⟩ := M.join_use h
                refine WE.regJ (fun e w => ∃ (x154 : Bool), J153 x154 w ∧ e 2 = (Value.bool x154)) ?_ ?_
                · clear hJ153
                  refine LE.p (v := (Value.pointer r58)) (Wn.no rfl) rfl (R.move f91) ?_
                  refine LE.c (Wn.no rfl) rfl (R.call bd11 (Ls.cons rfl Ls.nil) rfl) (Calls.mono h ?_)
                  rintro _ w156 ⟨r155, rfl, h⟩
                  refine ⟨_, rfl, ?_⟩
                  refine LE.p (v := (Value.bool (r155 == (0 : Int)))) (Wn.no rfl) rfl (R.eql rfl rfl) ?_
                  refine LE.p (v := (Value.bool (r155 == (0 : Int)))) (Wn.no rfl) rfl (R.move rfl) ?_
                  rcases M.ite_use h with ⟨hb157, h⟩ | ⟨hb157, h⟩
                  · refine LE.p (v := (Value.pointer r58)) (Wn.yes 3 128 true rfl rfl rfl (congrArg Value.bool hb157)) rfl (R.move f91) ?_
                    refine LE.c (Wn.yes 3 128 true rfl rfl rfl (congrArg Value.bool hb157)) rfl (R.call bd14 (Ls.cons rfl Ls.nil) rfl) (Calls.mono h ?_)
                    rintro _ w159 ⟨r158, rfl, h⟩
                    refine ⟨_, rfl, ?_⟩
                    refine LE.p (v := (Value.bool (r158 == (0 : Int)))) (Wn.yes 3 128 true rfl rfl rfl (congrArg Value.bool hb157)) rfl (R.eql rfl rfl) ?_
                    refine LE.p (v := (Value.bool (r158 == (0 : Int)))) (Wn.no rfl) rfl (R.pickT (congrArg Value.bool hb157) rfl) ?_
                    refine LE.p (v := (Value.bool (r158 == (0 : Int)))) (Wn.no rfl) rfl (R.move rfl) ?_
                    rcases M.ite_use h with ⟨hb160, h⟩ | ⟨hb160, h⟩
                    · refine LE.p (v := (Value.pointer r58)) (Wn.yes 8 133 true rfl rfl rfl (congrArg Value.bool hb160)) rfl (R.move f91) ?_
                      refine LE.c (Wn.yes 8 133 true rfl rfl rfl (congrArg Value.bool hb160)) rfl (R.call bd12 (Ls.cons rfl Ls.nil) rfl) (Calls.mono h ?_)
                      rintro _ w162 ⟨r161, rfl, h⟩
                      refine ⟨_, rfl, ?_⟩
                      refine LE.p (v := (Value.bool (!r161))) (Wn.yes 8 133 true rfl rfl rfl (congrArg Value.bool hb160)) rfl (R.not rfl) ?_
                      refine LE.p (v := (Value.bool (!r161))) (Wn.no rfl) rfl (R.pickT (congrArg Value.bool hb160) rfl) ?_
                      refine LE.p (v := (Value.bool (!r161))) (Wn.no rfl) rfl (R.move rfl) ?_
                      rcases M.ite_use h with ⟨hb163, h⟩ | ⟨hb163, h⟩
                      · refine LE.c (Wn.yes 13 138 true rfl rfl rfl (congrArg Value.bool hb163)) rfl (R.call bd9 Ls.nil rfl) (Calls.mono h ?_)
                        rintro _ w165 ⟨r164, rfl, h⟩
                        refine ⟨_, rfl, ?_⟩
                        refine LE.p (v := (Value.bool r164)) (Wn.no rfl) rfl (R.pickT (congrArg Value.bool hb163) rfl) ?_
                        refine LE.p (v := (Value.bool r164)) (Wn.no rfl) rfl (R.assign rfl) ?_
                        refine LE.nil ?_
                        exact ⟨_, h, rfl⟩
                      · refine LE.u (Un.no 13 138 true rfl rfl rfl (congrArg Value.bool hb163)) ?_
                        refine LE.p (v := (Value.bool false)) (Wn.no rfl) rfl (R.pickF (congrArg Value.bool hb163) rfl) ?_
                        refine LE.p (v := (Value.bool false)) (Wn.no rfl) rfl (R.assign rfl) ?_
                        refine LE.nil ?_
                        exact ⟨_, h, rfl⟩
                    · refine LE.u (Un.no 8 133 true rfl rfl rfl (congrArg Value.bool hb160)) ?_
                      refine LE.u (Un.no 8 133 true rfl rfl rfl (congrArg Value.bool hb160)) ?_
                      refine LE.u (Un.no 8 133 true rfl rfl rfl (congrArg Value.bool hb160)) ?_
                      refine LE.p (v := (Value.bool false)) (Wn.no rfl) rfl (R.pickF (congrArg Value.bool hb160) rfl) ?_
                      refine LE.p (v := (Value.bool false)) (Wn.no rfl) rfl (R.move rfl) ?_
                      refine LE.u (Un.no 13 138 true rfl rfl rfl rfl) ?_
                      refine LE.p (v := (Value.bool false)) (Wn.no rfl) rfl (R.pickF rfl rfl) ?_
                      refine LE.p (v := (Value.bool false)) (Wn.no rfl) rfl (R.assign rfl) ?_
                      refine LE.nil ?_
                      exact ⟨_, h, rfl⟩
                  · refine LE.u (Un.no 3 128 true rfl rfl rfl (congrArg Value.bool hb157)) ?_
                    refine LE.u (Un.no 3 128 true rfl rfl rfl (congrArg Value.bool hb157)) ?_
                    refine LE.u (Un.no 3 128 true rfl rfl rfl (congrArg Value.bool hb157)) ?_
                    refine LE.p (v := (Value.bool false)) (Wn.no rfl) rfl (R.pickF (congrArg Value.bool hb157) rfl) ?_
                    refine LE.p (v := (Value.bool false)) (Wn.no rfl) rfl (R.move rfl) ?_
                    refine LE.u (Un.no 8 133 true rfl rfl rfl rfl) ?_
                    refine LE.u (Un.no 8 133 true rfl rfl rfl rfl) ?_
                    refine LE.u (Un.no 8 133 true rfl rfl rfl rfl) ?_
                    refine LE.p (v := (Value.bool false)) (Wn.no rfl) rfl (R.pickF rfl rfl) ?_
                    refine LE.p (v := (Value.bool false)) (Wn.no rfl) rfl (R.move rfl) ?_
                    refine LE.u (Un.no 13 138 true rfl rfl rfl rfl) ?_
                    refine LE.p (v := (Value.bool false)) (Wn.no rfl) rfl (R.pickF rfl rfl) ?_
                    refine LE.p (v := (Value.bool false)) (Wn.no rfl) rfl (R.assign rfl) ?_
                    refine LE.nil ?_
                    exact ⟨_, h, rfl⟩
                · rintro e166 w167 ⟨x154, h, f168⟩
                  subst hJ153
                  refine WE.ret ?_
                  exact ⟨_, (Res.tmp f168 Res.nil), _, rfl, h⟩
/-- The formula of signpost.wire.NewReader. -/
def F7 (p0 : SV) (K : Option Addr → World → Prop) (w0 : World) : Prop :=
Calls Try.prog 25 #[(SV.v p0)] w0 (R25 fun r1 w2 =>
M.new (.cells #[(SV.v r1), (Value.bool false)] 51) w2 fun b4 w3 =>
K (some b4) w3)
theorem F7_ok {w0 : World} {p0 : SV} {K : Option Addr → World → Prop} (h : F7 p0 K w0) : Calls Try.prog 7 #[(SV.v p0)] w0 (R7 K) := by
  refine calls_of_WE (args := [(SV.v p0)]) (rs := [.tmp 2]) Try.func7 rfl (N := 7) rfl rfl rfl rfl ?_
  refine WE.seq ?_
  refine WE.reg ?_
  refine LE.p (v := (Value.pointer (none : Option Addr))) (Wn.no rfl) rfl (R.assign rfl) ?_
  refine LE.nil ?_
  refine WE.seq ?_
  refine WE.reg ?_
  refine LE.p (v := (SV.v p0)) (Wn.no rfl) rfl (R.move rfl) ?_
  refine LE.c (Wn.no rfl) rfl (R.call bd25 (Ls.cons rfl Ls.nil) rfl) (Calls.mono h ?_)
  rintro _ w2 ⟨r1, rfl, h⟩
  refine ⟨_, rfl, ?_⟩
  refine LE.p (v := (Value.agg #[(SV.v r1), (Value.bool false)])) (Wn.no rfl) rfl (R.bld (by exact (Ls.cons (R.Pr rfl) Ls.nil)) (fun w => bu51_0 r1 w)) ?_
  obtain ⟨b4, hpb4, w3, hww3, h⟩ := M.new_use h
  refine LE.r (v := (Value.pointer (some b4))) (Wn.no rfl) rfl (R.box (cs := #[(SV.v r1), (Value.bool false)]) rfl rfl hpb4 hww3) ?_
  refine LE.p (v := (Value.pointer (some b4))) (Wn.no rfl) rfl (R.assign rfl) ?_
  refine LE.nil ?_
  refine WE.ret ?_
  exact ⟨_, (Res.tmp rfl Res.nil), _, rfl, h⟩
/-- The formula of signpost.signpostlaw4.get. -/
def F8 (p0 : Option Addr) (p1 : Option Addr) (p2_0 : Int) (p2_1 : Int) (p2_2 : SV) (K : Bool → World → Prop) (w0 : World) : Prop :=
M.new (.cells #[(Value.int .i64 p2_0), (Value.int .i64 p2_1), (SV.v p2_2)] 31) w0 fun b2 w1 =>
M.ld (Value.int .i64) b2 w1 fun t3 =>
M.join (fun (x6 : Bool) (w38 : World) => 
M.join (fun (x43 : Bool) (w59 : World) => 
K x43 w59) fun J42 => 
M.drew w38 fun w44 => 
M.ite x6 (
Calls Try.prog 11 #[(Value.pointer p0)] w44 (R11 fun r46 w47 =>
Calls Try.prog 30 #[(Value.pointer p1)] w47 (R30 fun r48 w49 =>
M.ite (r46 == r48) (
M.nil p1 fun a51 =>
M.ld Value.bool (a51.add 2) w49 fun t53 =>
Calls Try.prog 12 #[(Value.pointer p0)] w49 (R12 fun r55 w56 =>
M.keep (w56.cell? (a51.add 2) = some (Value.bool t53)) <|
J42 (r55 == (!t53)) w56)) (
J42 false w49)))) (
J42 false w44)) fun J5 => 
M.ite (t3 == (1 : Int)) (
Calls Try.prog 14 #[(Value.pointer p0)] w1 (R14 fun r8 w9 =>
Calls Try.prog 26 #[(Value.pointer p1)] w9 (R26 fun r10 w11 =>
J5 (r8 == r10) w11))) (
M.ite (t3 == (2 : Int)) (
Calls Try.prog 15 #[(Value.pointer p0)] w1 (R15 fun r13 w14 =>
Calls Try.prog 27 #[(Value.pointer p1)] w14 (R27 fun r15 w16 =>
J5 (r13 == r15) w16))) (
M.ite (t3 == (3 : Int)) (
Calls Try.prog 16 #[(Value.pointer p0)] w1 (R16 fun r18 w19 =>
Calls Try.prog 28 #[(Value.pointer p1)] w19 (R28 fun r20 w21 =>
J5 (r18 == r20) w21))) (
M.drew w1 fun w22 => 
M.ld (Value.int .i64) (b2.add 1) w22 fun t23 =>
M.ld (Value.int .i64) (b2.add 1) w22 fun t25 =>
Calls Try.prog 13 #[(Value.pointer p0), (Value.int .i64 t23)] w22 (R13 fun r27 w28 =>
M.keep (w28.cell? (b2.add 1) = some (Value.int .i64 t25)) <|
M.b2s Try.prog 23 9 r27 w28 fun t30 =>
Calls Try.prog 29 #[(Value.pointer p1), (Value.int .i64 t25)] w28 (R29 fun r32 w33 =>
M.keep ((convert 23 9 (SV.v r27)).run Try.prog w33 = .ok (.string t30) w33) <|
M.b2s Try.prog 23 9 r32 w33 fun t35 =>
J5 (t30.toList == t35.toList) w33)))))
theorem F8_ok {w0 : World} {p0 : Option Addr} {p1 : Option Addr} {p2_0 : Int} {p2_1 : Int} {p2_2 : SV} {K : Bool → World → Prop} (h : F8 p0 p1 p2_0 p2_1 p2_2 K w0) : Calls Try.prog 8 #[(Value.pointer p0), (Value.pointer p1), (Value.agg #[(Value.int .i64 p2_0), (Value.int .i64 p2_1), (SV.v p2_2)])] w0 (R8 K) := by
  refine calls_of_WE (args := [(Value.pointer p0), (Value.pointer p1), (Value.agg #[(Value.int .i64 p2_0), (Value.int .i64 p2_1), (SV.v p2_2)])]) (rs := [.tmp 6]) Try.func8 rfl (N := 60) rfl rfl rfl rfl ?_
  refine WE.seq ?_
  refine WE.reg ?_
  obtain ⟨b2, hpb2, w1, hww1, h⟩ := M.new_use h
  refine LE.r (v := (Value.pointer (some b2))) (Wn.no rfl) rfl (R.box (cs := #[(Value.int .i64 p2_0), (Value.int .i64 p2_1), (SV.v p2_2)]) rfl rfl hpb2 hww1) ?_
  refine LE.p (v := (Value.bool false)) (Wn.no rfl) rfl (R.assign rfl) ?_
  refine LE.nil ?_
  refine WE.seq ?_
  refine WE.reg ?_
  refine LE.p (v := (Value.bool true)) (Wn.no rfl) rfl (R.assign rfl) ?_
  refine LE.nil ?_
  refine WE.seq ?_
  refine WE.seq ?_
  refine WE.reg ?_
  refine LE.p (v := (Value.pointer (some b2))) (Wn.no rfl) rfl (R.fld (off := 0) fa31_0 rfl) ?_
  obtain ⟨t3, h4, h⟩ := h
  refine LE.r (v := (Value.int .i64 t3)) (Wn.no rfl) rfl (R.ld sc3 rfl h4) ?_
  refine LE.nil ?_
  obtain ⟨J5, hJ5, h⟩ := M.join_use h
  refine WE.blkJ (fun e w => ∃ (x6 : Bool), J5 x6 w ∧ e 0 = (Value.pointer p0) ∧ e 1 = (Value.pointer p1) ∧ e 7 = (Value.bool x6)) ?_ ?_
  · clear hJ5
    refine WE.seq ?_
    refine WE.reg ?_
    refine LE.p (v := (Value.bool (t3 == (1 : Int)))) (Wn.no rfl) rfl (R.eql rfl rfl) ?_
    refine LE.p (v := (Value.bool (t3 == (1 : Int)))) (Wn.no rfl) rfl (R.assign rfl) ?_
    refine LE.nil ?_
    refine WE.condT rfl (b := (t3 == (1 : Int))) rfl ?_ ?_
    · intro hb7
      replace h := M.ite_t h hb7
      refine WE.reg ?_
      refine LE.p (v := (Value.pointer p0)) (Wn.no rfl) rfl (R.move rfl) ?_
      refine LE.c (Wn.no rfl) rfl (R.call bd14 (Ls.cons rfl Ls.nil) rfl) (Calls.mono h ?_)
      rintro _ w9 ⟨r8, rfl, h⟩
      refine ⟨_, rfl, ?_⟩
      refine LE.p (v := (Value.pointer p1)) (Wn.no rfl) rfl (R.move rfl) ?_
      refine LE.c (Wn.no rfl) rfl (R.call bd26 (Ls.cons rfl Ls.nil) rfl) (Calls.mono h ?_)
      rintro _ w11 ⟨r10, rfl, h⟩
      refine ⟨_, rfl, ?_⟩
      refine LE.p (v := (Value.bool (r8 == r10))) (Wn.no rfl) rfl (R.eql rfl rfl) ?_
      refine LE.p (v := (Value.bool (r8 == r10))) (Wn.no rfl) rfl (R.assign rfl) ?_
      refine LE.nil ?_
      exact ⟨_, h, rfl, rfl, rfl⟩
    · intro hb7
      replace h := M.ite_f h hb7
      refine WE.seq ?_
      refine WE.reg ?_
      refine LE.p (v := (Value.bool (t3 == (2 : Int)))) (Wn.no rfl) rfl (R.eql rfl rfl) ?_
      refine LE.p (v := (Value.bool (t3 == (2 : Int)))) (Wn.no rfl) rfl (R.assign rfl) ?_
      refine LE.nil ?_
      refine WE.condT rfl (b := (t3 == (2 : Int))) rfl ?_ ?_
      · intro hb12
        replace h := M.ite_t h hb12
        refine WE.reg ?_
        refine LE.p (v := (Value.pointer p0)) (Wn.no rfl) rfl (R.move rfl) ?_
        refine LE.c (Wn.no rfl) rfl (R.call bd15 (Ls.cons rfl Ls.nil) rfl) (Calls.mono h ?_)
        rintro _ w14 ⟨r13, rfl, h⟩
        refine ⟨_, rfl, ?_⟩
        refine LE.p (v := (Value.pointer p1)) (Wn.no rfl) rfl (R.move rfl) ?_
        refine LE.c (Wn.no rfl) rfl (R.call bd27 (Ls.cons rfl Ls.nil) rfl) (Calls.mono h ?_)
        rintro _ w16 ⟨r15, rfl, h⟩
        refine ⟨_, rfl, ?_⟩
        refine LE.p (v := (Value.bool (r13 == r15))) (Wn.no rfl) rfl (R.eql rfl rfl) ?_
        refine LE.p (v := (Value.bool (r13 == r15))) (Wn.no rfl) rfl (R.assign rfl) ?_
        refine LE.nil ?_
        exact ⟨_, h, rfl, rfl, rfl⟩
      · intro hb12
        replace h := M.ite_f h hb12
        refine WE.seq ?_
        refine WE.reg ?_
        refine LE.p (v := (Value.bool (t3 == (3 : Int)))) (Wn.no rfl) rfl (R.eql rfl rfl) ?_
        refine LE.p (v := (Value.bool (t3 == (3 : Int)))) (Wn.no rfl) rfl (R.assign rfl) ?_
        refine LE.nil ?_
        refine WE.condT rfl (b := (t3 == (3 : Int))) rfl ?_ ?_
        · intro hb17
          replace h := M.ite_t h hb17
          refine WE.reg ?_
          refine LE.p (v := (Value.pointer p0)) (Wn.no rfl) rfl (R.move rfl) ?_
          refine LE.c (Wn.no rfl) rfl (R.call bd16 (Ls.cons rfl Ls.nil) rfl) (Calls.mono h ?_)
          rintro _ w19 ⟨r18, rfl, h⟩
          refine ⟨_, rfl, ?_⟩
          refine LE.p (v := (Value.pointer p1)) (Wn.no rfl) rfl (R.move rfl) ?_
          refine LE.c (Wn.no rfl) rfl (R.call bd28 (Ls.cons rfl Ls.nil) rfl) (Calls.mono h ?_)
          rintro _ w21 ⟨r20, rfl, h⟩
          refine ⟨_, rfl, ?_⟩
          refine LE.p (v := (Value.bool (r18 == r20))) (Wn.no rfl) rfl (R.eql rfl rfl) ?_
          refine LE.p (v := (Value.bool (r18 == r20))) (Wn.no rfl) rfl (R.assign rfl) ?_
          refine LE.nil ?_
          exact ⟨_, h, rfl, rfl, rfl⟩
        · intro hb17
          replace h := M.ite_f h hb17
          refine WE.draw mix ?_
          obtain ⟨w22, hww22, h⟩ := M.drew_use h
          rw [← hww22]
          clear hww22
          refine DE.t 0 (v := (Value.pointer p0)) rfl (by kernel_rfl) (Wn.no rfl) rfl (R.move rfl) ?_
          refine DE.t 1 (v := (Value.pointer (some (b2.add 1)))) rfl (by kernel_rfl) (Wn.no rfl) rfl (R.fld (off := 1) fa31_1 rfl) ?_
          refine DE.t 5 (v := (Value.pointer p1)) rfl (by kernel_rfl) (Wn.no rfl) rfl (R.move rfl) ?_
          refine DE.t 6 (v := (Value.pointer (some (b2.add 1)))) rfl (by kernel_rfl) (Wn.no rfl) rfl (R.fld (off := 1) fa31_1 rfl) ?_
          obtain ⟨t23, h24, h⟩ := h
          refine DE.hold 2 (fun w => w.cell? (b2.add 1) = some (Value.int .i64 t23)) (v := (Value.int .i64 t23)) rfl (by kernel_rfl) (Wn.no rfl) rfl h24 (fun w hs => R.ld sc3 rfl hs) ?_
          obtain ⟨t25, h26, h⟩ := h
          refine DE.hold 7 (fun w => w.cell? (b2.add 1) = some (Value.int .i64 t25)) (v := (Value.int .i64 t25)) rfl (by kernel_rfl) (Wn.no rfl) rfl h26 (fun w hs => R.ld sc3 rfl hs) ?_
          refine DE.main 3 (by kernel_rfl) ?_
          refine One.c 3 rfl (Wn.no rfl) rfl (R.call bd13 (Ls.cons rfl (Ls.cons rfl Ls.nil)) rfl) (Calls.mono h ?_)
          rintro _ w28 ⟨r27, rfl, h⟩
          obtain ⟨k29, h⟩ := h
          refine ⟨_, rfl, ⟨fun _ => k29, aftT (by kernel_rfl), trivial⟩, ?_⟩
          obtain ⟨t30, h31, h⟩ := h
          refine DE.hold 4 (fun w => (convert 23 9 (SV.v r27)).run Try.prog w = .ok (.string t30) w) (v := (Value.string t30)) rfl (by kernel_rfl) (Wn.no rfl) rfl h31 (fun w hs => R.b2s (s := r27) hs rfl) ?_
          refine DE.main 8 (by kernel_rfl) ?_
          refine One.c 8 rfl (Wn.no rfl) rfl (R.call bd29 (Ls.cons rfl (Ls.cons rfl Ls.nil)) rfl) (Calls.mono h ?_)
          rintro _ w33 ⟨r32, rfl, h⟩
          obtain ⟨k34, h⟩ := h
          refine ⟨_, rfl, ⟨fun _ => k34, aftT (by kernel_rfl), aftT (by kernel_rfl), trivial⟩, ?_⟩
          obtain ⟨t35, h36, h⟩ := h
          refine DE.main 9 (by kernel_rfl) ?_
          refine One.r 9 (v := (Value.string t35)) rfl (Wn.no rfl) rfl (R.b2s (s := r32) h36 rfl) (.inl rfl) ?_
          refine DE.t 10 (v := (Value.bool (t30.toList == t35.toList))) rfl (by kernel_rfl) (Wn.no rfl) rfl (R.seql rfl rfl) ?_
          refine DE.t 11 (v := (Value.bool (t30.toList == t35.toList))) rfl (by kernel_rfl) (Wn.no rfl) rfl (R.assign rfl) ?_
          refine DE.done (by kernel_rfl) ?_
          exact ⟨_, h, rfl, rfl, rfl⟩
  · rintro e37 w38 ⟨x6, h, f39, f40, f41⟩
    subst hJ5
    refine WE.seq ?_
    obtain ⟨J42, hJ42, h⟩ := M.join_use h
    refine WE.drawJ (fun e w => ∃ (x43 : Bool), J42 x43 w ∧ e 6 = (Value.bool x43)) mix ?_ ?_
    · clear hJ42
      obtain ⟨w44, hww44, h⟩ := M.drew_use h
      rw [← hww44]
      clear hww44
      refine DE.t 0 (v := (Value.bool x6)) rfl (by kernel_rfl) (Wn.no rfl) rfl (R.move f41) ?_
      refine DE.t 1 (v := (Value.bool x6)) rfl (by kernel_rfl) (Wn.no rfl) rfl (R.move rfl) ?_
      rcases M.ite_use h with ⟨hb45, h⟩ | ⟨hb45, h⟩
      · refine DE.t 2 (v := (Value.pointer p0)) rfl (by kernel_rfl) (Wn.yes 1 43 true rfl rfl rfl (congrArg Value.bool hb45)) rfl (R.move f39) ?_
        refine DE.t 4 (v := (Value.pointer p1)) rfl (by kernel_rfl) (Wn.yes 1 43 true rfl rfl rfl (congrArg Value.bool hb45)) rfl (R.move f40) ?_
        refine DE.main 3 (by kernel_rfl) ?_
        refine One.c 3 rfl (Wn.yes 1 43 true rfl rfl rfl (congrArg Value.bool hb45)) rfl (R.call bd11 (Ls.cons rfl Ls.nil) rfl) (Calls.mono h ?_)
        rintro _ w47 ⟨r46, rfl, h⟩
        refine ⟨_, rfl, trivial, ?_⟩
        refine DE.main 5 (by kernel_rfl) ?_
        refine One.c 5 rfl (Wn.yes 1 43 true rfl rfl rfl (congrArg Value.bool hb45)) rfl (R.call bd30 (Ls.cons rfl Ls.nil) rfl) (Calls.mono h ?_)
        rintro _ w49 ⟨r48, rfl, h⟩
        refine ⟨_, rfl, trivial, ?_⟩
        refine DE.t 6 (v := (Value.bool (r46 == r48))) rfl (by kernel_rfl) (Wn.yes 1 43 true rfl rfl rfl (congrArg Value.bool hb45)) rfl (R.eql rfl rfl) ?_
        refine DE.t 7 (v := (Value.bool (r46 == r48))) rfl (by kernel_rfl) (Wn.no rfl) rfl (R.pickT (congrArg Value.bool hb45) rfl) ?_
        refine DE.t 8 (v := (Value.bool (r46 == r48))) rfl (by kernel_rfl) (Wn.no rfl) rfl (R.move rfl) ?_
        rcases M.ite_use h with ⟨hb50, h⟩ | ⟨hb50, h⟩
        · refine DE.t 9 (v := (Value.pointer p0)) rfl (by kernel_rfl) (Wn.yes 8 50 true rfl rfl rfl (congrArg Value.bool hb50)) rfl (R.move f39) ?_
          refine DE.t 11 (v := (Value.pointer p1)) rfl (by kernel_rfl) (Wn.yes 8 50 true rfl rfl rfl (congrArg Value.bool hb50)) rfl (R.move f40) ?_
          obtain ⟨a51, h52, h⟩ := h
          refine DE.t 12 (v := (Value.pointer (some a51))) rfl (by kernel_rfl) (Wn.yes 8 50 true rfl rfl rfl (congrArg Value.bool hb50)) rfl (R.nilC (congrArg Value.pointer h52)) ?_
          refine DE.t 13 (v := (Value.pointer (some (a51.add 2)))) rfl (by kernel_rfl) (Wn.yes 8 50 true rfl rfl rfl (congrArg Value.bool hb50)) rfl (R.fld (off := 2) fa28_2 rfl) ?_
          obtain ⟨t53, h54, h⟩ := h
          refine DE.hold 14 (fun w => w.cell? (a51.add 2) = some (Value.bool t53)) (v := (Value.bool t53)) rfl (by kernel_rfl) (Wn.yes 8 50 true rfl rfl rfl (congrArg Value.bool hb50)) rfl h54 (fun w hs => R.ld sc4 rfl hs) ?_
          refine DE.t 15 (v := (Value.bool (!t53))) rfl (by kernel_rfl) (Wn.yes 8 50 true rfl rfl rfl (congrArg Value.bool hb50)) rfl (R.not rfl) ?_
          refine DE.main 10 (by kernel_rfl) ?_
          refine One.c 10 rfl (Wn.yes 8 50 true rfl rfl rfl (congrArg Value.bool hb50)) rfl (R.call bd12 (Ls.cons rfl Ls.nil) rfl) (Calls.mono h ?_)
          rintro _ w56 ⟨r55, rfl, h⟩
          obtain ⟨k57, h⟩ := h
          refine ⟨_, rfl, ⟨fun _ => k57, trivial⟩, ?_⟩
          refine DE.t 16 (v := (Value.bool (r55 == (!t53)))) rfl (by kernel_rfl) (Wn.yes 8 50 true rfl rfl rfl (congrArg Value.bool hb50)) rfl (R.beql bo4 rfl rfl) ?_
          refine DE.t 17 (v := (Value.bool (r55 == (!t53)))) rfl (by kernel_rfl) (Wn.no rfl) rfl (R.pickT (congrArg Value.bool hb50) rfl) ?_
          refine DE.t 18 (v := (Value.bool (r55 == (!t53)))) rfl (by kernel_rfl) (Wn.no rfl) rfl (R.assign rfl) ?_
          refine DE.done (by kernel_rfl) ?_
          exact ⟨_, h, rfl⟩
        · refine DE.u 9 rfl (by kernel_rfl) (Un.no 8 50 true rfl rfl rfl (congrArg Value.bool hb50)) ?_
          refine DE.u 10 rfl (by kernel_rfl) (Un.no 8 50 true rfl rfl rfl (congrArg Value.bool hb50)) ?_
          refine DE.u 11 rfl (by kernel_rfl) (Un.no 8 50 true rfl rfl rfl (congrArg Value.bool hb50)) ?_
          refine DE.u 12 rfl (by kernel_rfl) (Un.no 8 50 true rfl rfl rfl (congrArg Value.bool hb50)) ?_
          refine DE.u 13 rfl (by kernel_rfl) (Un.no 8 50 true rfl rfl rfl (congrArg Value.bool hb50)) ?_
          refine DE.u 14 rfl (by kernel_rfl) (Un.no 8 50 true rfl rfl rfl (congrArg Value.bool hb50)) ?_
          refine DE.u 15 rfl (by kernel_rfl) (Un.no 8 50 true rfl rfl rfl (congrArg Value.bool hb50)) ?_
          refine DE.u 16 rfl (by kernel_rfl) (Un.no 8 50 true rfl rfl rfl (congrArg Value.bool hb50)) ?_
          refine DE.t 17 (v := (Value.bool false)) rfl (by kernel_rfl) (Wn.no rfl) rfl (R.pickF (congrArg Value.bool hb50) rfl) ?_
          refine DE.t 18 (v := (Value.bool false)) rfl (by kernel_rfl) (Wn.no rfl) rfl (R.assign rfl) ?_
          refine DE.done (by kernel_rfl) ?_
          exact ⟨_, h, rfl⟩
      · refine DE.u 2 rfl (by kernel_rfl) (Un.no 1 43 true rfl rfl rfl (congrArg Value.bool hb45)) ?_
        refine DE.u 3 rfl (by kernel_rfl) (Un.no 1 43 true rfl rfl rfl (congrArg Value.bool hb45)) ?_
        refine DE.u 4 rfl (by kernel_rfl) (Un.no 1 43 true rfl rfl rfl (congrArg Value.bool hb45)) ?_
        refine DE.u 5 rfl (by kernel_rfl) (Un.no 1 43 true rfl rfl rfl (congrArg Value.bool hb45)) ?_
        refine DE.u 6 rfl (by kernel_rfl) (Un.no 1 43 true rfl rfl rfl (congrArg Value.bool hb45)) ?_
        refine DE.t 7 (v := (Value.bool false)) rfl (by kernel_rfl) (Wn.no rfl) rfl (R.pickF (congrArg Value.bool hb45) rfl) ?_
        refine DE.t 8 (v := (Value.bool false)) rfl (by kernel_rfl) (Wn.no rfl) rfl (R.move rfl) ?_
        refine DE.u 9 rfl (by kernel_rfl) (Un.no 8 50 true rfl rfl rfl rfl) ?_
        refine DE.u 10 rfl (by kernel_rfl) (Un.no 8 50 true rfl rfl rfl rfl) ?_
        refine DE.u 11 rfl (by kernel_rfl) (Un.no 8 50 true rfl rfl rfl rfl) ?_
        refine DE.u 12 rfl (by kernel_rfl) (Un.no 8 50 true rfl rfl rfl rfl) ?_
        refine DE.u 13 rfl (by kernel_rfl) (Un.no 8 50 true rfl rfl rfl rfl) ?_
        refine DE.u 14 rfl (by kernel_rfl) (Un.no 8 50 true rfl rfl rfl rfl) ?_
        refine DE.u 15 rfl (by kernel_rfl) (Un.no 8 50 true rfl rfl rfl rfl) ?_
        refine DE.u 16 rfl (by kernel_rfl) (Un.no 8 50 true rfl rfl rfl rfl) ?_
        refine DE.t 17 (v := (Value.bool false)) rfl (by kernel_rfl) (Wn.no rfl) rfl (R.pickF rfl rfl) ?_
        refine DE.t 18 (v := (Value.bool false)) rfl (by kernel_rfl) (Wn.no rfl) rfl (R.assign rfl) ?_
        refine DE.done (by kernel_rfl) ?_
        exact ⟨_, h, rfl⟩
    · rintro e58 w59 ⟨x43, h, f60⟩
      subst hJ42
      refine WE.ret ?_
      exact ⟨_, (Res.tmp f60 Res.nil), _, rfl, h⟩
/-- The formula of signpost.signpostlaw4.known. -/
def F9  (K : Bool → World → Prop) (w0 : World) : Prop :=
Calls Try.prog 17 #[] w0 (R17 fun r1 w2 =>
M.ite (Option.isNone r1) (
K false w2) (
Calls Try.prog 22 #[(Value.pointer r1), (Value.int .i64 (258 : Int))] w2 (R22 fun w4 =>
Calls Try.prog 23 #[(Value.pointer r1), (Value.int .u32 (1 : Int))] w4 (R23 fun w5 =>
M.join (fun (x7 : Bool) (w16 : World) => 
K x7 w16) fun J6 => 
Calls Try.prog 20 #[(Value.pointer r1)] w5 (R20 fun r8 w9 =>
M.b2s Try.prog 23 9 r8 w9 fun t10 =>
M.ite (t10.toList == str0.toList) (
Calls Try.prog 19 #[(Value.pointer r1)] w9 (R19 fun r13 w14 =>
J6 (r13 == (6 : Int)) w14)) (
J6 false w9))))))
theorem F9_ok {w0 : World}  {K : Bool → World → Prop} (h : F9 K w0) : Calls Try.prog 9 #[] w0 (R9 K) := by
  refine calls_of_WE (args := []) (rs := [.tmp 0]) Try.func9 rfl (N := 18) rfl rfl rfl rfl ?_
  refine WE.seq ?_
  refine WE.reg ?_
  refine LE.p (v := (Value.bool false)) (Wn.no rfl) rfl (R.assign rfl) ?_
  refine LE.nil ?_
  refine WE.seq ?_
  refine WE.reg ?_
  refine LE.c (Wn.no rfl) rfl (R.call bd17 Ls.nil rfl) (Calls.mono h ?_)
  rintro _ w2 ⟨r1, rfl, h⟩
  refine ⟨_, rfl, ?_⟩
  refine LE.p (v := (Value.pointer r1)) (Wn.no rfl) rfl (R.assign rfl) ?_
  refine LE.nil ?_
  refine WE.seq ?_
  refine WE.seq ?_
  refine WE.reg ?_
  refine LE.p (v := (Value.pointer r1)) (Wn.no rfl) rfl (R.move rfl) ?_
  refine LE.p (v := (Value.bool (Option.isNone r1))) (Wn.no rfl) rfl (R.peqNil pt40 rfl rfl) ?_
  refine LE.nil ?_
  refine WE.condT rfl (b := (Option.isNone r1)) rfl ?_ ?_
  · intro hb3
    replace h := M.ite_t h hb3
    refine WE.seq ?_
    refine WE.reg ?_
    refine LE.p (v := (Value.bool false)) (Wn.no rfl) rfl (R.assign rfl) ?_
    refine LE.nil ?_
    refine WE.ret ?_
    exact ⟨_, (Res.tmp rfl Res.nil), _, rfl, h⟩
  · intro hb3
    replace h := M.ite_f h hb3
    refine WE.skip ?_
    refine WE.seq ?_
    refine WE.reg ?_
    refine LE.p (v := (Value.pointer r1)) (Wn.no rfl) rfl (R.move rfl) ?_
    refine LE.c (Wn.no rfl) rfl (R.call bd22 (Ls.cons rfl (Ls.cons rfl Ls.nil)) rfl) (Calls.mono h ?_)
    rintro _ w4 ⟨rfl, h⟩
    refine ⟨_, rfl, ?_⟩
    refine LE.nil ?_
    refine WE.seq ?_
    refine WE.reg ?_
    refine LE.p (v := (Value.pointer r1)) (Wn.no rfl) rfl (R.move rfl) ?_
    refine LE.c (Wn.no rfl) rfl (R.call bd23 (Ls.cons rfl (Ls.cons rfl Ls.nil)) rfl) (Calls.mono h ?_)
    rintro _ w5 ⟨rfl, h⟩
    refine ⟨_, rfl, ?_⟩
    refine LE.nil ?_
    refine WE.seq ?_
    obtain ⟨J6, hJ6, h⟩ := M.join_use h
    refine WE.regJ (fun e w => ∃ (x7 : Bool), J6 x7 w ∧ e 0 = (Value.bool x7)) ?_ ?_
    · clear hJ6
      refine LE.p (v := (Value.pointer r1)) (Wn.no rfl) rfl (R.move rfl) ?_
      refine LE.c (Wn.no rfl) rfl (R.call bd20 (Ls.cons rfl Ls.nil) rfl) (Calls.mono h ?_)
      rintro _ w9 ⟨r8, rfl, h⟩
      refine ⟨_, rfl, ?_⟩
      obtain ⟨t10, h11, h⟩ := h
      refine LE.r (v := (Value.string t10)) (Wn.no rfl) rfl (R.b2s (s := r8) h11 rfl) ?_
      refine LE.p (v := (Value.bool (t10.toList == str0.toList))) (Wn.no rfl) rfl (R.seql rfl rfl) ?_
      refine LE.p (v := (Value.bool (t10.toList == str0.toList))) (Wn.no rfl) rfl (R.move rfl) ?_
      rcases M.ite_use h with ⟨hb12, h⟩ | ⟨hb12, h⟩
      · refine LE.p (v := (Value.pointer r1)) (Wn.yes 4 13 true rfl rfl rfl (congrArg Value.bool hb12)) rfl (R.move rfl) ?_
        refine LE.c (Wn.yes 4 13 true rfl rfl rfl (congrArg Value.bool hb12)) rfl (R.call bd19 (Ls.cons rfl Ls.nil) rfl) (Calls.mono h ?_)
        rintro _ w14 ⟨r13, rfl, h⟩
        refine ⟨_, rfl, ?_⟩
        refine LE.p (v := (Value.bool (r13 == (6 : Int)))) (Wn.yes 4 13 true rfl rfl rfl (congrArg Value.bool hb12)) rfl (R.eql rfl rfl) ?_
        refine LE.p (v := (Value.bool (r13 == (6 : Int)))) (Wn.no rfl) rfl (R.pickT (congrArg Value.bool hb12) rfl) ?_
        refine LE.p (v := (Value.bool (r13 == (6 : Int)))) (Wn.no rfl) rfl (R.assign rfl) ?_
        refine LE.nil ?_
        exact ⟨_, h, rfl⟩
      · refine LE.u (Un.no 4 13 true rfl rfl rfl (congrArg Value.bool hb12)) ?_
        refine LE.u (Un.no 4 13 true rfl rfl rfl (congrArg Value.bool hb12)) ?_
        refine LE.u (Un.no 4 13 true rfl rfl rfl (congrArg Value.bool hb12)) ?_
        refine LE.p (v := (Value.bool false)) (Wn.no rfl) rfl (R.pickF (congrArg Value.bool hb12) rfl) ?_
        refine LE.p (v := (Value.bool false)) (Wn.no rfl) rfl (R.assign rfl) ?_
        refine LE.nil ?_
        exact ⟨_, h, rfl⟩
    · rintro e15 w16 ⟨x7, h, f17⟩
      subst hJ6
      refine WE.ret ?_
      exact ⟨_, (Res.tmp f17 Res.nil), _, rfl, h⟩
/-- The formula of signpost.signpostkeep.Cut. -/
def F10 (p0 : SV) (p1 : Int) (K : SV → World → Prop) (w0 : World) : Prop :=
M.ite (decide (p1 < (p0.len : Int))) (
M.bnd (0 : Int) p1 p0 <|
K (SV.sub p0 (Int.toNat (0 : Int)) (Int.toNat p1) 1) w0) (
K p0 w0)
theorem F10_ok {w0 : World} {p0 : SV} {p1 : Int} {K : SV → World → Prop} (h : F10 p0 p1 K w0) : Calls Try.prog 10 #[(SV.v p0), (Value.int .i64 p1)] w0 (R10 K) := by
  refine calls_of_WE (args := [(SV.v p0), (Value.int .i64 p1)]) (rs := [.tmp 4]) Try.func10 rfl (N := 13) rfl rfl rfl rfl ?_
  refine WE.seq ?_
  refine WE.reg ?_
  refine LE.p (v := (SV.v SV.nil)) (Wn.no rfl) rfl (R.assign rfl) ?_
  refine LE.nil ?_
  refine WE.seq ?_
  refine WE.seq ?_
  refine WE.reg ?_
  refine LE.p (v := (SV.v p0)) (Wn.no rfl) rfl (R.move rfl) ?_
  refine LE.p (v := (Value.int .i64 (p0.len : Int))) (Wn.no rfl) rfl (R.len sl23 rfl) ?_
  refine LE.p (v := (Value.int .i64 p1)) (Wn.no rfl) rfl (R.move rfl) ?_
  refine LE.p (v := (Value.bool (decide (p1 < (p0.len : Int))))) (Wn.no rfl) rfl (R.gtr rfl rfl) ?_
  refine LE.nil ?_
  refine WE.condT rfl (b := (decide (p1 < (p0.len : Int)))) rfl ?_ ?_
  · intro hb1
    replace h := M.ite_t h hb1
    refine WE.seq ?_
    refine WE.reg ?_
    refine LE.p (v := (SV.v p0)) (Wn.no rfl) rfl (R.move rfl) ?_
    refine LE.p (v := (Value.int .i64 p1)) (Wn.no rfl) rfl (R.move rfl) ?_
    obtain ⟨h2, h3, h4, h⟩ := h
    refine LE.p (v := (SV.v (SV.sub p0 (Int.toNat (0 : Int)) (Int.toNat p1) 1))) (Wn.no rfl) rfl (R.slc (s := p0) (lo := (0 : Int)) (hi := p1) _ _ sl23 rfl rfl rfl h2 h3 h4) ?_
    refine LE.p (v := (SV.v (SV.sub p0 (Int.toNat (0 : Int)) (Int.toNat p1) 1))) (Wn.no rfl) rfl (R.assign rfl) ?_
    refine LE.nil ?_
    refine WE.ret ?_
    exact ⟨_, (Res.tmp rfl Res.nil), _, rfl, h⟩
  · intro hb1
    replace h := M.ite_f h hb1
    refine WE.skip ?_
    refine WE.seq ?_
    refine WE.reg ?_
    refine LE.p (v := (SV.v p0)) (Wn.no rfl) rfl (R.move rfl) ?_
    refine LE.p (v := (SV.v p0)) (Wn.no rfl) rfl (R.assign rfl) ?_
    refine LE.nil ?_
    refine WE.ret ?_
    exact ⟨_, (Res.tmp rfl Res.nil), _, rfl, h⟩
/-- The formula of (*signpost.wire.Reader).Left. -/
def F11 (p0 : Option Addr) (K : Int → World → Prop) (w0 : World) : Prop :=
M.nil p0 fun a1 =>
M.ld Value.bool (a1.add 1) w0 fun t3 =>
M.ite t3 (
K (0 : Int) w0) (
M.nil p0 fun a6 =>
M.ld SV.v a6 w0 fun t8 =>
K (t8.len : Int) w0)
theorem F11_ok {w0 : World} {p0 : Option Addr} {K : Int → World → Prop} (h : F11 p0 K w0) : Calls Try.prog 11 #[(Value.pointer p0)] w0 (R11 K) := by
  refine calls_of_WE (args := [(Value.pointer p0)]) (rs := [.tmp 2]) Try.func11 rfl (N := 12) rfl rfl rfl rfl ?_
  refine WE.seq ?_
  refine WE.reg ?_
  refine LE.p (v := (Value.int .i64 (0 : Int))) (Wn.no rfl) rfl (R.assign rfl) ?_
  refine LE.nil ?_
  refine WE.seq ?_
  refine WE.seq ?_
  refine WE.reg ?_
  refine LE.p (v := (Value.pointer p0)) (Wn.no rfl) rfl (R.move rfl) ?_
  obtain ⟨a1, h2, h⟩ := h
  refine LE.p (v := (Value.pointer (some a1))) (Wn.no rfl) rfl (R.nilC (congrArg Value.pointer h2)) ?_
  refine LE.p (v := (Value.pointer (some (a1.add 1)))) (Wn.no rfl) rfl (R.fld (off := 1) fa51_1 rfl) ?_
  obtain ⟨t3, h4, h⟩ := h
  refine LE.r (v := (Value.bool t3)) (Wn.no rfl) rfl (R.ld sc4 rfl h4) ?_
  refine LE.nil ?_
  refine WE.condT rfl (b := t3) rfl ?_ ?_
  · intro hb5
    replace h := M.ite_t h hb5
    refine WE.seq ?_
    refine WE.reg ?_
    refine LE.p (v := (Value.int .i64 (0 : Int))) (Wn.no rfl) rfl (R.assign rfl) ?_
    refine LE.nil ?_
    refine WE.ret ?_
    exact ⟨_, (Res.tmp rfl Res.nil), _, rfl, h⟩
  · intro hb5
    replace h := M.ite_f h hb5
    refine WE.skip ?_
    refine WE.seq ?_
    refine WE.reg ?_
    refine LE.p (v := (Value.pointer p0)) (Wn.no rfl) rfl (R.move rfl) ?_
    obtain ⟨a6, h7, h⟩ := h
    refine LE.p (v := (Value.pointer (some a6))) (Wn.no rfl) rfl (R.nilC (congrArg Value.pointer h7)) ?_
    refine LE.p (v := (Value.pointer (some a6))) (Wn.no rfl) rfl (R.fld (off := 0) fa51_0 rfl) ?_
    obtain ⟨t8, h9, h⟩ := h
    refine LE.r (v := (SV.v t8)) (Wn.no rfl) rfl (R.ld sc23 rfl h9) ?_
    refine LE.p (v := (Value.int .i64 (t8.len : Int))) (Wn.no rfl) rfl (R.len sl23 rfl) ?_
    refine LE.p (v := (Value.int .i64 (t8.len : Int))) (Wn.no rfl) rfl (R.assign rfl) ?_
    refine LE.nil ?_
    refine WE.ret ?_
    exact ⟨_, (Res.tmp rfl Res.nil), _, rfl, h⟩
/-- The formula of (*signpost.wire.Reader).Fine. -/
def F12 (p0 : Option Addr) (K : Bool → World → Prop) (w0 : World) : Prop :=
M.nil p0 fun a1 =>
M.ld Value.bool (a1.add 1) w0 fun t3 =>
K (!t3) w0
theorem F12_ok {w0 : World} {p0 : Option Addr} {K : Bool → World → Prop} (h : F12 p0 K w0) : Calls Try.prog 12 #[(Value.pointer p0)] w0 (R12 K) := by
  refine calls_of_WE (args := [(Value.pointer p0)]) (rs := [.tmp 2]) Try.func12 rfl (N := 8) rfl rfl rfl rfl ?_
  refine WE.seq ?_
  refine WE.reg ?_
  refine LE.p (v := (Value.bool false)) (Wn.no rfl) rfl (R.assign rfl) ?_
  refine LE.nil ?_
  refine WE.seq ?_
  refine WE.reg ?_
  refine LE.p (v := (Value.pointer p0)) (Wn.no rfl) rfl (R.move rfl) ?_
  obtain ⟨a1, h2, h⟩ := h
  refine LE.p (v := (Value.pointer (some a1))) (Wn.no rfl) rfl (R.nilC (congrArg Value.pointer h2)) ?_
  refine LE.p (v := (Value.pointer (some (a1.add 1)))) (Wn.no rfl) rfl (R.fld (off := 1) fa51_1 rfl) ?_
  obtain ⟨t3, h4, h⟩ := h
  refine LE.r (v := (Value.bool t3)) (Wn.no rfl) rfl (R.ld sc4 rfl h4) ?_
  refine LE.p (v := (Value.bool (!t3))) (Wn.no rfl) rfl (R.not rfl) ?_
  refine LE.p (v := (Value.bool (!t3))) (Wn.no rfl) rfl (R.assign rfl) ?_
  refine LE.nil ?_
  refine WE.ret ?_
  exact ⟨_, (Res.tmp rfl Res.nil), _, rfl, h⟩
/-- The formula of (*signpost.wire.Reader).Raw. -/
def F13 (p0 : Option Addr) (p1 : Int) (K : SV → World → Prop) (w0 : World) : Prop :=
M.join (fun (w22 : World) => 
M.join (fun (x26 : Bool) (w33 : World) => 
M.ite x26 (
K SV.nil w33) (
M.nil p0 fun a38 =>
M.ld SV.v a38 w33 fun t40 =>
M.bnd (0 : Int) p1 t40 <|
Calls Try.prog 25 #[(SV.v (SV.sub t40 (Int.toNat (0 : Int)) (Int.toNat p1) 1))] w33 (R25 fun r46 w47 =>
M.nil p0 fun a48 =>
M.ld SV.v a48 w47 fun t50 =>
M.bnd p1 (t50.len : Int) t50 <|
M.nil p0 fun a56 =>
M.st a56 (SV.v (SV.sub t50 (Int.toNat p1) (Int.toNat (t50.len : Int)) 1)) w47 fun w58 =>
K r46 w58))) fun J25 => 
M.nil p0 fun a27 =>
M.ld Value.bool (a27.add 1) w22 fun t29 =>
M.ite t29 (
J25 true w22) (
J25 (decide (p1 < (1 : Int))) w22)) fun J1 => 
M.nil p0 fun a2 =>
M.ld Value.bool (a2.add 1) w0 fun t4 =>
M.ite t4 (
M.nil p0 fun a7 =>
M.st (a7.add 1) (Value.bool true) w0 fun w9 =>
J1 w9) (
M.nil p0 fun a12 =>
M.ld SV.v a12 w0 fun t14 =>
M.nil p0 fun a16 =>
M.st (a16.add 1) (Value.bool (decide ((t14.len : Int) < p1))) w0 fun w18 =>
J1 w18)
theorem F13_ok {w0 : World} {p0 : Option Addr} {p1 : Int} {K : SV → World → Prop} (h : F13 p0 p1 K w0) : Calls Try.prog 13 #[(Value.pointer p0), (Value.int .i64 p1)] w0 (R13 K) := by
  refine calls_of_WE (args := [(Value.pointer p0), (Value.int .i64 p1)]) (rs := [.tmp 4]) Try.func13 rfl (N := 47) rfl rfl rfl rfl ?_
  refine WE.seq ?_
  refine WE.reg ?_
  refine LE.p (v := (SV.v SV.nil)) (Wn.no rfl) rfl (R.assign rfl) ?_
  refine LE.nil ?_
  refine WE.seq ?_
  obtain ⟨J1, hJ1, h⟩ := M.join_use h
  refine WE.regJ (fun e w => J1 w ∧ e 0 = (Value.pointer p0) ∧ e 1 = (Value.int .i64 p1)) ?_ ?_
  · clear hJ1
    refine LE.p (v := (Value.pointer p0)) (Wn.no rfl) rfl (R.move rfl) ?_
    refine LE.p (v := (Value.pointer p0)) (Wn.no rfl) rfl (R.move rfl) ?_
    obtain ⟨a2, h3, h⟩ := h
    refine LE.p (v := (Value.pointer (some a2))) (Wn.no rfl) rfl (R.nilC (congrArg Value.pointer h3)) ?_
    refine LE.p (v := (Value.pointer (some (a2.add 1)))) (Wn.no rfl) rfl (R.fld (off := 1) fa51_1 rfl) ?_
    obtain ⟨t4, h5, h⟩ := h
    refine LE.r (v := (Value.bool t4)) (Wn.no rfl) rfl (R.ld sc4 rfl h5) ?_
    refine LE.p (v := (Value.bool t4)) (Wn.no rfl) rfl (R.move rfl) ?_
    rcases M.ite_use h with ⟨hb6, h⟩ | ⟨hb6, h⟩
    · refine LE.u (Un.no 5 11 false rfl rfl rfl (congrArg Value.bool hb6)) ?_
      refine LE.u (Un.no 5 11 false rfl rfl rfl (congrArg Value.bool hb6)) ?_
      refine LE.u (Un.no 5 11 false rfl rfl rfl (congrArg Value.bool hb6)) ?_
      refine LE.u (Un.no 5 11 false rfl rfl rfl (congrArg Value.bool hb6)) ?_
      refine LE.u (Un.no 5 11 false rfl rfl rfl (congrArg Value.bool hb6)) ?_
      refine LE.u (Un.no 5 11 false rfl rfl rfl (congrArg Value.bool hb6)) ?_
      refine LE.u (Un.no 5 11 false rfl rfl rfl (congrArg Value.bool hb6)) ?_
      refine LE.p (v := (Value.bool true)) (Wn.no rfl) rfl (R.pickT (congrArg Value.bool hb6) rfl) ?_
      obtain ⟨a7, h8, h⟩ := h
      refine LE.p (v := (Value.pointer (some a7))) (Wn.no rfl) rfl (R.nilC (congrArg Value.pointer h8)) ?_
      refine LE.p (v := (Value.pointer (some (a7.add 1)))) (Wn.no rfl) rfl (R.fld (off := 1) fa51_1 rfl) ?_
      obtain ⟨w9, hww9, h10, h11, h⟩ := M.st_use h
      refine LE.s (Wn.no rfl) rfl (R.st (a := (a7.add 1)) (v := (Value.bool true)) sz4 rfl rfl rfl rfl h10 h11 hww9) ?_
      refine LE.nil ?_
      exact ⟨h, rfl, rfl⟩
    · refine LE.p (v := (Value.int .i64 p1)) (Wn.yes 5 11 false rfl rfl rfl (congrArg Value.bool hb6)) rfl (R.move rfl) ?_
      refine LE.p (v := (Value.pointer p0)) (Wn.yes 5 11 false rfl rfl rfl (congrArg Value.bool hb6)) rfl (R.move rfl) ?_
      obtain ⟨a12, h13, h⟩ := h
      refine LE.p (v := (Value.pointer (some a12))) (Wn.yes 5 11 false rfl rfl rfl (congrArg Value.bool hb6)) rfl (R.nilC (congrArg Value.pointer h13)) ?_
      refine LE.p (v := (Value.pointer (some a12))) (Wn.yes 5 11 false rfl rfl rfl (congrArg Value.bool hb6)) rfl (R.fld (off := 0) fa51_0 rfl) ?_
      obtain ⟨t14, h15, h⟩ := h
      refine LE.r (v := (SV.v t14)) (Wn.yes 5 11 false rfl rfl rfl (congrArg Value.bool hb6)) rfl (R.ld sc23 rfl h15) ?_
      refine LE.p (v := (Value.int .i64 (t14.len : Int))) (Wn.yes 5 11 false rfl rfl rfl (congrArg Value.bool hb6)) rfl (R.len sl23 rfl) ?_
      refine LE.p (v := (Value.bool (decide ((t14.len : Int) < p1)))) (Wn.yes 5 11 false rfl rfl rfl (congrArg Value.bool hb6)) rfl (R.gtr rfl rfl) ?_
      refine LE.p (v := (Value.bool (decide ((t14.len : Int) < p1)))) (Wn.no rfl) rfl (R.pickF (congrArg Value.bool hb6) rfl) ?_
      obtain ⟨a16, h17, h⟩ := h
      refine LE.p (v := (Value.pointer (some a16))) (Wn.no rfl) rfl (R.nilC (congrArg Value.pointer h17)) ?_
      refine LE.p (v := (Value.pointer (some (a16.add 1)))) (Wn.no rfl) rfl (R.fld (off := 1) fa51_1 rfl) ?_
      obtain ⟨w18, hww18, h19, h20, h⟩ := M.st_use h
      refine LE.s (Wn.no rfl) rfl (R.st (a := (a16.add 1)) (v := (Value.bool (decide ((t14.len : Int) < p1)))) sz4 rfl rfl rfl rfl h19 h20 hww18) ?_
      refine LE.nil ?_
      exact ⟨h, rfl, rfl⟩
  · rintro e21 w22 ⟨h, f23, f24⟩
    subst hJ1
    refine WE.seq ?_
    refine WE.seq ?_
    obtain ⟨J25, hJ25, h⟩ := M.join_use h
    refine WE.regJ (fun e w => ∃ (x26 : Bool), J25 x26 w ∧ e 0 = (Value.pointer p0) ∧ e 1 = (Value.int .i64 p1) ∧ e 29 = (Value.bool x26)) ?_ ?_
    · clear hJ25
      refine LE.p (v := (Value.pointer p0)) (Wn.no rfl) rfl (R.move f23) ?_
      obtain ⟨a27, h28, h⟩ := h
      refine LE.p (v := (Value.pointer (some a27))) (Wn.no rfl) rfl (R.nilC (congrArg Value.pointer h28)) ?_
      refine LE.p (v := (Value.pointer (some (a27.add 1)))) (Wn.no rfl) rfl (R.fld (off := 1) fa51_1 rfl) ?_
      obtain ⟨t29, h30, h⟩ := h
      refine LE.r (v := (Value.bool t29)) (Wn.no rfl) rfl (R.ld sc4 rfl h30) ?_
      refine LE.p (v := (Value.bool t29)) (Wn.no rfl) rfl (R.move rfl) ?_
      rcases M.ite_use h with ⟨hb31, h⟩ | ⟨hb31, h⟩
      · refine LE.u (Un.no 4 26 false rfl rfl rfl (congrArg Value.bool hb31)) ?_
        refine LE.u (Un.no 4 26 false rfl rfl rfl (congrArg Value.bool hb31)) ?_
        refine LE.p (v := (Value.bool true)) (Wn.no rfl) rfl (R.pickT (congrArg Value.bool hb31) rfl) ?_
        refine LE.nil ?_
        exact ⟨_, h, f23, f24, rfl⟩
      · refine LE.p (v := (Value.int .i64 p1)) (Wn.yes 4 26 false rfl rfl rfl (congrArg Value.bool hb31)) rfl (R.move f24) ?_
        refine LE.p (v := (Value.bool (decide (p1 < (1 : Int))))) (Wn.yes 4 26 false rfl rfl rfl (congrArg Value.bool hb31)) rfl (R.lss rfl rfl) ?_
        refine LE.p (v := (Value.bool (decide (p1 < (1 : Int))))) (Wn.no rfl) rfl (R.pickF (congrArg Value.bool hb31) rfl) ?_
        refine LE.nil ?_
        exact ⟨_, h, f23, f24, rfl⟩
    · rintro e32 w33 ⟨x26, h, f34, f35, f36⟩
      subst hJ25
      refine WE.condT rfl (b := x26) f36 ?_ ?_
      · intro hb37
        replace h := M.ite_t h hb37
        refine WE.seq ?_
        refine WE.reg ?_
        refine LE.p (v := (SV.v SV.nil)) (Wn.no rfl) rfl (R.assign rfl) ?_
        refine LE.nil ?_
        refine WE.ret ?_
        exact ⟨_, (Res.tmp rfl Res.nil), _, rfl, h⟩
      · intro hb37
        replace h := M.ite_f h hb37
        refine WE.skip ?_
        refine WE.seq ?_
        refine WE.reg ?_
        refine LE.p (v := (Value.pointer p0)) (Wn.no rfl) rfl (R.move f34) ?_
        obtain ⟨a38, h39, h⟩ := h
        refine LE.p (v := (Value.pointer (some a38))) (Wn.no rfl) rfl (R.nilC (congrArg Value.pointer h39)) ?_
        refine LE.p (v := (Value.pointer (some a38))) (Wn.no rfl) rfl (R.fld (off := 0) fa51_0 rfl) ?_
        obtain ⟨t40, h41, h⟩ := h
        refine LE.r (v := (SV.v t40)) (Wn.no rfl) rfl (R.ld sc23 rfl h41) ?_
        refine LE.p (v := (Value.int .i64 p1)) (Wn.no rfl) rfl (R.move f35) ?_
        obtain ⟨h42, h43, h44, h⟩ := h
        refine LE.p (v := (SV.v (SV.sub t40 (Int.toNat (0 : Int)) (Int.toNat p1) 1))) (Wn.no rfl) rfl (R.slc (s := t40) (lo := (0 : Int)) (hi := p1) _ _ sl23 rfl rfl rfl h42 h43 h44) ?_
        refine LE.c (Wn.no rfl) rfl (R.call bd25 (Ls.cons rfl Ls.nil) rfl) (Calls.mono h ?_)
        rintro _ w47 ⟨r46, rfl, h⟩
        refine ⟨_, rfl, ?_⟩
        refine LE.p (v := (SV.v r46)) (Wn.no rfl) rfl (R.assign rfl) ?_
        refine LE.nil ?_
        refine WE.seq ?_
        refine WE.reg ?_
        refine LE.p (v := (Value.pointer p0)) (Wn.no rfl) rfl (R.move f34) ?_
        refine LE.p (v := (Value.pointer p0)) (Wn.no rfl) rfl (R.move f34) ?_
        obtain ⟨a48, h49, h⟩ := h
        refine LE.p (v := (Value.pointer (some a48))) (Wn.no rfl) rfl (R.nilC (congrArg Value.pointer h49)) ?_
        refine LE.p (v := (Value.pointer (some a48))) (Wn.no rfl) rfl (R.fld (off := 0) fa51_0 rfl) ?_
        obtain ⟨t50, h51, h⟩ := h
        refine LE.r (v := (SV.v t50)) (Wn.no rfl) rfl (R.ld sc23 rfl h51) ?_
        refine LE.p (v := (Value.int .i64 p1)) (Wn.no rfl) rfl (R.move f35) ?_
        obtain ⟨h52, h53, h54, h⟩ := h
        refine LE.p (v := (SV.v (SV.sub t50 (Int.toNat p1) (Int.toNat (t50.len : Int)) 1))) (Wn.no rfl) rfl (R.slc (s := t50) (lo := p1) (hi := (t50.len : Int)) _ _ sl23 rfl rfl rfl h52 h53 h54) ?_
        obtain ⟨a56, h57, h⟩ := h
        refine LE.p (v := (Value.pointer (some a56))) (Wn.no rfl) rfl (R.nilC (congrArg Value.pointer h57)) ?_
        refine LE.p (v := (Value.pointer (some a56))) (Wn.no rfl) rfl (R.fld (off := 0) fa51_0 rfl) ?_
        obtain ⟨w58, hww58, h59, h60, h⟩ := M.st_use h
        refine LE.s (Wn.no rfl) rfl (R.st (a := a56) (v := (SV.v (SV.sub t50 (Int.toNat p1) (Int.toNat (t50.len : Int)) 1))) sz23 rfl rfl rfl rfl h59 h60 hww58) ?_
        refine LE.nil ?_
        refine WE.seq ?_
        refine WE.reg ?_
        refine LE.p (v := (SV.v r46)) (Wn.no rfl) rfl (R.move rfl) ?_
        refine LE.p (v := (SV.v r46)) (Wn.no rfl) rfl (R.assign rfl) ?_
        refine LE.nil ?_
        refine WE.ret ?_
        exact ⟨_, (Res.tmp rfl Res.nil), _, rfl, h⟩
/-- The formula of (*signpost.wire.Reader).U8. -/
def F14 (p0 : Option Addr) (K : Int → World → Prop) (w0 : World) : Prop :=
Calls Try.prog 31 #[(Value.pointer p0), (Value.int .i64 (1 : Int))] w0 (R31 fun r1 w2 =>
K (IntKind.i64.wrap r1) w2)
theorem F14_ok {w0 : World} {p0 : Option Addr} {K : Int → World → Prop} (h : F14 p0 K w0) : Calls Try.prog 14 #[(Value.pointer p0)] w0 (R14 K) := by
  refine calls_of_WE (args := [(Value.pointer p0)]) (rs := [.tmp 2]) Try.func14 rfl (N := 6) rfl rfl rfl rfl ?_
  refine WE.seq ?_
  refine WE.reg ?_
  refine LE.p (v := (Value.int .i64 (0 : Int))) (Wn.no rfl) rfl (R.assign rfl) ?_
  refine LE.nil ?_
  refine WE.seq ?_
  refine WE.reg ?_
  refine LE.p (v := (Value.pointer p0)) (Wn.no rfl) rfl (R.move rfl) ?_
  refine LE.c (Wn.no rfl) rfl (R.call bd31 (Ls.cons rfl (Ls.cons rfl Ls.nil)) rfl) (Calls.mono h ?_)
  rintro _ w2 ⟨r1, rfl, h⟩
  refine ⟨_, rfl, ?_⟩
  refine LE.p (v := (Value.int .i64 (IntKind.i64.wrap r1))) (Wn.no rfl) rfl (R.conv in3 in52 rfl) ?_
  refine LE.p (v := (Value.int .i64 (IntKind.i64.wrap r1))) (Wn.no rfl) rfl (R.assign rfl) ?_
  refine LE.nil ?_
  refine WE.ret ?_
  exact ⟨_, (Res.tmp rfl Res.nil), _, rfl, h⟩
/-- The formula of (*signpost.wire.Reader).U16. -/
def F15 (p0 : Option Addr) (K : Int → World → Prop) (w0 : World) : Prop :=
Calls Try.prog 31 #[(Value.pointer p0), (Value.int .i64 (2 : Int))] w0 (R31 fun r1 w2 =>
K (IntKind.i64.wrap r1) w2)
theorem F15_ok {w0 : World} {p0 : Option Addr} {K : Int → World → Prop} (h : F15 p0 K w0) : Calls Try.prog 15 #[(Value.pointer p0)] w0 (R15 K) := by
  refine calls_of_WE (args := [(Value.pointer p0)]) (rs := [.tmp 2]) Try.func15 rfl (N := 6) rfl rfl rfl rfl ?_
  refine WE.seq ?_
  refine WE.reg ?_
  refine LE.p (v := (Value.int .i64 (0 : Int))) (Wn.no rfl) rfl (R.assign rfl) ?_
  refine LE.nil ?_
  refine WE.seq ?_
  refine WE.reg ?_
  refine LE.p (v := (Value.pointer p0)) (Wn.no rfl) rfl (R.move rfl) ?_
  refine LE.c (Wn.no rfl) rfl (R.call bd31 (Ls.cons rfl (Ls.cons rfl Ls.nil)) rfl) (Calls.mono h ?_)
  rintro _ w2 ⟨r1, rfl, h⟩
  refine ⟨_, rfl, ?_⟩
  refine LE.p (v := (Value.int .i64 (IntKind.i64.wrap r1))) (Wn.no rfl) rfl (R.conv in3 in52 rfl) ?_
  refine LE.p (v := (Value.int .i64 (IntKind.i64.wrap r1))) (Wn.no rfl) rfl (R.assign rfl) ?_
  refine LE.nil ?_
  refine WE.ret ?_
  exact ⟨_, (Res.tmp rfl Res.nil), _, rfl, h⟩
/-- The formula of (*signpost.wire.Reader).U32. -/
def F16 (p0 : Option Addr) (K : Int → World → Prop) (w0 : World) : Prop :=
Calls Try.prog 31 #[(Value.pointer p0), (Value.int .i64 (4 : Int))] w0 (R31 fun r1 w2 =>
K (IntKind.u32.wrap r1) w2)
theorem F16_ok {w0 : World} {p0 : Option Addr} {K : Int → World → Prop} (h : F16 p0 K w0) : Calls Try.prog 16 #[(Value.pointer p0)] w0 (R16 K) := by
  refine calls_of_WE (args := [(Value.pointer p0)]) (rs := [.tmp 2]) Try.func16 rfl (N := 6) rfl rfl rfl rfl ?_
  refine WE.seq ?_
  refine WE.reg ?_
  refine LE.p (v := (Value.int .u32 (0 : Int))) (Wn.no rfl) rfl (R.assign rfl) ?_
  refine LE.nil ?_
  refine WE.seq ?_
  refine WE.reg ?_
  refine LE.p (v := (Value.pointer p0)) (Wn.no rfl) rfl (R.move rfl) ?_
  refine LE.c (Wn.no rfl) rfl (R.call bd31 (Ls.cons rfl (Ls.cons rfl Ls.nil)) rfl) (Calls.mono h ?_)
  rintro _ w2 ⟨r1, rfl, h⟩
  refine ⟨_, rfl, ?_⟩
  refine LE.p (v := (Value.int .u32 (IntKind.u32.wrap r1))) (Wn.no rfl) rfl (R.conv in37 in52 rfl) ?_
  refine LE.p (v := (Value.int .u32 (IntKind.u32.wrap r1))) (Wn.no rfl) rfl (R.assign rfl) ?_
  refine LE.nil ?_
  refine WE.ret ?_
  exact ⟨_, (Res.tmp rfl Res.nil), _, rfl, h⟩
/-- The formula of signpost.wire.NewWriter. -/
def F17  (K : Option Addr → World → Prop) (w0 : World) : Prop :=
M.new (.cells #[(SV.v SV.nil)] 55) w0 fun b2 w1 =>
K (some b2) w1
theorem F17_ok {w0 : World}  {K : Option Addr → World → Prop} (h : F17 K w0) : Calls Try.prog 17 #[] w0 (R17 K) := by
  refine calls_of_WE (args := []) (rs := [.tmp 0]) Try.func17 rfl (N := 3) rfl rfl rfl rfl ?_
  refine WE.seq ?_
  refine WE.reg ?_
  refine LE.p (v := (Value.pointer (none : Option Addr))) (Wn.no rfl) rfl (R.assign rfl) ?_
  refine LE.nil ?_
  refine WE.seq ?_
  refine WE.reg ?_
  refine LE.p (v := (Value.agg #[(SV.v SV.nil)])) (Wn.no rfl) rfl (R.bld (by exact Ls.nil) (fun w => bu55_  w)) ?_
  obtain ⟨b2, hpb2, w1, hww1, h⟩ := M.new_use h
  refine LE.r (v := (Value.pointer (some b2))) (Wn.no rfl) rfl (R.box (cs := #[(SV.v SV.nil)]) rfl rfl hpb2 hww1) ?_
  refine LE.p (v := (Value.pointer (some b2))) (Wn.no rfl) rfl (R.assign rfl) ?_
  refine LE.nil ?_
  refine WE.ret ?_
  exact ⟨_, (Res.tmp rfl Res.nil), _, rfl, h⟩
/-- The formula of signpost.signpostlaw4.put. -/
def F18 (p0 : Option Addr) (p1 : SV) (p2_0 : Int) (p2_1 : Int) (p2_2 : SV) (K : SV → World → Prop) (w0 : World) : Prop :=
M.new (.cells #[(Value.int .i64 p2_0), (Value.int .i64 p2_1), (SV.v p2_2)] 31) w0 fun b2 w1 =>
M.ld (Value.int .i64) b2 w1 fun t3 =>
M.ite (t3 == (1 : Int)) (
M.ld (Value.int .i64) (b2.add 1) w1 fun t6 =>
Calls Try.prog 21 #[(Value.pointer p0), (Value.int .i64 t6)] w1 (R21 fun w8 =>
M.ld (Value.int .i64) (b2.add 1) w8 fun t9 =>
Calls Try.prog 32 #[(SV.v p1), (Value.int .i64 t9)] w8 (R32 fun r11 w12 =>
K r11 w12))) (
M.ite (t3 == (2 : Int)) (
M.ld (Value.int .i64) (b2.add 1) w1 fun t14 =>
Calls Try.prog 22 #[(Value.pointer p0), (Value.int .i64 t14)] w1 (R22 fun w16 =>
M.ld (Value.int .i64) (b2.add 1) w16 fun t17 =>
Calls Try.prog 33 #[(SV.v p1), (Value.int .i64 t17)] w16 (R33 fun r19 w20 =>
K r19 w20))) (
M.ite (t3 == (3 : Int)) (
M.ld (Value.int .i64) (b2.add 1) w1 fun t22 =>
Calls Try.prog 23 #[(Value.pointer p0), (Value.int .u32 (IntKind.u32.wrap t22))] w1 (R23 fun w24 =>
M.ld (Value.int .i64) (b2.add 1) w24 fun t25 =>
Calls Try.prog 34 #[(SV.v p1), (Value.int .u32 (IntKind.u32.wrap t25))] w24 (R34 fun r27 w28 =>
K r27 w28))) (
M.ld SV.v (b2.add 2) w1 fun t29 =>
Calls Try.prog 10 #[(SV.v t29), (Value.int .i64 (100 : Int))] w1 (R10 fun r31 w32 =>
Calls Try.prog 24 #[(Value.pointer p0), (SV.v r31)] w32 (R24 fun w33 =>
M.drew w33 fun w34 => 
M.ld SV.v (b2.add 2) w34 fun t35 =>
M.new (.cells #[] 5) w34 fun b39 w37 =>
M.keep (w37.cell? (b2.add 2) = some (SV.v t35)) <|
M.app Try.prog 23 23 23 (SV.mk (some b39) 0 0) (SV.v p1) w37 fun s41 w42 =>
M.keep (w42.cell? (b2.add 2) = some (SV.v t35)) <|
Calls Try.prog 10 #[(SV.v t35), (Value.int .i64 (100 : Int))] w42 (R10 fun r45 w46 =>
M.app Try.prog 23 23 23 s41 (SV.v r45) w46 fun s47 w48 =>
K s47 w48))))))
theorem F18_ok {w0 : World} {p0 : Option Addr} {p1 : SV} {p2_0 : Int} {p2_1 : Int} {p2_2 : SV} {K : SV → World → Prop} (h : F18 p0 p1 p2_0 p2_1 p2_2 K w0) : Calls Try.prog 18 #[(Value.pointer p0), (SV.v p1), (Value.agg #[(Value.int .i64 p2_0), (Value.int .i64 p2_1), (SV.v p2_2)])] w0 (R18 K) := by
  refine calls_of_WE (args := [(Value.pointer p0), (SV.v p1), (Value.agg #[(Value.int .i64 p2_0), (Value.int .i64 p2_1), (SV.v p2_2)])]) (rs := [.tmp 6]) Try.func18 rfl (N := 53) rfl rfl rfl rfl ?_
  refine WE.seq ?_
  refine WE.reg ?_
  obtain ⟨b2, hpb2, w1, hww1, h⟩ := M.new_use h
  refine LE.r (v := (Value.pointer (some b2))) (Wn.no rfl) rfl (R.box (cs := #[(Value.int .i64 p2_0), (Value.int .i64 p2_1), (SV.v p2_2)]) rfl rfl hpb2 hww1) ?_
  refine LE.p (v := (SV.v SV.nil)) (Wn.no rfl) rfl (R.assign rfl) ?_
  refine LE.nil ?_
  refine WE.seq ?_
  refine WE.seq ?_
  refine WE.reg ?_
  refine LE.p (v := (Value.pointer (some b2))) (Wn.no rfl) rfl (R.fld (off := 0) fa31_0 rfl) ?_
  obtain ⟨t3, h4, h⟩ := h
  refine LE.r (v := (Value.int .i64 t3)) (Wn.no rfl) rfl (R.ld sc3 rfl h4) ?_
  refine LE.nil ?_
  refine WE.block ?_
  refine WE.seq ?_
  refine WE.reg ?_
  refine LE.p (v := (Value.bool (t3 == (1 : Int)))) (Wn.no rfl) rfl (R.eql rfl rfl) ?_
  refine LE.p (v := (Value.bool (t3 == (1 : Int)))) (Wn.no rfl) rfl (R.assign rfl) ?_
  refine LE.nil ?_
  refine WE.condT rfl (b := (t3 == (1 : Int))) rfl ?_ ?_
  · intro hb5
    replace h := M.ite_t h hb5
    refine WE.seq ?_
    refine WE.reg ?_
    refine LE.p (v := (Value.pointer p0)) (Wn.no rfl) rfl (R.move rfl) ?_
    refine LE.p (v := (Value.pointer (some (b2.add 1)))) (Wn.no rfl) rfl (R.fld (off := 1) fa31_1 rfl) ?_
    obtain ⟨t6, h7, h⟩ := h
    refine LE.r (v := (Value.int .i64 t6)) (Wn.no rfl) rfl (R.ld sc3 rfl h7) ?_
    refine LE.c (Wn.no rfl) rfl (R.call bd21 (Ls.cons rfl (Ls.cons rfl Ls.nil)) rfl) (Calls.mono h ?_)
    rintro _ w8 ⟨rfl, h⟩
    refine ⟨_, rfl, ?_⟩
    refine LE.nil ?_
    refine WE.seq ?_
    refine WE.reg ?_
    refine LE.p (v := (SV.v p1)) (Wn.no rfl) rfl (R.move rfl) ?_
    refine LE.p (v := (Value.pointer (some (b2.add 1)))) (Wn.no rfl) rfl (R.fld (off := 1) fa31_1 rfl) ?_
    obtain ⟨t9, h10, h⟩ := h
    refine LE.r (v := (Value.int .i64 t9)) (Wn.no rfl) rfl (R.ld sc3 rfl h10) ?_
    refine LE.c (Wn.no rfl) rfl (R.call bd32 (Ls.cons rfl (Ls.cons rfl Ls.nil)) rfl) (Calls.mono h ?_)
    rintro _ w12 ⟨r11, rfl, h⟩
    refine ⟨_, rfl, ?_⟩
    refine LE.p (v := (SV.v r11)) (Wn.no rfl) rfl (R.assign rfl) ?_
    refine LE.nil ?_
    refine WE.ret ?_
    exact ⟨_, (Res.tmp rfl Res.nil), _, rfl, h⟩
  · intro hb5
    replace h := M.ite_f h hb5
    refine WE.seq ?_
    refine WE.reg ?_
    refine LE.p (v := (Value.bool (t3 == (2 : Int)))) (Wn.no rfl) rfl (R.eql rfl rfl) ?_
    refine LE.p (v := (Value.bool (t3 == (2 : Int)))) (Wn.no rfl) rfl (R.assign rfl) ?_
    refine LE.nil ?_
    refine WE.condT rfl (b := (t3 == (2 : Int))) rfl ?_ ?_
    · intro hb13
      replace h := M.ite_t h hb13
      refine WE.seq ?_
      refine WE.reg ?_
      refine LE.p (v := (Value.pointer p0)) (Wn.no rfl) rfl (R.move rfl) ?_
      refine LE.p (v := (Value.pointer (some (b2.add 1)))) (Wn.no rfl) rfl (R.fld (off := 1) fa31_1 rfl) ?_
      obtain ⟨t14, h15, h⟩ := h
      refine LE.r (v := (Value.int .i64 t14)) (Wn.no rfl) rfl (R.ld sc3 rfl h15) ?_
      refine LE.c (Wn.no rfl) rfl (R.call bd22 (Ls.cons rfl (Ls.cons rfl Ls.nil)) rfl) (Calls.mono h ?_)
      rintro _ w16 ⟨rfl, h⟩
      refine ⟨_, rfl, ?_⟩
      refine LE.nil ?_
      refine WE.seq ?_
      refine WE.reg ?_
      refine LE.p (v := (SV.v p1)) (Wn.no rfl) rfl (R.move rfl) ?_
      refine LE.p (v := (Value.pointer (some (b2.add 1)))) (Wn.no rfl) rfl (R.fld (off := 1) fa31_1 rfl) ?_
      obtain ⟨t17, h18, h⟩ := h
      refine LE.r (v := (Value.int .i64 t17)) (Wn.no rfl) rfl (R.ld sc3 rfl h18) ?_
      refine LE.c (Wn.no rfl) rfl (R.call bd33 (Ls.cons rfl (Ls.cons rfl Ls.nil)) rfl) (Calls.mono h ?_)
      rintro _ w20 ⟨r19, rfl, h⟩
      refine ⟨_, rfl, ?_⟩
      refine LE.p (v := (SV.v r19)) (Wn.no rfl) rfl (R.assign rfl) ?_
      refine LE.nil ?_
      refine WE.ret ?_
      exact ⟨_, (Res.tmp rfl Res.nil), _, rfl, h⟩
    · intro hb13
      replace h := M.ite_f h hb13
      refine WE.seq ?_
      refine WE.reg ?_
      refine LE.p (v := (Value.bool (t3 == (3 : Int)))) (Wn.no rfl) rfl (R.eql rfl rfl) ?_
      refine LE.p (v := (Value.bool (t3 == (3 : Int)))) (Wn.no rfl) rfl (R.assign rfl) ?_
      refine LE.nil ?_
      refine WE.condT rfl (b := (t3 == (3 : Int))) rfl ?_ ?_
      · intro hb21
        replace h := M.ite_t h hb21
        refine WE.seq ?_
        refine WE.reg ?_
        refine LE.p (v := (Value.pointer p0)) (Wn.no rfl) rfl (R.move rfl) ?_
        refine LE.p (v := (Value.pointer (some (b2.add 1)))) (Wn.no rfl) rfl (R.fld (off := 1) fa31_1 rfl) ?_
        obtain ⟨t22, h23, h⟩ := h
        refine LE.r (v := (Value.int .i64 t22)) (Wn.no rfl) rfl (R.ld sc3 rfl h23) ?_
        refine LE.p (v := (Value.int .u32 (IntKind.u32.wrap t22))) (Wn.no rfl) rfl (R.conv in37 in3 rfl) ?_
        refine LE.c (Wn.no rfl) rfl (R.call bd23 (Ls.cons rfl (Ls.cons rfl Ls.nil)) rfl) (Calls.mono h ?_)
        rintro _ w24 ⟨rfl, h⟩
        refine ⟨_, rfl, ?_⟩
        refine LE.nil ?_
        refine WE.seq ?_
        refine WE.reg ?_
        refine LE.p (v := (SV.v p1)) (Wn.no rfl) rfl (R.move rfl) ?_
        refine LE.p (v := (Value.pointer (some (b2.add 1)))) (Wn.no rfl) rfl (R.fld (off := 1) fa31_1 rfl) ?_
        obtain ⟨t25, h26, h⟩ := h
        refine LE.r (v := (Value.int .i64 t25)) (Wn.no rfl) rfl (R.ld sc3 rfl h26) ?_
        refine LE.p (v := (Value.int .u32 (IntKind.u32.wrap t25))) (Wn.no rfl) rfl (R.conv in37 in3 rfl) ?_
        refine LE.c (Wn.no rfl) rfl (R.call bd34 (Ls.cons rfl (Ls.cons rfl Ls.nil)) rfl) (Calls.mono h ?_)
        rintro _ w28 ⟨r27, rfl, h⟩
        refine ⟨_, rfl, ?_⟩
        refine LE.p (v := (SV.v r27)) (Wn.no rfl) rfl (R.assign rfl) ?_
        refine LE.nil ?_
        refine WE.ret ?_
        exact ⟨_, (Res.tmp rfl Res.nil), _, rfl, h⟩
      · intro hb21
        replace h := M.ite_f h hb21
        refine WE.skip ?_
        refine WE.seq ?_
        refine WE.reg ?_
        refine LE.p (v := (Value.pointer p0)) (Wn.no rfl) rfl (R.move rfl) ?_
        refine LE.p (v := (Value.pointer (some (b2.add 2)))) (Wn.no rfl) rfl (R.fld (off := 2) fa31_2 rfl) ?_
        obtain ⟨t29, h30, h⟩ := h
        refine LE.r (v := (SV.v t29)) (Wn.no rfl) rfl (R.ld sc23 rfl h30) ?_
        refine LE.c (Wn.no rfl) rfl (R.call bd10 (Ls.cons rfl (Ls.cons rfl Ls.nil)) rfl) (Calls.mono h ?_)
        rintro _ w32 ⟨r31, rfl, h⟩
        refine ⟨_, rfl, ?_⟩
        refine LE.c (Wn.no rfl) rfl (R.call bd24 (Ls.cons rfl (Ls.cons rfl Ls.nil)) rfl) (Calls.mono h ?_)
        rintro _ w33 ⟨rfl, h⟩
        refine ⟨_, rfl, ?_⟩
        refine LE.nil ?_
        refine WE.seq ?_
        refine WE.draw mix ?_
        obtain ⟨w34, hww34, h⟩ := M.drew_use h
        rw [← hww34]
        clear hww34
        refine DE.t 1 (v := (SV.v p1)) rfl (by kernel_rfl) (Wn.no rfl) rfl (R.move rfl) ?_
        refine DE.t 3 (v := (Value.pointer (some (b2.add 2)))) rfl (by kernel_rfl) (Wn.no rfl) rfl (R.fld (off := 2) fa31_2 rfl) ?_
        obtain ⟨t35, h36, h⟩ := h
        refine DE.hold 4 (fun w => w.cell? (b2.add 2) = some (SV.v t35)) (v := (SV.v t35)) rfl (by kernel_rfl) (Wn.no rfl) rfl h36 (fun w hs => R.ld sc23 rfl hs) ?_
        obtain ⟨b39, hpb39, w37, hww37, h⟩ := M.new_use h
        obtain ⟨k40, h⟩ := h
        refine DE.main 0 (by kernel_rfl) ?_
        refine One.r 0 (v := (SV.v (SV.mk (some b39) 0 0))) rfl (Wn.no rfl) rfl (R.bsl (by exact Ls.nil) (fun w => bs23_0  w) hpb39 hww37) (.inr ⟨fun _ => k40, trivial⟩) ?_
        obtain ⟨s41, w42, h43, h⟩ := h
        obtain ⟨k44, h⟩ := h
        refine DE.main 2 (by kernel_rfl) ?_
        refine One.r 2 (v := (SV.v s41)) rfl (Wn.no rfl) rfl (R.app (s := (SV.mk (some b39) 0 0)) (r := s41) rfl rfl h43) (.inr ⟨fun _ => k44, trivial⟩) ?_
        refine DE.main 5 (by kernel_rfl) ?_
        refine One.c 5 rfl (Wn.no rfl) rfl (R.call bd10 (Ls.cons rfl (Ls.cons rfl Ls.nil)) rfl) (Calls.mono h ?_)
        rintro _ w46 ⟨r45, rfl, h⟩
        refine ⟨_, rfl, ⟨aftT (by kernel_rfl), trivial⟩, ?_⟩
        obtain ⟨s47, w48, h49, h⟩ := h
        refine DE.main 6 (by kernel_rfl) ?_
        refine One.r 6 (v := (SV.v s47)) rfl (Wn.no rfl) rfl (R.app (s := s41) (r := s47) rfl rfl h49) (.inr ⟨aftT (by kernel_rfl), trivial⟩) ?_
        refine DE.t 7 (v := (SV.v s47)) rfl (by kernel_rfl) (Wn.no rfl) rfl (R.assign rfl) ?_
        refine DE.done (by kernel_rfl) ?_
        refine WE.ret ?_
        exact ⟨_, (Res.tmp rfl Res.nil), _, rfl, h⟩
/-- The formula of (*signpost.wire.Writer).Len. -/
def F19 (p0 : Option Addr) (K : Int → World → Prop) (w0 : World) : Prop :=
M.nil p0 fun a1 =>
M.ld SV.v a1 w0 fun t3 =>
K (t3.len : Int) w0
theorem F19_ok {w0 : World} {p0 : Option Addr} {K : Int → World → Prop} (h : F19 p0 K w0) : Calls Try.prog 19 #[(Value.pointer p0)] w0 (R19 K) := by
  refine calls_of_WE (args := [(Value.pointer p0)]) (rs := [.tmp 2]) Try.func19 rfl (N := 8) rfl rfl rfl rfl ?_
  refine WE.seq ?_
  refine WE.reg ?_
  refine LE.p (v := (Value.int .i64 (0 : Int))) (Wn.no rfl) rfl (R.assign rfl) ?_
  refine LE.nil ?_
  refine WE.seq ?_
  refine WE.reg ?_
  refine LE.p (v := (Value.pointer p0)) (Wn.no rfl) rfl (R.move rfl) ?_
  obtain ⟨a1, h2, h⟩ := h
  refine LE.p (v := (Value.pointer (some a1))) (Wn.no rfl) rfl (R.nilC (congrArg Value.pointer h2)) ?_
  refine LE.p (v := (Value.pointer (some a1))) (Wn.no rfl) rfl (R.fld (off := 0) fa55_0 rfl) ?_
  obtain ⟨t3, h4, h⟩ := h
  refine LE.r (v := (SV.v t3)) (Wn.no rfl) rfl (R.ld sc23 rfl h4) ?_
  refine LE.p (v := (Value.int .i64 (t3.len : Int))) (Wn.no rfl) rfl (R.len sl23 rfl) ?_
  refine LE.p (v := (Value.int .i64 (t3.len : Int))) (Wn.no rfl) rfl (R.assign rfl) ?_
  refine LE.nil ?_
  refine WE.ret ?_
  exact ⟨_, (Res.tmp rfl Res.nil), _, rfl, h⟩
/-- The formula of (*signpost.wire.Writer).Done. -/
def F20 (p0 : Option Addr) (K : SV → World → Prop) (w0 : World) : Prop :=
M.nil p0 fun a1 =>
M.ld SV.v a1 w0 fun t3 =>
Calls Try.prog 25 #[(SV.v t3)] w0 (R25 fun r5 w6 =>
K r5 w6)
theorem F20_ok {w0 : World} {p0 : Option Addr} {K : SV → World → Prop} (h : F20 p0 K w0) : Calls Try.prog 20 #[(Value.pointer p0)] w0 (R20 K) := by
  refine calls_of_WE (args := [(Value.pointer p0)]) (rs := [.tmp 2]) Try.func20 rfl (N := 8) rfl rfl rfl rfl ?_
  refine WE.seq ?_
  refine WE.reg ?_
  refine LE.p (v := (SV.v SV.nil)) (Wn.no rfl) rfl (R.assign rfl) ?_
  refine LE.nil ?_
  refine WE.seq ?_
  refine WE.reg ?_
  refine LE.p (v := (Value.pointer p0)) (Wn.no rfl) rfl (R.move rfl) ?_
  obtain ⟨a1, h2, h⟩ := h
  refine LE.p (v := (Value.pointer (some a1))) (Wn.no rfl) rfl (R.nilC (congrArg Value.pointer h2)) ?_
  refine LE.p (v := (Value.pointer (some a1))) (Wn.no rfl) rfl (R.fld (off := 0) fa55_0 rfl) ?_
  obtain ⟨t3, h4, h⟩ := h
  refine LE.r (v := (SV.v t3)) (Wn.no rfl) rfl (R.ld sc23 rfl h4) ?_
  refine LE.c (Wn.no rfl) rfl (R.call bd25 (Ls.cons rfl Ls.nil) rfl) (Calls.mono h ?_)
  rintro _ w6 ⟨r5, rfl, h⟩
  refine ⟨_, rfl, ?_⟩
  refine LE.p (v := (SV.v r5)) (Wn.no rfl) rfl (R.assign rfl) ?_
  refine LE.nil ?_
  refine WE.ret ?_
  exact ⟨_, (Res.tmp rfl Res.nil), _, rfl, h⟩
/-- The formula of (*signpost.wire.Writer).U8. -/
def F21 (p0 : Option Addr) (p1 : Int) (K : World → Prop) (w0 : World) : Prop :=
Calls Try.prog 35 #[(Value.pointer p0), (Value.int .u64 (IntKind.u64.wrap p1)), (Value.int .i64 (1 : Int))] w0 (R35 fun w1 =>
K w1)
theorem F21_ok {w0 : World} {p0 : Option Addr} {p1 : Int} {K : World → Prop} (h : F21 p0 p1 K w0) : Calls Try.prog 21 #[(Value.pointer p0), (Value.int .i64 p1)] w0 (R21 K) := by
  refine calls_of_WE (args := [(Value.pointer p0), (Value.int .i64 p1)]) (rs := []) Try.func21 rfl (N := 8) rfl rfl rfl rfl ?_
  refine WE.reg ?_
  refine LE.p (v := (Value.pointer p0)) (Wn.no rfl) rfl (R.move rfl) ?_
  refine LE.p (v := (Value.int .i64 p1)) (Wn.no rfl) rfl (R.move rfl) ?_
  refine LE.p (v := (Value.int .u64 (IntKind.u64.wrap p1))) (Wn.no rfl) rfl (R.conv in52 in3 rfl) ?_
  refine LE.c (Wn.no rfl) rfl (R.call bd35 (Ls.cons rfl (Ls.cons rfl (Ls.cons rfl Ls.nil))) rfl) (Calls.mono h ?_)
  rintro _ w1 ⟨rfl, h⟩
  refine ⟨_, rfl, ?_⟩
  refine LE.nil ?_
  exact ⟨_,  Res.nil, rfl, h⟩
/-- The formula of (*signpost.wire.Writer).U16. -/
def F22 (p0 : Option Addr) (p1 : Int) (K : World → Prop) (w0 : World) : Prop :=
Calls Try.prog 35 #[(Value.pointer p0), (Value.int .u64 (IntKind.u64.wrap p1)), (Value.int .i64 (2 : Int))] w0 (R35 fun w1 =>
K w1)
theorem F22_ok {w0 : World} {p0 : Option Addr} {p1 : Int} {K : World → Prop} (h : F22 p0 p1 K w0) : Calls Try.prog 22 #[(Value.pointer p0), (Value.int .i64 p1)] w0 (R22 K) := by
  refine calls_of_WE (args := [(Value.pointer p0), (Value.int .i64 p1)]) (rs := []) Try.func22 rfl (N := 8) rfl rfl rfl rfl ?_
  refine WE.reg ?_
  refine LE.p (v := (Value.pointer p0)) (Wn.no rfl) rfl (R.move rfl) ?_
  refine LE.p (v := (Value.int .i64 p1)) (Wn.no rfl) rfl (R.move rfl) ?_
  refine LE.p (v := (Value.int .u64 (IntKind.u64.wrap p1))) (Wn.no rfl) rfl (R.conv in52 in3 rfl) ?_
  refine LE.c (Wn.no rfl) rfl (R.call bd35 (Ls.cons rfl (Ls.cons rfl (Ls.cons rfl Ls.nil))) rfl) (Calls.mono h ?_)
  rintro _ w1 ⟨rfl, h⟩
  refine ⟨_, rfl, ?_⟩
  refine LE.nil ?_
  exact ⟨_,  Res.nil, rfl, h⟩
/-- The formula of (*signpost.wire.Writer).U32. -/
def F23 (p0 : Option Addr) (p1 : Int) (K : World → Prop) (w0 : World) : Prop :=
Calls Try.prog 35 #[(Value.pointer p0), (Value.int .u64 (IntKind.u64.wrap p1)), (Value.int .i64 (4 : Int))] w0 (R35 fun w1 =>
K w1)
theorem F23_ok {w0 : World} {p0 : Option Addr} {p1 : Int} {K : World → Prop} (h : F23 p0 p1 K w0) : Calls Try.prog 23 #[(Value.pointer p0), (Value.int .u32 p1)] w0 (R23 K) := by
  refine calls_of_WE (args := [(Value.pointer p0), (Value.int .u32 p1)]) (rs := []) Try.func23 rfl (N := 8) rfl rfl rfl rfl ?_
  refine WE.reg ?_
  refine LE.p (v := (Value.pointer p0)) (Wn.no rfl) rfl (R.move rfl) ?_
  refine LE.p (v := (Value.int .u32 p1)) (Wn.no rfl) rfl (R.move rfl) ?_
  refine LE.p (v := (Value.int .u64 (IntKind.u64.wrap p1))) (Wn.no rfl) rfl (R.conv in52 in37 rfl) ?_
  refine LE.c (Wn.no rfl) rfl (R.call bd35 (Ls.cons rfl (Ls.cons rfl (Ls.cons rfl Ls.nil))) rfl) (Calls.mono h ?_)
  rintro _ w1 ⟨rfl, h⟩
  refine ⟨_, rfl, ?_⟩
  refine LE.nil ?_
  exact ⟨_,  Res.nil, rfl, h⟩
/-- The formula of (*signpost.wire.Writer).Raw. -/
def F24 (p0 : Option Addr) (p1 : SV) (K : World → Prop) (w0 : World) : Prop :=
M.nil p0 fun a1 =>
M.ld SV.v a1 w0 fun t3 =>
M.app Try.prog 23 23 23 t3 (SV.v p1) w0 fun s5 w6 =>
M.nil p0 fun a8 =>
M.st a8 (SV.v s5) w6 fun w10 =>
K w10
theorem F24_ok {w0 : World} {p0 : Option Addr} {p1 : SV} {K : World → Prop} (h : F24 p0 p1 K w0) : Calls Try.prog 24 #[(Value.pointer p0), (SV.v p1)] w0 (R24 K) := by
  refine calls_of_WE (args := [(Value.pointer p0), (SV.v p1)]) (rs := []) Try.func24 rfl (N := 13) rfl rfl rfl rfl ?_
  refine WE.reg ?_
  refine LE.p (v := (Value.pointer p0)) (Wn.no rfl) rfl (R.move rfl) ?_
  refine LE.p (v := (Value.pointer p0)) (Wn.no rfl) rfl (R.move rfl) ?_
  obtain ⟨a1, h2, h⟩ := h
  refine LE.p (v := (Value.pointer (some a1))) (Wn.no rfl) rfl (R.nilC (congrArg Value.pointer h2)) ?_
  refine LE.p (v := (Value.pointer (some a1))) (Wn.no rfl) rfl (R.fld (off := 0) fa55_0 rfl) ?_
  obtain ⟨t3, h4, h⟩ := h
  refine LE.r (v := (SV.v t3)) (Wn.no rfl) rfl (R.ld sc23 rfl h4) ?_
  refine LE.p (v := (SV.v p1)) (Wn.no rfl) rfl (R.move rfl) ?_
  obtain ⟨s5, w6, h7, h⟩ := h
  refine LE.r (v := (SV.v s5)) (Wn.no rfl) rfl (R.app (s := t3) (r := s5) rfl rfl h7) ?_
  obtain ⟨a8, h9, h⟩ := h
  refine LE.p (v := (Value.pointer (some a8))) (Wn.no rfl) rfl (R.nilC (congrArg Value.pointer h9)) ?_
  refine LE.p (v := (Value.pointer (some a8))) (Wn.no rfl) rfl (R.fld (off := 0) fa55_0 rfl) ?_
  obtain ⟨w10, hww10, h11, h12, h⟩ := M.st_use h
  refine LE.s (Wn.no rfl) rfl (R.st (a := a8) (v := (SV.v s5)) sz23 rfl rfl rfl rfl h11 h12 hww10) ?_
  refine LE.nil ?_
  exact ⟨_,  Res.nil, rfl, h⟩
/-- The formula of slices.Clone[[]byte,byte]. -/
def F25 (p0 : SV) (K : SV → World → Prop) (w0 : World) : Prop :=
M.ite (Option.isNone (SV.a p0)) (
K SV.nil w0) (
M.new (.cells #[] 5) w0 fun b4 w2 =>
M.app Try.prog 23 23 23 (SV.mk (some b4) 0 0) (SV.v p0) w2 fun s5 w6 =>
K s5 w6)
theorem F25_ok {w0 : World} {p0 : SV} {K : SV → World → Prop} (h : F25 p0 K w0) : Calls Try.prog 25 #[(SV.v p0)] w0 (R25 K) := by
  refine calls_of_WE (args := [(SV.v p0)]) (rs := [.tmp 2]) Try.func25 rfl (N := 8) rfl rfl rfl rfl ?_
  refine WE.seq ?_
  refine WE.reg ?_
  refine LE.p (v := (SV.v SV.nil)) (Wn.no rfl) rfl (R.assign rfl) ?_
  refine LE.nil ?_
  refine WE.seq ?_
  refine WE.seq ?_
  refine WE.reg ?_
  refine LE.p (v := (SV.v p0)) (Wn.no rfl) rfl (R.move rfl) ?_
  refine LE.p (v := (Value.bool (Option.isNone (SV.a p0)))) (Wn.no rfl) rfl (R.sleqNil sl23 rfl rfl) ?_
  refine LE.nil ?_
  refine WE.condT rfl (b := (Option.isNone (SV.a p0))) rfl ?_ ?_
  · intro hb1
    replace h := M.ite_t h hb1
    refine WE.seq ?_
    refine WE.reg ?_
    refine LE.p (v := (SV.v SV.nil)) (Wn.no rfl) rfl (R.assign rfl) ?_
    refine LE.nil ?_
    refine WE.ret ?_
    exact ⟨_, (Res.tmp rfl Res.nil), _, rfl, h⟩
  · intro hb1
    replace h := M.ite_f h hb1
    refine WE.skip ?_
    refine WE.seq ?_
    refine WE.reg ?_
    obtain ⟨b4, hpb4, w2, hww2, h⟩ := M.new_use h
    refine LE.r (v := (SV.v (SV.mk (some b4) 0 0))) (Wn.no rfl) rfl (R.bsl (by exact Ls.nil) (fun w => bs23_0  w) hpb4 hww2) ?_
    refine LE.p (v := (SV.v p0)) (Wn.no rfl) rfl (R.move rfl) ?_
    obtain ⟨s5, w6, h7, h⟩ := h
    refine LE.r (v := (SV.v s5)) (Wn.no rfl) rfl (R.app (s := (SV.mk (some b4) 0 0)) (r := s5) rfl rfl h7) ?_
    refine LE.p (v := (SV.v s5)) (Wn.no rfl) rfl (R.assign rfl) ?_
    refine LE.nil ?_
    refine WE.ret ?_
    exact ⟨_, (Res.tmp rfl Res.nil), _, rfl, h⟩
/-- The formula of (*signpost.signpostref4.Reader).U8. -/
def F26 (p0 : Option Addr) (K : Int → World → Prop) (w0 : World) : Prop :=
Calls Try.prog 36 #[(Value.pointer p0), (Value.int .i64 (1 : Int))] w0 (R36 fun r1 w2 =>
K (IntKind.i64.wrap r1) w2)
theorem F26_ok {w0 : World} {p0 : Option Addr} {K : Int → World → Prop} (h : F26 p0 K w0) : Calls Try.prog 26 #[(Value.pointer p0)] w0 (R26 K) := by
  refine calls_of_WE (args := [(Value.pointer p0)]) (rs := [.tmp 2]) Try.func26 rfl (N := 6) rfl rfl rfl rfl ?_
  refine WE.seq ?_
  refine WE.reg ?_
  refine LE.p (v := (Value.int .i64 (0 : Int))) (Wn.no rfl) rfl (R.assign rfl) ?_
  refine LE.nil ?_
  refine WE.seq ?_
  refine WE.reg ?_
  refine LE.p (v := (Value.pointer p0)) (Wn.no rfl) rfl (R.move rfl) ?_
  refine LE.c (Wn.no rfl) rfl (R.call bd36 (Ls.cons rfl (Ls.cons rfl Ls.nil)) rfl) (Calls.mono h ?_)
  rintro _ w2 ⟨r1, rfl, h⟩
  refine ⟨_, rfl, ?_⟩
  refine LE.p (v := (Value.int .i64 (IntKind.i64.wrap r1))) (Wn.no rfl) rfl (R.conv in3 in37 rfl) ?_
  refine LE.p (v := (Value.int .i64 (IntKind.i64.wrap r1))) (Wn.no rfl) rfl (R.assign rfl) ?_
  refine LE.nil ?_
  refine WE.ret ?_
  exact ⟨_, (Res.tmp rfl Res.nil), _, rfl, h⟩
/-- The formula of (*signpost.signpostref4.Reader).U16. -/
def F27 (p0 : Option Addr) (K : Int → World → Prop) (w0 : World) : Prop :=
Calls Try.prog 36 #[(Value.pointer p0), (Value.int .i64 (2 : Int))] w0 (R36 fun r1 w2 =>
K (IntKind.i64.wrap r1) w2)
theorem F27_ok {w0 : World} {p0 : Option Addr} {K : Int → World → Prop} (h : F27 p0 K w0) : Calls Try.prog 27 #[(Value.pointer p0)] w0 (R27 K) := by
  refine calls_of_WE (args := [(Value.pointer p0)]) (rs := [.tmp 2]) Try.func27 rfl (N := 6) rfl rfl rfl rfl ?_
  refine WE.seq ?_
  refine WE.reg ?_
  refine LE.p (v := (Value.int .i64 (0 : Int))) (Wn.no rfl) rfl (R.assign rfl) ?_
  refine LE.nil ?_
  refine WE.seq ?_
  refine WE.reg ?_
  refine LE.p (v := (Value.pointer p0)) (Wn.no rfl) rfl (R.move rfl) ?_
  refine LE.c (Wn.no rfl) rfl (R.call bd36 (Ls.cons rfl (Ls.cons rfl Ls.nil)) rfl) (Calls.mono h ?_)
  rintro _ w2 ⟨r1, rfl, h⟩
  refine ⟨_, rfl, ?_⟩
  refine LE.p (v := (Value.int .i64 (IntKind.i64.wrap r1))) (Wn.no rfl) rfl (R.conv in3 in37 rfl) ?_
  refine LE.p (v := (Value.int .i64 (IntKind.i64.wrap r1))) (Wn.no rfl) rfl (R.assign rfl) ?_
  refine LE.nil ?_
  refine WE.ret ?_
  exact ⟨_, (Res.tmp rfl Res.nil), _, rfl, h⟩
/-- The formula of (*signpost.signpostref4.Reader).U32. -/
def F28 (p0 : Option Addr) (K : Int → World → Prop) (w0 : World) : Prop :=
Calls Try.prog 36 #[(Value.pointer p0), (Value.int .i64 (4 : Int))] w0 (R36 fun r1 w2 =>
K r1 w2)
theorem F28_ok {w0 : World} {p0 : Option Addr} {K : Int → World → Prop} (h : F28 p0 K w0) : Calls Try.prog 28 #[(Value.pointer p0)] w0 (R28 K) := by
  refine calls_of_WE (args := [(Value.pointer p0)]) (rs := [.tmp 2]) Try.func28 rfl (N := 5) rfl rfl rfl rfl ?_
  refine WE.seq ?_
  refine WE.reg ?_
  refine LE.p (v := (Value.int .u32 (0 : Int))) (Wn.no rfl) rfl (R.assign rfl) ?_
  refine LE.nil ?_
  refine WE.seq ?_
  refine WE.reg ?_
  refine LE.p (v := (Value.pointer p0)) (Wn.no rfl) rfl (R.move rfl) ?_
  refine LE.c (Wn.no rfl) rfl (R.call bd36 (Ls.cons rfl (Ls.cons rfl Ls.nil)) rfl) (Calls.mono h ?_)
  rintro _ w2 ⟨r1, rfl, h⟩
  refine ⟨_, rfl, ?_⟩
  refine LE.p (v := (Value.int .u32 r1)) (Wn.no rfl) rfl (R.assign rfl) ?_
  refine LE.nil ?_
  refine WE.ret ?_
  exact ⟨_, (Res.tmp rfl Res.nil), _, rfl, h⟩
/-- The formula of (*signpost.signpostref4.Reader).Raw. -/
def F29 (p0 : Option Addr) (p1 : Int) (K : SV → World → Prop) (w0 : World) : Prop :=
M.join (fun (x2 : Bool) (w9 : World) => 
M.ite x2 (
K SV.nil w9) (
M.drew w9 fun w14 => 
M.nil p0 fun a15 =>
M.nil p0 fun a17 =>
M.ld SV.v a15 w14 fun t19 =>
M.ld (Value.int .i64) (a17.add 1) w14 fun t21 =>
M.ite (decide ((IntKind.i64.wrap ((t19.len : Int) - t21)) < p1)) (
M.nil p0 fun a24 =>
M.st (a24.add 2) (Value.bool true) w14 fun w26 =>
K SV.nil w26) (
M.drew w14 fun w29 => 
M.nil p0 fun a30 =>
M.nil p0 fun a32 =>
M.nil p0 fun a34 =>
M.ld SV.v a30 w29 fun t36 =>
M.ld (Value.int .i64) (a32.add 1) w29 fun t38 =>
M.ld (Value.int .i64) (a34.add 1) w29 fun t40 =>
M.bnd t38 (IntKind.i64.wrap (t40 + p1)) t36 <|
M.new (.cells #[] 5) w29 fun b48 w46 =>
M.keep (w46.cell? (a34.add 1) = some (Value.int .i64 t40)) <|
M.keep (w46.cell? (a32.add 1) = some (Value.int .i64 t38)) <|
M.keep (w46.cell? a30 = some (SV.v t36)) <|
M.app Try.prog 23 23 23 (SV.mk (some b48) 0 0) (SV.v (SV.sub t36 (Int.toNat t38) (Int.toNat (IntKind.i64.wrap (t40 + p1))) 1)) w46 fun s52 w53 =>
M.nil p0 fun a55 =>
M.ld (Value.int .i64) (a55.add 1) w53 fun t57 =>
M.nil p0 fun a59 =>
M.st (a59.add 1) (Value.int .i64 (IntKind.i64.wrap (t57 + p1))) w53 fun w61 =>
K s52 w61))) fun J1 => 
M.nil p0 fun a3 =>
M.ld Value.bool (a3.add 2) w0 fun t5 =>
M.ite t5 (
J1 true w0) (
J1 (decide (p1 < (1 : Int))) w0)
theorem F29_ok {w0 : World} {p0 : Option Addr} {p1 : Int} {K : SV → World → Prop} (h : F29 p0 p1 K w0) : Calls Try.prog 29 #[(Value.pointer p0), (Value.int .i64 p1)] w0 (R29 K) := by
  refine calls_of_WE (args := [(Value.pointer p0), (Value.int .i64 p1)]) (rs := [.tmp 4]) Try.func29 rfl (N := 56) rfl rfl rfl rfl ?_
  refine WE.seq ?_
  refine WE.reg ?_
  refine LE.p (v := (SV.v SV.nil)) (Wn.no rfl) rfl (R.assign rfl) ?_
  refine LE.nil ?_
  refine WE.seq ?_
  refine WE.seq ?_
  obtain ⟨J1, hJ1, h⟩ := M.join_use h
  refine WE.regJ (fun e w => ∃ (x2 : Bool), J1 x2 w ∧ e 0 = (Value.pointer p0) ∧ e 1 = (Value.int .i64 p1) ∧ e 13 = (Value.bool x2)) ?_ ?_
  · clear hJ1
    refine LE.p (v := (Value.pointer p0)) (Wn.no rfl) rfl (R.move rfl) ?_
    obtain ⟨a3, h4, h⟩ := h
    refine LE.p (v := (Value.pointer (some a3))) (Wn.no rfl) rfl (R.nilC (congrArg Value.pointer h4)) ?_
    refine LE.p (v := (Value.pointer (some (a3.add 2)))) (Wn.no rfl) rfl (R.fld (off := 2) fa28_2 rfl) ?_
    obtain ⟨t5, h6, h⟩ := h
    refine LE.r (v := (Value.bool t5)) (Wn.no rfl) rfl (R.ld sc4 rfl h6) ?_
    refine LE.p (v := (Value.bool t5)) (Wn.no rfl) rfl (R.move rfl) ?_
    rcases M.ite_use h with ⟨hb7, h⟩ | ⟨hb7, h⟩
    · refine LE.u (Un.no 4 10 false rfl rfl rfl (congrArg Value.bool hb7)) ?_
      refine LE.u (Un.no 4 10 false rfl rfl rfl (congrArg Value.bool hb7)) ?_
      refine LE.p (v := (Value.bool true)) (Wn.no rfl) rfl (R.pickT (congrArg Value.bool hb7) rfl) ?_
      refine LE.nil ?_
      exact ⟨_, h, rfl, rfl, rfl⟩
    · refine LE.p (v := (Value.int .i64 p1)) (Wn.yes 4 10 false rfl rfl rfl (congrArg Value.bool hb7)) rfl (R.move rfl) ?_
      refine LE.p (v := (Value.bool (decide (p1 < (1 : Int))))) (Wn.yes 4 10 false rfl rfl rfl (congrArg Value.bool hb7)) rfl (R.lss rfl rfl) ?_
      refine LE.p (v := (Value.bool (decide (p1 < (1 : Int))))) (Wn.no rfl) rfl (R.pickF (congrArg Value.bool hb7) rfl) ?_
      refine LE.nil ?_
      exact ⟨_, h, rfl, rfl, rfl⟩
  · rintro e8 w9 ⟨x2, h, f10, f11, f12⟩
    subst hJ1
    refine WE.condT rfl (b := x2) f12 ?_ ?_
    · intro hb13
      replace h := M.ite_t h hb13
      refine WE.seq ?_
      refine WE.reg ?_
      refine LE.p (v := (SV.v SV.nil)) (Wn.no rfl) rfl (R.assign rfl) ?_
      refine LE.nil ?_
      refine WE.ret ?_
      exact ⟨_, (Res.tmp rfl Res.nil), _, rfl, h⟩
    · intro hb13
      replace h := M.ite_f h hb13
      refine WE.skip ?_
      refine WE.seq ?_
      refine WE.seq ?_
      refine WE.draw mix ?_
      obtain ⟨w14, hww14, h⟩ := M.drew_use h
      rw [← hww14]
      clear hww14
      refine DE.t 0 (v := (Value.pointer p0)) rfl (by kernel_rfl) (Wn.no rfl) rfl (R.move f10) ?_
      obtain ⟨a15, h16, h⟩ := h
      refine DE.t 1 (v := (Value.pointer (some a15))) rfl (by kernel_rfl) (Wn.no rfl) rfl (R.nilC (congrArg Value.pointer h16)) ?_
      refine DE.t 2 (v := (Value.pointer (some a15))) rfl (by kernel_rfl) (Wn.no rfl) rfl (R.fld (off := 0) fa28_0 rfl) ?_
      refine DE.t 5 (v := (Value.pointer p0)) rfl (by kernel_rfl) (Wn.no rfl) rfl (R.move f10) ?_
      obtain ⟨a17, h18, h⟩ := h
      refine DE.t 6 (v := (Value.pointer (some a17))) rfl (by kernel_rfl) (Wn.no rfl) rfl (R.nilC (congrArg Value.pointer h18)) ?_
      refine DE.t 7 (v := (Value.pointer (some (a17.add 1)))) rfl (by kernel_rfl) (Wn.no rfl) rfl (R.fld (off := 1) fa28_1 rfl) ?_
      refine DE.t 10 (v := (Value.int .i64 p1)) rfl (by kernel_rfl) (Wn.no rfl) rfl (R.move f11) ?_
      obtain ⟨t19, h20, h⟩ := h
      refine DE.hold 3 (fun w => w.cell? a15 = some (SV.v t19)) (v := (SV.v t19)) rfl (by kernel_rfl) (Wn.no rfl) rfl h20 (fun w hs => R.ld sc23 rfl hs) ?_
      refine DE.t 4 (v := (Value.int .i64 (t19.len : Int))) rfl (by kernel_rfl) (Wn.no rfl) rfl (R.len sl23 rfl) ?_
      obtain ⟨t21, h22, h⟩ := h
      refine DE.main 8 (by kernel_rfl) ?_
      refine One.r 8 (v := (Value.int .i64 t21)) rfl (Wn.no rfl) rfl (R.ld sc3 rfl h22) (.inl rfl) ?_
      refine DE.t 9 (v := (Value.int .i64 (IntKind.i64.wrap ((t19.len : Int) - t21)))) rfl (by kernel_rfl) (Wn.no rfl) rfl (R.sub rfl rfl) ?_
      refine DE.t 11 (v := (Value.bool (decide ((IntKind.i64.wrap ((t19.len : Int) - t21)) < p1)))) rfl (by kernel_rfl) (Wn.no rfl) rfl (R.lss rfl rfl) ?_
      refine DE.done (by kernel_rfl) ?_
      refine WE.condT rfl (b := (decide ((IntKind.i64.wrap ((t19.len : Int) - t21)) < p1))) rfl ?_ ?_
      · intro hb23
        replace h := M.ite_t h hb23
        refine WE.seq ?_
        refine WE.reg ?_
        refine LE.p (v := (Value.pointer p0)) (Wn.no rfl) rfl (R.move f10) ?_
        obtain ⟨a24, h25, h⟩ := h
        refine LE.p (v := (Value.pointer (some a24))) (Wn.no rfl) rfl (R.nilC (congrArg Value.pointer h25)) ?_
        refine LE.p (v := (Value.pointer (some (a24.add 2)))) (Wn.no rfl) rfl (R.fld (off := 2) fa28_2 rfl) ?_
        obtain ⟨w26, hww26, h27, h28, h⟩ := M.st_use h
        refine LE.s (Wn.no rfl) rfl (R.st (a := (a24.add 2)) (v := (Value.bool true)) sz4 rfl rfl rfl rfl h27 h28 hww26) ?_
        refine LE.nil ?_
        refine WE.seq ?_
        refine WE.reg ?_
        refine LE.p (v := (SV.v SV.nil)) (Wn.no rfl) rfl (R.assign rfl) ?_
        refine LE.nil ?_
        refine WE.ret ?_
        exact ⟨_, (Res.tmp rfl Res.nil), _, rfl, h⟩
      · intro hb23
        replace h := M.ite_f h hb23
        refine WE.skip ?_
        refine WE.seq ?_
        refine WE.draw mix ?_
        obtain ⟨w29, hww29, h⟩ := M.drew_use h
        rw [← hww29]
        clear hww29
        refine DE.t 1 (v := (Value.pointer p0)) rfl (by kernel_rfl) (Wn.no rfl) rfl (R.move f10) ?_
        obtain ⟨a30, h31, h⟩ := h
        refine DE.t 2 (v := (Value.pointer (some a30))) rfl (by kernel_rfl) (Wn.no rfl) rfl (R.nilC (congrArg Value.pointer h31)) ?_
        refine DE.t 3 (v := (Value.pointer (some a30))) rfl (by kernel_rfl) (Wn.no rfl) rfl (R.fld (off := 0) fa28_0 rfl) ?_
        refine DE.t 5 (v := (Value.pointer p0)) rfl (by kernel_rfl) (Wn.no rfl) rfl (R.move f10) ?_
        obtain ⟨a32, h33, h⟩ := h
        refine DE.t 6 (v := (Value.pointer (some a32))) rfl (by kernel_rfl) (Wn.no rfl) rfl (R.nilC (congrArg Value.pointer h33)) ?_
        refine DE.t 7 (v := (Value.pointer (some (a32.add 1)))) rfl (by kernel_rfl) (Wn.no rfl) rfl (R.fld (off := 1) fa28_1 rfl) ?_
        refine DE.t 9 (v := (Value.pointer p0)) rfl (by kernel_rfl) (Wn.no rfl) rfl (R.move f10) ?_
        obtain ⟨a34, h35, h⟩ := h
        refine DE.t 10 (v := (Value.pointer (some a34))) rfl (by kernel_rfl) (Wn.no rfl) rfl (R.nilC (congrArg Value.pointer h35)) ?_
        refine DE.t 11 (v := (Value.pointer (some (a34.add 1)))) rfl (by kernel_rfl) (Wn.no rfl) rfl (R.fld (off := 1) fa28_1 rfl) ?_
        refine DE.t 13 (v := (Value.int .i64 p1)) rfl (by kernel_rfl) (Wn.no rfl) rfl (R.move f11) ?_
        obtain ⟨t36, h37, h⟩ := h
        refine DE.hold 4 (fun w => w.cell? a30 = some (SV.v t36)) (v := (SV.v t36)) rfl (by kernel_rfl) (Wn.no rfl) rfl h37 (fun w hs => R.ld sc23 rfl hs) ?_
        obtain ⟨t38, h39, h⟩ := h
        refine DE.hold 8 (fun w => w.cell? (a32.add 1) = some (Value.int .i64 t38)) (v := (Value.int .i64 t38)) rfl (by kernel_rfl) (Wn.no rfl) rfl h39 (fun w hs => R.ld sc3 rfl hs) ?_
        obtain ⟨t40, h41, h⟩ := h
        refine DE.hold 12 (fun w => w.cell? (a34.add 1) = some (Value.int .i64 t40)) (v := (Value.int .i64 t40)) rfl (by kernel_rfl) (Wn.no rfl) rfl h41 (fun w hs => R.ld sc3 rfl hs) ?_
        refine DE.t 14 (v := (Value.int .i64 (IntKind.i64.wrap (t40 + p1)))) rfl (by kernel_rfl) (Wn.no rfl) rfl (R.add rfl rfl) ?_
        obtain ⟨h42, h43, h44, h⟩ := h
        refine DE.t 15 (v := (SV.v (SV.sub t36 (Int.toNat t38) (Int.toNat (IntKind.i64.wrap (t40 + p1))) 1))) rfl (by kernel_rfl) (Wn.no rfl) rfl (R.slc (s := t36) (lo := t38) (hi := (IntKind.i64.wrap (t40 + p1))) _ _ sl23 rfl rfl rfl h42 h43 h44) ?_
        obtain ⟨b48, hpb48, w46, hww46, h⟩ := M.new_use h
        obtain ⟨k49, h⟩ := h
        obtain ⟨k50, h⟩ := h
        obtain ⟨k51, h⟩ := h
        refine DE.main 0 (by kernel_rfl) ?_
        refine One.r 0 (v := (SV.v (SV.mk (some b48) 0 0))) rfl (Wn.no rfl) rfl (R.bsl (by exact Ls.nil) (fun w => bs23_0  w) hpb48 hww46) (.inr ⟨fun _ => k49, fun _ => k50, fun _ => k51, trivial⟩) ?_
        obtain ⟨s52, w53, h54, h⟩ := h
        refine DE.main 16 (by kernel_rfl) ?_
        refine One.r 16 (v := (SV.v s52)) rfl (Wn.no rfl) rfl (R.app (s := (SV.mk (some b48) 0 0)) (r := s52) rfl rfl h54) (.inr ⟨aftT (by kernel_rfl), aftT (by kernel_rfl), aftT (by kernel_rfl), trivial⟩) ?_
        refine DE.t 17 (v := (SV.v s52)) rfl (by kernel_rfl) (Wn.no rfl) rfl (R.assign rfl) ?_
        refine DE.done (by kernel_rfl) ?_
        refine WE.seq ?_
        refine WE.reg ?_
        refine LE.p (v := (Value.pointer p0)) (Wn.no rfl) rfl (R.move f10) ?_
        refine LE.p (v := (Value.pointer p0)) (Wn.no rfl) rfl (R.move f10) ?_
        obtain ⟨a55, h56, h⟩ := h
        refine LE.p (v := (Value.pointer (some a55))) (Wn.no rfl) rfl (R.nilC (congrArg Value.pointer h56)) ?_
        refine LE.p (v := (Value.pointer (some (a55.add 1)))) (Wn.no rfl) rfl (R.fld (off := 1) fa28_1 rfl) ?_
        obtain ⟨t57, h58, h⟩ := h
        refine LE.r (v := (Value.int .i64 t57)) (Wn.no rfl) rfl (R.ld sc3 rfl h58) ?_
        refine LE.p (v := (Value.int .i64 p1)) (Wn.no rfl) rfl (R.move f11) ?_
        refine LE.p (v := (Value.int .i64 (IntKind.i64.wrap (t57 + p1)))) (Wn.no rfl) rfl (R.add rfl rfl) ?_
        obtain ⟨a59, h60, h⟩ := h
        refine LE.p (v := (Value.pointer (some a59))) (Wn.no rfl) rfl (R.nilC (congrArg Value.pointer h60)) ?_
        refine LE.p (v := (Value.pointer (some (a59.add 1)))) (Wn.no rfl) rfl (R.fld (off := 1) fa28_1 rfl) ?_
        obtain ⟨w61, hww61, h62, h63, h⟩ := M.st_use h
        refine LE.s (Wn.no rfl) rfl (R.st (a := (a59.add 1)) (v := (Value.int .i64 (IntKind.i64.wrap (t57 + p1)))) sz3 rfl rfl rfl rfl h62 h63 hww61) ?_
        refine LE.nil ?_
        refine WE.seq ?_
        refine WE.reg ?_
        refine LE.p (v := (SV.v s52)) (Wn.no rfl) rfl (R.move rfl) ?_
        refine LE.p (v := (SV.v s52)) (Wn.no rfl) rfl (R.assign rfl) ?_
        refine LE.nil ?_
        refine WE.ret ?_
        exact ⟨_, (Res.tmp rfl Res.nil), _, rfl, h⟩
/-- The formula of (*signpost.signpostref4.Reader).Left. -/
def F30 (p0 : Option Addr) (K : Int → World → Prop) (w0 : World) : Prop :=
M.nil p0 fun a1 =>
M.ld Value.bool (a1.add 2) w0 fun t3 =>
M.ite t3 (
K (0 : Int) w0) (
M.drew w0 fun w6 => 
M.nil p0 fun a7 =>
M.nil p0 fun a9 =>
M.ld SV.v a7 w6 fun t11 =>
M.ld (Value.int .i64) (a9.add 1) w6 fun t13 =>
K (IntKind.i64.wrap ((t11.len : Int) - t13)) w6)
theorem F30_ok {w0 : World} {p0 : Option Addr} {K : Int → World → Prop} (h : F30 p0 K w0) : Calls Try.prog 30 #[(Value.pointer p0)] w0 (R30 K) := by
  refine calls_of_WE (args := [(Value.pointer p0)]) (rs := [.tmp 2]) Try.func30 rfl (N := 17) rfl rfl rfl rfl ?_
  refine WE.seq ?_
  refine WE.reg ?_
  refine LE.p (v := (Value.int .i64 (0 : Int))) (Wn.no rfl) rfl (R.assign rfl) ?_
  refine LE.nil ?_
  refine WE.seq ?_
  refine WE.seq ?_
  refine WE.reg ?_
  refine LE.p (v := (Value.pointer p0)) (Wn.no rfl) rfl (R.move rfl) ?_
  obtain ⟨a1, h2, h⟩ := h
  refine LE.p (v := (Value.pointer (some a1))) (Wn.no rfl) rfl (R.nilC (congrArg Value.pointer h2)) ?_
  refine LE.p (v := (Value.pointer (some (a1.add 2)))) (Wn.no rfl) rfl (R.fld (off := 2) fa28_2 rfl) ?_
  obtain ⟨t3, h4, h⟩ := h
  refine LE.r (v := (Value.bool t3)) (Wn.no rfl) rfl (R.ld sc4 rfl h4) ?_
  refine LE.nil ?_
  refine WE.condT rfl (b := t3) rfl ?_ ?_
  · intro hb5
    replace h := M.ite_t h hb5
    refine WE.seq ?_
    refine WE.reg ?_
    refine LE.p (v := (Value.int .i64 (0 : Int))) (Wn.no rfl) rfl (R.assign rfl) ?_
    refine LE.nil ?_
    refine WE.ret ?_
    exact ⟨_, (Res.tmp rfl Res.nil), _, rfl, h⟩
  · intro hb5
    replace h := M.ite_f h hb5
    refine WE.skip ?_
    refine WE.seq ?_
    refine WE.draw mix ?_
    obtain ⟨w6, hww6, h⟩ := M.drew_use h
    rw [← hww6]
    clear hww6
    refine DE.t 0 (v := (Value.pointer p0)) rfl (by kernel_rfl) (Wn.no rfl) rfl (R.move rfl) ?_
    obtain ⟨a7, h8, h⟩ := h
    refine DE.t 1 (v := (Value.pointer (some a7))) rfl (by kernel_rfl) (Wn.no rfl) rfl (R.nilC (congrArg Value.pointer h8)) ?_
    refine DE.t 2 (v := (Value.pointer (some a7))) rfl (by kernel_rfl) (Wn.no rfl) rfl (R.fld (off := 0) fa28_0 rfl) ?_
    refine DE.t 5 (v := (Value.pointer p0)) rfl (by kernel_rfl) (Wn.no rfl) rfl (R.move rfl) ?_
    obtain ⟨a9, h10, h⟩ := h
    refine DE.t 6 (v := (Value.pointer (some a9))) rfl (by kernel_rfl) (Wn.no rfl) rfl (R.nilC (congrArg Value.pointer h10)) ?_
    refine DE.t 7 (v := (Value.pointer (some (a9.add 1)))) rfl (by kernel_rfl) (Wn.no rfl) rfl (R.fld (off := 1) fa28_1 rfl) ?_
    obtain ⟨t11, h12, h⟩ := h
    refine DE.hold 3 (fun w => w.cell? a7 = some (SV.v t11)) (v := (SV.v t11)) rfl (by kernel_rfl) (Wn.no rfl) rfl h12 (fun w hs => R.ld sc23 rfl hs) ?_
    refine DE.t 4 (v := (Value.int .i64 (t11.len : Int))) rfl (by kernel_rfl) (Wn.no rfl) rfl (R.len sl23 rfl) ?_
    obtain ⟨t13, h14, h⟩ := h
    refine DE.main 8 (by kernel_rfl) ?_
    refine One.r 8 (v := (Value.int .i64 t13)) rfl (Wn.no rfl) rfl (R.ld sc3 rfl h14) (.inl rfl) ?_
    refine DE.t 9 (v := (Value.int .i64 (IntKind.i64.wrap ((t11.len : Int) - t13)))) rfl (by kernel_rfl) (Wn.no rfl) rfl (R.sub rfl rfl) ?_
    refine DE.t 10 (v := (Value.int .i64 (IntKind.i64.wrap ((t11.len : Int) - t13)))) rfl (by kernel_rfl) (Wn.no rfl) rfl (R.assign rfl) ?_
    refine DE.done (by kernel_rfl) ?_
    refine WE.ret ?_
    exact ⟨_, (Res.tmp rfl Res.nil), _, rfl, h⟩
/-- The formula of (*signpost.wire.Reader).get. -/
def F31 (p0 : Option Addr) (p1 : Int) (K : Int → World → Prop) (w0 : World) : Prop :=
Calls Try.prog 13 #[(Value.pointer p0), (Value.int .i64 p1)] w0 (R13 fun r1 w2 =>
M.loop2 (fun (J5 : Int → Int → World → Prop) (x3 : Int) (x4 : Int) (w6 : World) => 
M.ite (decide (x4 < (r1.len : Int))) (
M.idx r1 x4 1 fun a18 =>
M.ld (Value.int .u8) (a18.add (x4.toNat * 1)) w6 fun t22 =>
J5 (bOr .u64 (bShl .u64 x3 (8 : Int)) (IntKind.u64.wrap t22)) (IntKind.i64.wrap (x4 + (1 : Int))) w6) (
K x3 w6)) (0 : Int) (0 : Int) w2)
theorem F31_ok {w0 : World} {p0 : Option Addr} {p1 : Int} {K : Int → World → Prop} (h : F31 p0 p1 K w0) : Calls Try.prog 31 #[(Value.pointer p0), (Value.int .i64 p1)] w0 (R31 K) := by
  refine calls_of_WE (args := [(Value.pointer p0), (Value.int .i64 p1)]) (rs := [.tmp 4]) Try.func31 rfl (N := 23) rfl rfl rfl rfl ?_
  refine WE.seq ?_
  refine WE.reg ?_
  refine LE.p (v := (Value.int .u64 (0 : Int))) (Wn.no rfl) rfl (R.assign rfl) ?_
  refine LE.nil ?_
  refine WE.seq ?_
  refine WE.reg ?_
  refine LE.p (v := (Value.int .u64 (0 : Int))) (Wn.no rfl) rfl (R.assign rfl) ?_
  refine LE.nil ?_
  refine WE.seq ?_
  refine WE.seq ?_
  refine WE.reg ?_
  refine LE.p (v := (Value.pointer p0)) (Wn.no rfl) rfl (R.move rfl) ?_
  refine LE.p (v := (Value.int .i64 p1)) (Wn.no rfl) rfl (R.move rfl) ?_
  refine LE.c (Wn.no rfl) rfl (R.call bd13 (Ls.cons rfl (Ls.cons rfl Ls.nil)) rfl) (Calls.mono h ?_)
  rintro _ w2 ⟨r1, rfl, h⟩
  refine ⟨_, rfl, ?_⟩
  refine LE.p (v := (Value.int .i64 (r1.len : Int))) (Wn.no rfl) rfl (R.len sl23 rfl) ?_
  refine LE.p (v := (Value.int .i64 (0 : Int))) (Wn.no rfl) rfl (R.move rfl) ?_
  refine LE.nil ?_
  refine WE.block ?_
  obtain ⟨I9, ⟨n8, h⟩, hr10⟩ := h
  refine WE.loop (fun n e w => ∃ (x3 : Int) (x4 : Int), I9 n x3 x4 w ∧ e 5 = (Value.int .u64 x3) ∧ e 10 = (SV.v r1) ∧ e 11 = (Value.int .i64 (r1.len : Int)) ∧ e 12 = (Value.int .i64 x4)) n8 ⟨_, _, h, rfl, rfl, rfl, rfl⟩ ?_
  clear h
  rintro n8 e7 w6 ⟨x3, x4, h, f13, f14, f15, f16⟩
  replace h := hr10 n8 x3 x4 w6 h
  refine WE.seq ?_
  refine WE.reg ?_
  refine LE.p (v := (Value.bool (decide (x4 < (r1.len : Int))))) (Wn.no rfl) rfl (R.lss f16 f15) ?_
  refine LE.nil ?_
  refine WE.seq ?_
  refine WE.condT rfl (b := (decide (x4 < (r1.len : Int)))) rfl ?_ ?_
  · intro hb17
    replace h := M.ite_t h hb17
    refine WE.skip ?_
    refine WE.seq ?_
    refine WE.block ?_
    refine WE.seq ?_
    refine WE.reg ?_
    obtain ⟨a18, h19, h20, h21, h⟩ := h
    refine LE.p (v := (Value.pointer (some (a18.add (x4.toNat * 1))))) (Wn.no rfl) rfl (R.idx (s := r1) sl23 f14 f16 h19 h20 h21) ?_
    obtain ⟨t22, h23, h⟩ := h
    refine LE.r (v := (Value.int .u8 t22)) (Wn.no rfl) rfl (R.ld sc5 rfl h23) ?_
    refine LE.p (v := (Value.int .u8 t22)) (Wn.no rfl) rfl (R.assign rfl) ?_
    refine LE.nil ?_
    refine WE.reg ?_
    refine LE.p (v := (Value.int .u64 x3)) (Wn.no rfl) rfl (R.move f13) ?_
    refine LE.p (v := (Value.int .u64 (bShl .u64 x3 (8 : Int)))) (Wn.no rfl) rfl (R.shl rfl rfl (by decide)) ?_
    refine LE.p (v := (Value.int .u8 t22)) (Wn.no rfl) rfl (R.move rfl) ?_
    refine LE.p (v := (Value.int .u64 (IntKind.u64.wrap t22))) (Wn.no rfl) rfl (R.conv in52 in5 rfl) ?_
    refine LE.p (v := (Value.int .u64 (bOr .u64 (bShl .u64 x3 (8 : Int)) (IntKind.u64.wrap t22)))) (Wn.no rfl) rfl (R.or rfl rfl) ?_
    refine LE.p (v := (Value.int .u64 (bOr .u64 (bShl .u64 x3 (8 : Int)) (IntKind.u64.wrap t22)))) (Wn.no rfl) rfl (R.assign rfl) ?_
    refine LE.nil ?_
    refine WE.reg ?_
    refine LE.p (v := (Value.int .i64 (IntKind.i64.wrap (x4 + (1 : Int))))) (Wn.no rfl) rfl (R.add f16 rfl) ?_
    refine LE.p (v := (Value.int .i64 (IntKind.i64.wrap (x4 + (1 : Int))))) (Wn.no rfl) rfl (R.move rfl) ?_
    refine LE.nil ?_
    obtain ⟨m11, hm12, h⟩ := h
    exact ⟨m11, hm12, _, _, h, rfl, f14, f15, rfl⟩
  · intro hb17
    replace h := M.ite_f h hb17
    refine WE.exit ?_
    refine WE.seq ?_
    refine WE.reg ?_
    refine LE.p (v := (Value.int .u64 x3)) (Wn.no rfl) rfl (R.move f13) ?_
    refine LE.p (v := (Value.int .u64 x3)) (Wn.no rfl) rfl (R.assign rfl) ?_
    refine LE.nil ?_
    refine WE.ret ?_
    exact ⟨_, (Res.tmp rfl Res.nil), _, rfl, h⟩
/-- The formula of signpost.signpostref4.U8. -/
def F32 (p0 : SV) (p1 : Int) (K : SV → World → Prop) (w0 : World) : Prop :=
M.new (.cells #[] 5) w0 fun b3 w1 =>
M.app Try.prog 23 23 23 (SV.mk (some b3) 0 0) (SV.v p0) w1 fun s4 w5 =>
M.new (.cells #[(Value.int .u8 (IntKind.u8.wrap p1))] 5) w5 fun b9 w7 =>
M.app Try.prog 23 23 23 s4 (SV.v (SV.mk (some b9) 1 1)) w7 fun s10 w11 =>
K s10 w11
theorem F32_ok {w0 : World} {p0 : SV} {p1 : Int} {K : SV → World → Prop} (h : F32 p0 p1 K w0) : Calls Try.prog 32 #[(SV.v p0), (Value.int .i64 p1)] w0 (R32 K) := by
  refine calls_of_WE (args := [(SV.v p0), (Value.int .i64 p1)]) (rs := [.tmp 4]) Try.func32 rfl (N := 12) rfl rfl rfl rfl ?_
  refine WE.seq ?_
  refine WE.reg ?_
  refine LE.p (v := (SV.v SV.nil)) (Wn.no rfl) rfl (R.assign rfl) ?_
  refine LE.nil ?_
  refine WE.seq ?_
  refine WE.reg ?_
  obtain ⟨b3, hpb3, w1, hww1, h⟩ := M.new_use h
  refine LE.r (v := (SV.v (SV.mk (some b3) 0 0))) (Wn.no rfl) rfl (R.bsl (by exact Ls.nil) (fun w => bs23_0  w) hpb3 hww1) ?_
  refine LE.p (v := (SV.v p0)) (Wn.no rfl) rfl (R.move rfl) ?_
  obtain ⟨s4, w5, h6, h⟩ := h
  refine LE.r (v := (SV.v s4)) (Wn.no rfl) rfl (R.app (s := (SV.mk (some b3) 0 0)) (r := s4) rfl rfl h6) ?_
  refine LE.p (v := (Value.int .i64 p1)) (Wn.no rfl) rfl (R.move rfl) ?_
  refine LE.p (v := (Value.int .u8 (IntKind.u8.wrap p1))) (Wn.no rfl) rfl (R.conv in5 in3 rfl) ?_
  obtain ⟨b9, hpb9, w7, hww7, h⟩ := M.new_use h
  refine LE.r (v := (SV.v (SV.mk (some b9) 1 1))) (Wn.no rfl) rfl (R.bsl (by exact (Ls.cons (R.Pr rfl) Ls.nil)) (fun w => bs23_1 (IntKind.u8.wrap p1) w) hpb9 hww7) ?_
  obtain ⟨s10, w11, h12, h⟩ := h
  refine LE.r (v := (SV.v s10)) (Wn.no rfl) rfl (R.app (s := s4) (r := s10) rfl rfl h12) ?_
  refine LE.p (v := (SV.v s10)) (Wn.no rfl) rfl (R.assign rfl) ?_
  refine LE.nil ?_
  refine WE.ret ?_
  exact ⟨_, (Res.tmp rfl Res.nil), _, rfl, h⟩
/-- The formula of signpost.signpostref4.U16. -/
def F33 (p0 : SV) (p1 : Int) (K : SV → World → Prop) (w0 : World) : Prop :=
M.new (.cells #[] 5) w0 fun b3 w1 =>
M.app Try.prog 23 23 23 (SV.mk (some b3) 0 0) (SV.v p0) w1 fun s4 w5 =>
M.new (.cells #[(Value.int .u8 (IntKind.u8.wrap (bShr .i64 p1 (8 : Int)))), (Value.int .u8 (IntKind.u8.wrap p1))] 5) w5 fun b9 w7 =>
M.app Try.prog 23 23 23 s4 (SV.v (SV.mk (some b9) 2 2)) w7 fun s10 w11 =>
K s10 w11
theorem F33_ok {w0 : World} {p0 : SV} {p1 : Int} {K : SV → World → Prop} (h : F33 p0 p1 K w0) : Calls Try.prog 33 #[(SV.v p0), (Value.int .i64 p1)] w0 (R33 K) := by
  refine calls_of_WE (args := [(SV.v p0), (Value.int .i64 p1)]) (rs := [.tmp 4]) Try.func33 rfl (N := 15) rfl rfl rfl rfl ?_
  refine WE.seq ?_
  refine WE.reg ?_
  refine LE.p (v := (SV.v SV.nil)) (Wn.no rfl) rfl (R.assign rfl) ?_
  refine LE.nil ?_
  refine WE.seq ?_
  refine WE.reg ?_
  obtain ⟨b3, hpb3, w1, hww1, h⟩ := M.new_use h
  refine LE.r (v := (SV.v (SV.mk (some b3) 0 0))) (Wn.no rfl) rfl (R.bsl (by exact Ls.nil) (fun w => bs23_0  w) hpb3 hww1) ?_
  refine LE.p (v := (SV.v p0)) (Wn.no rfl) rfl (R.move rfl) ?_
  obtain ⟨s4, w5, h6, h⟩ := h
  refine LE.r (v := (SV.v s4)) (Wn.no rfl) rfl (R.app (s := (SV.mk (some b3) 0 0)) (r := s4) rfl rfl h6) ?_
  refine LE.p (v := (Value.int .i64 p1)) (Wn.no rfl) rfl (R.move rfl) ?_
  refine LE.p (v := (Value.int .i64 (bShr .i64 p1 (8 : Int)))) (Wn.no rfl) rfl (R.shr rfl rfl (by decide)) ?_
  refine LE.p (v := (Value.int .u8 (IntKind.u8.wrap (bShr .i64 p1 (8 : Int))))) (Wn.no rfl) rfl (R.conv in5 in3 rfl) ?_
  refine LE.p (v := (Value.int .i64 p1)) (Wn.no rfl) rfl (R.move rfl) ?_
  refine LE.p (v := (Value.int .u8 (IntKind.u8.wrap p1))) (Wn.no rfl) rfl (R.conv in5 in3 rfl) ?_
  obtain ⟨b9, hpb9, w7, hww7, h⟩ := M.new_use h
  refine LE.r (v := (SV.v (SV.mk (some b9) 2 2))) (Wn.no rfl) rfl (R.bsl (by exact (Ls.cons (R.Pr rfl) (Ls.cons (R.Pr rfl) Ls.nil))) (fun w => bs23_2 (IntKind.u8.wrap (bShr .i64 p1 (8 : Int))) (IntKind.u8.wrap p1) w) hpb9 hww7) ?_
  obtain ⟨s10, w11, h12, h⟩ := h
  refine LE.r (v := (SV.v s10)) (Wn.no rfl) rfl (R.app (s := s4) (r := s10) rfl rfl h12) ?_
  refine LE.p (v := (SV.v s10)) (Wn.no rfl) rfl (R.assign rfl) ?_
  refine LE.nil ?_
  refine WE.ret ?_
  exact ⟨_, (Res.tmp rfl Res.nil), _, rfl, h⟩
/-- The formula of signpost.signpostref4.U32. -/
def F34 (p0 : SV) (p1 : Int) (K : SV → World → Prop) (w0 : World) : Prop :=
M.new (.cells #[] 5) w0 fun b3 w1 =>
M.app Try.prog 23 23 23 (SV.mk (some b3) 0 0) (SV.v p0) w1 fun s4 w5 =>
M.new (.cells #[(Value.int .u8 (IntKind.u8.wrap (bShr .u32 p1 (24 : Int)))), (Value.int .u8 (IntKind.u8.wrap (bShr .u32 p1 (16 : Int)))), (Value.int .u8 (IntKind.u8.wrap (bShr .u32 p1 (8 : Int)))), (Value.int .u8 (IntKind.u8.wrap p1))] 5) w5 fun b9 w7 =>
M.app Try.prog 23 23 23 s4 (SV.v (SV.mk (some b9) 4 4)) w7 fun s10 w11 =>
K s10 w11
theorem F34_ok {w0 : World} {p0 : SV} {p1 : Int} {K : SV → World → Prop} (h : F34 p0 p1 K w0) : Calls Try.prog 34 #[(SV.v p0), (Value.int .u32 p1)] w0 (R34 K) := by
  refine calls_of_WE (args := [(SV.v p0), (Value.int .u32 p1)]) (rs := [.tmp 4]) Try.func34 rfl (N := 21) rfl rfl rfl rfl ?_
  refine WE.seq ?_
  refine WE.reg ?_
  refine LE.p (v := (SV.v SV.nil)) (Wn.no rfl) rfl (R.assign rfl) ?_
  refine LE.nil ?_
  refine WE.seq ?_
  refine WE.reg ?_
  obtain ⟨b3, hpb3, w1, hww1, h⟩ := M.new_use h
  refine LE.r (v := (SV.v (SV.mk (some b3) 0 0))) (Wn.no rfl) rfl (R.bsl (by exact Ls.nil) (fun w => bs23_0  w) hpb3 hww1) ?_
  refine LE.p (v := (SV.v p0)) (Wn.no rfl) rfl (R.move rfl) ?_
  obtain ⟨s4, w5, h6, h⟩ := h
  refine LE.r (v := (SV.v s4)) (Wn.no rfl) rfl (R.app (s := (SV.mk (some b3) 0 0)) (r := s4) rfl rfl h6) ?_
  refine LE.p (v := (Value.int .u32 p1)) (Wn.no rfl) rfl (R.move rfl) ?_
  refine LE.p (v := (Value.int .u32 (bShr .u32 p1 (24 : Int)))) (Wn.no rfl) rfl (R.shr rfl rfl (by decide)) ?_
  refine LE.p (v := (Value.int .u8 (IntKind.u8.wrap (bShr .u32 p1 (24 : Int))))) (Wn.no rfl) rfl (R.conv in5 in37 rfl) ?_
  refine LE.p (v := (Value.int .u32 p1)) (Wn.no rfl) rfl (R.move rfl) ?_
  refine LE.p (v := (Value.int .u32 (bShr .u32 p1 (16 : Int)))) (Wn.no rfl) rfl (R.shr rfl rfl (by decide)) ?_
  refine LE.p (v := (Value.int .u8 (IntKind.u8.wrap (bShr .u32 p1 (16 : Int))))) (Wn.no rfl) rfl (R.conv in5 in37 rfl) ?_
  refine LE.p (v := (Value.int .u32 p1)) (Wn.no rfl) rfl (R.move rfl) ?_
  refine LE.p (v := (Value.int .u32 (bShr .u32 p1 (8 : Int)))) (Wn.no rfl) rfl (R.shr rfl rfl (by decide)) ?_
  refine LE.p (v := (Value.int .u8 (IntKind.u8.wrap (bShr .u32 p1 (8 : Int))))) (Wn.no rfl) rfl (R.conv in5 in37 rfl) ?_
  refine LE.p (v := (Value.int .u32 p1)) (Wn.no rfl) rfl (R.move rfl) ?_
  refine LE.p (v := (Value.int .u8 (IntKind.u8.wrap p1))) (Wn.no rfl) rfl (R.conv in5 in37 rfl) ?_
  obtain ⟨b9, hpb9, w7, hww7, h⟩ := M.new_use h
  refine LE.r (v := (SV.v (SV.mk (some b9) 4 4))) (Wn.no rfl) rfl (R.bsl (by exact (Ls.cons (R.Pr rfl) (Ls.cons (R.Pr rfl) (Ls.cons (R.Pr rfl) (Ls.cons (R.Pr rfl) Ls.nil))))) (fun w => bs23_4 (IntKind.u8.wrap (bShr .u32 p1 (24 : Int))) (IntKind.u8.wrap (bShr .u32 p1 (16 : Int))) (IntKind.u8.wrap (bShr .u32 p1 (8 : Int))) (IntKind.u8.wrap p1) w) hpb9 hww7) ?_
  obtain ⟨s10, w11, h12, h⟩ := h
  refine LE.r (v := (SV.v s10)) (Wn.no rfl) rfl (R.app (s := s4) (r := s10) rfl rfl h12) ?_
  refine LE.p (v := (SV.v s10)) (Wn.no rfl) rfl (R.assign rfl) ?_
  refine LE.nil ?_
  refine WE.ret ?_
  exact ⟨_, (Res.tmp rfl Res.nil), _, rfl, h⟩
/-- The formula of (*signpost.wire.Writer).put. -/
def F35 (p0 : Option Addr) (p1 : Int) (p2 : Int) (K : World → Prop) (w0 : World) : Prop :=
M.loop1 (fun (J2 : Int → World → Prop) (x1 : Int) (w3 : World) => 
M.ite (decide ((0 : Int) ≤ x1)) (
M.drew w3 fun w14 => 
M.nil p0 fun a15 =>
M.sh (IntKind.i64.wrap ((8 : Int) * x1)) <|
M.ld SV.v a15 w14 fun t18 =>
M.new (.cells #[(Value.int .u8 (IntKind.u8.wrap (bShr .u64 p1 (IntKind.i64.wrap ((8 : Int) * x1)))))] 5) w14 fun b22 w20 =>
M.keep (w20.cell? a15 = some (SV.v t18)) <|
M.app Try.prog 23 23 23 t18 (SV.v (SV.mk (some b22) 1 1)) w20 fun s24 w25 =>
M.nil p0 fun a27 =>
M.st a27 (SV.v s24) w25 fun w29 =>
J2 (IntKind.i64.wrap (x1 - (1 : Int))) w29) (
K w3)) (IntKind.i64.wrap (p2 - (1 : Int))) w0
theorem F35_ok {w0 : World} {p0 : Option Addr} {p1 : Int} {p2 : Int} {K : World → Prop} (h : F35 p0 p1 p2 K w0) : Calls Try.prog 35 #[(Value.pointer p0), (Value.int .u64 p1), (Value.int .i64 p2)] w0 (R35 K) := by
  refine calls_of_WE (args := [(Value.pointer p0), (Value.int .u64 p1), (Value.int .i64 p2)]) (rs := []) Try.func35 rfl (N := 27) rfl rfl rfl rfl ?_
  refine WE.seq ?_
  refine WE.reg ?_
  refine LE.p (v := (Value.int .i64 p2)) (Wn.no rfl) rfl (R.move rfl) ?_
  refine LE.p (v := (Value.int .i64 (IntKind.i64.wrap (p2 - (1 : Int))))) (Wn.no rfl) rfl (R.sub rfl rfl) ?_
  refine LE.p (v := (Value.int .i64 (IntKind.i64.wrap (p2 - (1 : Int))))) (Wn.no rfl) rfl (R.assign rfl) ?_
  refine LE.nil ?_
  refine WE.block ?_
  obtain ⟨I6, ⟨n5, h⟩, hr7⟩ := h
  refine WE.loop (fun n e w => ∃ (x1 : Int), I6 n x1 w ∧ e 0 = (Value.pointer p0) ∧ e 1 = (Value.int .u64 p1) ∧ e 6 = (Value.int .i64 x1)) n5 ⟨_, h, rfl, rfl, rfl⟩ ?_
  clear h
  rintro n5 e4 w3 ⟨x1, h, f10, f11, f12⟩
  replace h := hr7 n5 x1 w3 h
  refine WE.seq ?_
  refine WE.seq ?_
  refine WE.reg ?_
  refine LE.p (v := (Value.int .i64 x1)) (Wn.no rfl) rfl (R.move f12) ?_
  refine LE.p (v := (Value.bool (decide ((0 : Int) ≤ x1)))) (Wn.no rfl) rfl (R.geq rfl rfl) ?_
  refine LE.nil ?_
  refine WE.condT rfl (b := (decide ((0 : Int) ≤ x1))) rfl ?_ ?_
  · intro hb13
    replace h := M.ite_t h hb13
    refine WE.skip ?_
    refine WE.seq ?_
    refine WE.block ?_
    refine WE.draw mix ?_
    obtain ⟨w14, hww14, h⟩ := M.drew_use h
    rw [← hww14]
    clear hww14
    refine DE.t 0 (v := (Value.pointer p0)) rfl (by kernel_rfl) (Wn.no rfl) rfl (R.move f10) ?_
    refine DE.t 1 (v := (Value.pointer p0)) rfl (by kernel_rfl) (Wn.no rfl) rfl (R.move f10) ?_
    obtain ⟨a15, h16, h⟩ := h
    refine DE.t 2 (v := (Value.pointer (some a15))) rfl (by kernel_rfl) (Wn.no rfl) rfl (R.nilC (congrArg Value.pointer h16)) ?_
    refine DE.t 3 (v := (Value.pointer (some a15))) rfl (by kernel_rfl) (Wn.no rfl) rfl (R.fld (off := 0) fa55_0 rfl) ?_
    refine DE.t 5 (v := (Value.int .u64 p1)) rfl (by kernel_rfl) (Wn.no rfl) rfl (R.move f11) ?_
    refine DE.t 6 (v := (Value.int .i64 x1)) rfl (by kernel_rfl) (Wn.no rfl) rfl (R.move f12) ?_
    refine DE.t 7 (v := (Value.int .i64 (IntKind.i64.wrap ((8 : Int) * x1)))) rfl (by kernel_rfl) (Wn.no rfl) rfl (R.mul rfl rfl) ?_
    obtain ⟨h17, h⟩ := h
    refine DE.t 8 (v := (Value.int .u64 (bShr .u64 p1 (IntKind.i64.wrap ((8 : Int) * x1))))) rfl (by kernel_rfl) (Wn.no rfl) rfl (R.shr rfl rfl h17) ?_
    refine DE.t 9 (v := (Value.int .u8 (IntKind.u8.wrap (bShr .u64 p1 (IntKind.i64.wrap ((8 : Int) * x1)))))) rfl (by kernel_rfl) (Wn.no rfl) rfl (R.conv in5 in52 rfl) ?_
    obtain ⟨t18, h19, h⟩ := h
    refine DE.hold 4 (fun w => w.cell? a15 = some (SV.v t18)) (v := (SV.v t18)) rfl (by kernel_rfl) (Wn.no rfl) rfl h19 (fun w hs => R.ld sc23 rfl hs) ?_
    obtain ⟨b22, hpb22, w20, hww20, h⟩ := M.new_use h
    obtain ⟨k23, h⟩ := h
    refine DE.main 10 (by kernel_rfl) ?_
    refine One.r 10 (v := (SV.v (SV.mk (some b22) 1 1))) rfl (Wn.no rfl) rfl (R.bsl (by exact (Ls.cons (R.Pr rfl) Ls.nil)) (fun w => bs23_1 (IntKind.u8.wrap (bShr .u64 p1 (IntKind.i64.wrap ((8 : Int) * x1)))) w) hpb22 hww20) (.inr ⟨fun _ => k23, trivial⟩) ?_
    obtain ⟨s24, w25, h26, h⟩ := h
    refine DE.main 11 (by kernel_rfl) ?_
    refine One.r 11 (v := (SV.v s24)) rfl (Wn.no rfl) rfl (R.app (s := t18) (r := s24) rfl rfl h26) (.inr ⟨aftT (by kernel_rfl), trivial⟩) ?_
    obtain ⟨a27, h28, h⟩ := h
    refine DE.t 12 (v := (Value.pointer (some a27))) rfl (by kernel_rfl) (Wn.no rfl) rfl (R.nilC (congrArg Value.pointer h28)) ?_
    refine DE.t 13 (v := (Value.pointer (some a27))) rfl (by kernel_rfl) (Wn.no rfl) rfl (R.fld (off := 0) fa55_0 rfl) ?_
    obtain ⟨w29, hww29, h30, h31, h⟩ := M.st_use h
    refine DE.main 14 (by kernel_rfl) ?_
    refine One.s 14 rfl (Wn.no rfl) rfl (R.st (a := a27) (v := (SV.v s24)) sz23 rfl rfl rfl rfl h30 h31 hww29) ⟨aftT (by kernel_rfl), trivial⟩ ?_
    refine DE.done (by kernel_rfl) ?_
    refine WE.reg ?_
    refine LE.p (v := (Value.int .i64 x1)) (Wn.no rfl) rfl (R.move f12) ?_
    refine LE.p (v := (Value.int .i64 (IntKind.i64.wrap (x1 - (1 : Int))))) (Wn.no rfl) rfl (R.sub rfl rfl) ?_
    refine LE.p (v := (Value.int .i64 (IntKind.i64.wrap (x1 - (1 : Int))))) (Wn.no rfl) rfl (R.assign rfl) ?_
    refine LE.nil ?_
    obtain ⟨m8, hm9, h⟩ := h
    exact ⟨m8, hm9, _, h, f10, f11, rfl⟩
  · intro hb13
    replace h := M.ite_f h hb13
    refine WE.exit ?_
    exact ⟨_,  Res.nil, rfl, h⟩
/-- The formula of (*signpost.signpostref4.Reader).number. -/
def F36 (p0 : Option Addr) (p1 : Int) (K : Int → World → Prop) (w0 : World) : Prop :=
Calls Try.prog 29 #[(Value.pointer p0), (Value.int .i64 p1)] w0 (R29 fun r1 w2 =>
M.loop2 (fun (J5 : Int → Int → World → Prop) (x3 : Int) (x4 : Int) (w6 : World) => 
M.ite (decide (x4 < (r1.len : Int))) (
M.idx r1 x4 1 fun a17 =>
M.ld (Value.int .u8) (a17.add (x4.toNat * 1)) w6 fun t21 =>
J5 (bOr .u32 (bShl .u32 x3 (8 : Int)) (IntKind.u32.wrap t21)) (IntKind.i64.wrap (x4 + (1 : Int))) w6) (
K x3 w6)) (0 : Int) (0 : Int) w2)
theorem F36_ok {w0 : World} {p0 : Option Addr} {p1 : Int} {K : Int → World → Prop} (h : F36 p0 p1 K w0) : Calls Try.prog 36 #[(Value.pointer p0), (Value.int .i64 p1)] w0 (R36 K) := by
  refine calls_of_WE (args := [(Value.pointer p0), (Value.int .i64 p1)]) (rs := [.tmp 4]) Try.func36 rfl (N := 26) rfl rfl rfl rfl ?_
  refine WE.seq ?_
  refine WE.reg ?_
  refine LE.p (v := (Value.int .u32 (0 : Int))) (Wn.no rfl) rfl (R.assign rfl) ?_
  refine LE.nil ?_
  refine WE.seq ?_
  refine WE.reg ?_
  refine LE.p (v := (Value.pointer p0)) (Wn.no rfl) rfl (R.move rfl) ?_
  refine LE.p (v := (Value.int .i64 p1)) (Wn.no rfl) rfl (R.move rfl) ?_
  refine LE.c (Wn.no rfl) rfl (R.call bd29 (Ls.cons rfl (Ls.cons rfl Ls.nil)) rfl) (Calls.mono h ?_)
  rintro _ w2 ⟨r1, rfl, h⟩
  refine ⟨_, rfl, ?_⟩
  refine LE.p (v := (SV.v r1)) (Wn.no rfl) rfl (R.assign rfl) ?_
  refine LE.nil ?_
  refine WE.seq ?_
  refine WE.reg ?_
  refine LE.p (v := (Value.int .u32 (0 : Int))) (Wn.no rfl) rfl (R.assign rfl) ?_
  refine LE.nil ?_
  refine WE.seq ?_
  refine WE.seq ?_
  refine WE.reg ?_
  refine LE.p (v := (Value.int .i64 (0 : Int))) (Wn.no rfl) rfl (R.assign rfl) ?_
  refine LE.nil ?_
  refine WE.block ?_
  obtain ⟨I9, ⟨n8, h⟩, hr10⟩ := h
  refine WE.loop (fun n e w => ∃ (x3 : Int) (x4 : Int), I9 n x3 x4 w ∧ e 5 = (SV.v r1) ∧ e 6 = (Value.int .u32 x3) ∧ e 7 = (Value.int .i64 x4)) n8 ⟨_, _, h, rfl, rfl, rfl⟩ ?_
  clear h
  rintro n8 e7 w6 ⟨x3, x4, h, f13, f14, f15⟩
  replace h := hr10 n8 x3 x4 w6 h
  refine WE.seq ?_
  refine WE.seq ?_
  refine WE.reg ?_
  refine LE.p (v := (Value.int .i64 x4)) (Wn.no rfl) rfl (R.move f15) ?_
  refine LE.p (v := (SV.v r1)) (Wn.no rfl) rfl (R.move f13) ?_
  refine LE.p (v := (Value.int .i64 (r1.len : Int))) (Wn.no rfl) rfl (R.len sl23 rfl) ?_
  refine LE.p (v := (Value.bool (decide (x4 < (r1.len : Int))))) (Wn.no rfl) rfl (R.lss rfl rfl) ?_
  refine LE.nil ?_
  refine WE.condT rfl (b := (decide (x4 < (r1.len : Int)))) rfl ?_ ?_
  · intro hb16
    replace h := M.ite_t h hb16
    refine WE.skip ?_
    refine WE.seq ?_
    refine WE.block ?_
    refine WE.reg ?_
    refine LE.p (v := (Value.int .u32 x3)) (Wn.no rfl) rfl (R.move f14) ?_
    refine LE.p (v := (Value.int .u32 (bShl .u32 x3 (8 : Int)))) (Wn.no rfl) rfl (R.shl rfl rfl (by decide)) ?_
    refine LE.p (v := (SV.v r1)) (Wn.no rfl) rfl (R.move f13) ?_
    refine LE.p (v := (Value.int .i64 x4)) (Wn.no rfl) rfl (R.move f15) ?_
    obtain ⟨a17, h18, h19, h20, h⟩ := h
    refine LE.p (v := (Value.pointer (some (a17.add (x4.toNat * 1))))) (Wn.no rfl) rfl (R.idx (s := r1) sl23 rfl rfl h18 h19 h20) ?_
    obtain ⟨t21, h22, h⟩ := h
    refine LE.r (v := (Value.int .u8 t21)) (Wn.no rfl) rfl (R.ld sc5 rfl h22) ?_
    refine LE.p (v := (Value.int .u32 (IntKind.u32.wrap t21))) (Wn.no rfl) rfl (R.conv in37 in5 rfl) ?_
    refine LE.p (v := (Value.int .u32 (bOr .u32 (bShl .u32 x3 (8 : Int)) (IntKind.u32.wrap t21)))) (Wn.no rfl) rfl (R.or rfl rfl) ?_
    refine LE.p (v := (Value.int .u32 (bOr .u32 (bShl .u32 x3 (8 : Int)) (IntKind.u32.wrap t21)))) (Wn.no rfl) rfl (R.assign rfl) ?_
    refine LE.nil ?_
    refine WE.reg ?_
    refine LE.p (v := (Value.int .i64 x4)) (Wn.no rfl) rfl (R.move f15) ?_
    refine LE.p (v := (Value.int .i64 (IntKind.i64.wrap (x4 + (1 : Int))))) (Wn.no rfl) rfl (R.add rfl rfl) ?_
    refine LE.p (v := (Value.int .i64 (IntKind.i64.wrap (x4 + (1 : Int))))) (Wn.no rfl) rfl (R.assign rfl) ?_
    refine LE.nil ?_
    obtain ⟨m11, hm12, h⟩ := h
    exact ⟨m11, hm12, _, _, h, f13, rfl, rfl⟩
  · intro hb16
    replace h := M.ite_f h hb16
    refine WE.exit ?_
    refine WE.seq ?_
    refine WE.reg ?_
    refine LE.p (v := (Value.int .u32 x3)) (Wn.no rfl) rfl (R.move f14) ?_
    refine LE.p (v := (Value.int .u32 x3)) (Wn.no rfl) rfl (R.assign rfl) ?_
    refine LE.nil ?_
    refine WE.ret ?_
    exact ⟨_, (Res.tmp rfl Res.nil), _, rfl, h⟩
end Go.Proofs.Ytobnlhfkggeahaa
