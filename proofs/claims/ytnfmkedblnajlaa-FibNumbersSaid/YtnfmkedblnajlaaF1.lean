/-
  Printed by gen.py: the formula of each function, and that it holds of the function.
-/
import Derived.Test.YtnfmkedblnajlaaTy
namespace Go.Proofs.Ytnfmkedblnajlaa
set_option linter.unusedVariables false
set_option linter.unusedSimpArgs false
open Go.Sp
set_option linter.unusedVariables false
/-- The formula of signpost.signpostlaw25.FibMatch. -/
def F3 (p0 : SV) (p1 : Int) (K : Bool → World → Prop) (w0 : World) : Prop :=
Calls Try.prog 7 #[(Value.int .i64 (100 : Int))] w0 (R7 fun r1 r2 w3 =>
M.join (fun (x5 : Bool) (w8 : World) => 
M.ite x5 (
K false w8) (
M.loop1 (fun (J15 : Int → World → Prop) (x14 : Int) (w16 : World) => 
M.join (fun (x28 : Bool) (w31 : World) => 
M.ite x28 (
M.idx p0 x14 6 fun a38 =>
∃ (t42 : Int) (t43 : Int) (t44 : Int) (t45 : Int) (t46 : SV) (t47 : Bool), Cs w31 (a38.add (x14.toNat * 6)) 0 [(Value.int .i64 t42), (Value.int .i64 t43), (Value.int .i64 t44), (Value.int .u32 t45), (SV.v t46), (Value.bool t47)] ∧
M.new (.cells #[(Value.int .i64 (0 : Int)), (Value.int .i64 (0 : Int)), (Value.int .i64 (0 : Int)), (Value.int .u32 (0 : Int)), (SV.v SV.nil), (Value.bool false)] 30) w31 fun b50 w49 =>
M.stA b50 [(Value.int .i64 t42), (Value.int .i64 t43), (Value.int .i64 t44), (Value.int .u32 t45), (SV.v t46), (Value.bool t47)] w49 fun w51 =>
M.st (b50.add 5) (Value.bool true) w51 fun w53 =>
∃ (t56 : Int) (t57 : Int) (t58 : Int) (t59 : Int) (t60 : SV) (t61 : Bool), Cs w53 b50 0 [(Value.int .i64 t56), (Value.int .i64 t57), (Value.int .i64 t58), (Value.int .u32 t59), (SV.v t60), (Value.bool t61)] ∧
Calls Try.prog 9 #[(Value.agg #[(Value.int .i64 t56), (Value.int .i64 t57), (Value.int .i64 t58), (Value.int .u32 t59), (SV.v t60), (Value.bool t61)])] w53 (R9 fun r63 r64 r65 w66 =>
Calls Try.prog 8 #[(Value.pointer r1), (Value.agg #[(Value.int .u32 r63), (Value.int .i64 r64), (SV.v r65)])] w66 (R8 fun r67 w68 =>
M.ite (r67 != (0 : Int)) (
K false w68) (
J15 (IntKind.i64.wrap (x14 + (1 : Int))) w68)))) (
Calls Try.prog 10 #[(Value.pointer r1), (Value.int .u32 (bOr .u32 (167772160 : Int) (Int.tmod p1 (33554432 : Int))))] w31 (R10 fun r70 r71 w72 =>
M.loop1 (fun (J74 : Int → World → Prop) (x73 : Int) (w75 : World) => 
M.ite (decide ((0 : Int) ≤ x73)) (
Calls Try.prog 12 #[(Value.int .u32 (bOr .u32 (167772160 : Int) (Int.tmod p1 (33554432 : Int)))), (Value.int .i64 x73)] w75 (R12 fun r88 r89 w90 =>
Calls Try.prog 11 #[(Value.pointer r1), (Value.agg #[(Value.int .u32 r88), (Value.int .i64 r89)])] w90 (R11 fun r91 r92 w93 =>
M.ite r92 (
M.join (fun (x96 : Bool) (w104 : World) => 
K x96 w104) fun J95 => 
M.ite r71 (
Calls Try.prog 13 #[(SV.v r91), (SV.v r70)] w93 (R13 fun r98 w99 =>
M.ite r98 (
Calls Try.prog 14 #[] w99 (R14 fun r101 w102 =>
J95 r101 w102)) (
J95 false w99))) (
J95 false w93)) (
J74 (IntKind.i64.wrap (x73 - (1 : Int))) w93)))) (
M.join (fun (x107 : Bool) (w113 : World) => 
K x107 w113) fun J106 => 
M.ite (!r71) (
M.ite ((r70.len : Int) == (0 : Int)) (
Calls Try.prog 14 #[] w75 (R14 fun r110 w111 =>
J106 r110 w111)) (
J106 false w75)) (
J106 false w75))) (32 : Int) w72))) fun J27 => 
M.ite (decide (x14 < (p0.len : Int))) (
J27 (decide (x14 < (40 : Int))) w16) (
J27 false w16)) (0 : Int) w8)) fun J4 => 
M.ite (Option.isNone r1) (
J4 true w3) (
J4 (r2 != (0 : Int)) w3))
theorem F3_ok {w0 : World} {p0 : SV} {p1 : Int} {K : Bool → World → Prop} (h : F3 p0 p1 K w0) : Calls Try.prog 3 #[(SV.v p0), (Value.int .u32 p1)] w0 (R3 K) := by
  refine calls_of_WE (args := [(SV.v p0), (Value.int .u32 p1)]) (rs := [.tmp 4]) Try.func3 rfl (N := 85) rfl rfl rfl rfl ?_
  refine WE.seq ?_
  refine WE.reg ?_
  refine LE.p (v := (Value.bool false)) (Wn.no rfl) rfl (R.assign rfl) ?_
  refine LE.nil ?_
  refine WE.seq ?_
  refine WE.reg ?_
  refine LE.c (Wn.no rfl) rfl (R.call bd7 (Ls.cons rfl Ls.nil) rfl) (Calls.mono h ?_)
  rintro _ w3 ⟨r1, r2, rfl, h⟩
  refine ⟨_, rfl, ?_⟩
  refine LE.p (v := (Value.tuple #[(Value.pointer r1), (Value.int .i64 r2)])) (Wn.no rfl) rfl (R.move rfl) ?_
  refine LE.p (v := (Value.pointer r1)) (Wn.no rfl) rfl (R.ext rfl rfl) ?_
  refine LE.p (v := (Value.int .i64 r2)) (Wn.no rfl) rfl (R.ext rfl rfl) ?_
  refine LE.p (v := (Value.pointer r1)) (Wn.no rfl) rfl (R.assign rfl) ?_
  refine LE.p (v := (Value.int .i64 r2)) (Wn.no rfl) rfl (R.assign rfl) ?_
  refine LE.nil ?_
  refine WE.seq ?_
  refine WE.seq ?_
  obtain ⟨J4, hJ4, h⟩ := M.join_use h
  refine WE.regJ (fun e w => ∃ (x5 : Bool), J4 x5 w ∧ e 0 = (SV.v p0) ∧ e 1 = (Value.int .u32 p1) ∧ e 5 = (Value.pointer r1) ∧ e 23 = (Value.bool x5)) ?_ ?_
  · clear hJ4
    refine LE.p (v := (Value.pointer r1)) (Wn.no rfl) rfl (R.move rfl) ?_
    refine LE.p (v := (Value.bool (Option.isNone r1))) (Wn.no rfl) rfl (R.peqNil pt24 rfl rfl) ?_
    refine LE.p (v := (Value.bool (Option.isNone r1))) (Wn.no rfl) rfl (R.move rfl) ?_
    rcases M.ite_use h with ⟨hb6, h⟩ | ⟨hb6, h⟩
    · refine LE.u (Un.no 2 20 false rfl rfl rfl (congrArg Value.bool hb6)) ?_
      refine LE.u (Un.no 2 20 false rfl rfl rfl (congrArg Value.bool hb6)) ?_
      refine LE.p (v := (Value.bool true)) (Wn.no rfl) rfl (R.pickT (congrArg Value.bool hb6) rfl) ?_
      refine LE.nil ?_
      exact ⟨_, h, rfl, rfl, rfl, rfl⟩
    · refine LE.p (v := (Value.int .i64 r2)) (Wn.yes 2 20 false rfl rfl rfl (congrArg Value.bool hb6)) rfl (R.move rfl) ?_
      refine LE.p (v := (Value.bool (r2 != (0 : Int)))) (Wn.yes 2 20 false rfl rfl rfl (congrArg Value.bool hb6)) rfl (R.neq rfl rfl) ?_
      refine LE.p (v := (Value.bool (r2 != (0 : Int)))) (Wn.no rfl) rfl (R.pickF (congrArg Value.bool hb6) rfl) ?_
      refine LE.nil ?_
      exact ⟨_, h, rfl, rfl, rfl, rfl⟩
  · rintro e7 w8 ⟨x5, h, f9, f10, f11, f12⟩
    subst hJ4
    refine WE.condT rfl (b := x5) f12 ?_ ?_
    · intro hb13
      replace h := M.ite_t h hb13
      refine WE.seq ?_
      refine WE.reg ?_
      refine LE.p (v := (Value.bool false)) (Wn.no rfl) rfl (R.assign rfl) ?_
      refine LE.nil ?_
      refine WE.ret ?_
      exact ⟨_, (Res.tmp rfl Res.nil), _, rfl, h⟩
    · intro hb13
      replace h := M.ite_f h hb13
      refine WE.skip ?_
      refine WE.seq ?_
      refine WE.seq ?_
      refine WE.reg ?_
      refine LE.p (v := (Value.int .i64 (0 : Int))) (Wn.no rfl) rfl (R.assign rfl) ?_
      refine LE.nil ?_
      refine WE.block ?_
      obtain ⟨I19, ⟨n18, h⟩, hr20⟩ := h
      refine WE.loop (fun n e w => ∃ (x14 : Int), I19 n x14 w ∧ e 0 = (SV.v p0) ∧ e 1 = (Value.int .u32 p1) ∧ e 5 = (Value.pointer r1) ∧ e 7 = (Value.int .i64 x14)) n18 ⟨_, h, f9, f10, f11, rfl⟩ ?_
      clear h
      rintro n18 e17 w16 ⟨x14, h, f23, f24, f25, f26⟩
      replace h := hr20 n18 x14 w16 h
      refine WE.seq ?_
      refine WE.seq ?_
      obtain ⟨J27, hJ27, h⟩ := M.join_use h
      refine WE.regJ (fun e w => ∃ (x28 : Bool), J27 x28 w ∧ e 0 = (SV.v p0) ∧ e 1 = (Value.int .u32 p1) ∧ e 5 = (Value.pointer r1) ∧ e 7 = (Value.int .i64 x14) ∧ e 31 = (Value.bool x28)) ?_ ?_
      · clear hJ27
        refine LE.p (v := (Value.int .i64 x14)) (Wn.no rfl) rfl (R.move f26) ?_
        refine LE.p (v := (SV.v p0)) (Wn.no rfl) rfl (R.move f23) ?_
        refine LE.p (v := (Value.int .i64 (p0.len : Int))) (Wn.no rfl) rfl (R.len sl22 rfl) ?_
        refine LE.p (v := (Value.bool (decide (x14 < (p0.len : Int))))) (Wn.no rfl) rfl (R.lss rfl rfl) ?_
        refine LE.p (v := (Value.bool (decide (x14 < (p0.len : Int))))) (Wn.no rfl) rfl (R.move rfl) ?_
        rcases M.ite_use h with ⟨hb29, h⟩ | ⟨hb29, h⟩
        · refine LE.p (v := (Value.int .i64 x14)) (Wn.yes 4 28 true rfl rfl rfl (congrArg Value.bool hb29)) rfl (R.move f26) ?_
          refine LE.p (v := (Value.bool (decide (x14 < (40 : Int))))) (Wn.yes 4 28 true rfl rfl rfl (congrArg Value.bool hb29)) rfl (R.lss rfl rfl) ?_
          refine LE.p (v := (Value.bool (decide (x14 < (40 : Int))))) (Wn.no rfl) rfl (R.pickT (congrArg Value.bool hb29) rfl) ?_
          refine LE.nil ?_
          exact ⟨_, h, f23, f24, f25, f26, rfl⟩
        · refine LE.u (Un.no 4 28 true rfl rfl rfl (congrArg Value.bool hb29)) ?_
          refine LE.u (Un.no 4 28 true rfl rfl rfl (congrArg Value.bool hb29)) ?_
          refine LE.p (v := (Value.bool false)) (Wn.no rfl) rfl (R.pickF (congrArg Value.bool hb29) rfl) ?_
          refine LE.nil ?_
          exact ⟨_, h, f23, f24, f25, f26, rfl⟩
      · rintro e30 w31 ⟨x28, h, f32, f33, f34, f35, f36⟩
        subst hJ27
        refine WE.condT rfl (b := x28) f36 ?_ ?_
        · intro hb37
          replace h := M.ite_t h hb37
          refine WE.skip ?_
          refine WE.seq ?_
          refine WE.block ?_
          refine WE.seq ?_
          refine WE.reg ?_
          refine LE.p (v := (SV.v p0)) (Wn.no rfl) rfl (R.move f32) ?_
          refine LE.p (v := (Value.int .i64 x14)) (Wn.no rfl) rfl (R.move f35) ?_
          obtain ⟨a38, h39, h40, h41, h⟩ := h
          refine LE.p (v := (Value.pointer (some (a38.add (x14.toNat * 6))))) (Wn.no rfl) rfl (R.idx (s := p0) sl22 rfl rfl h39 h40 h41) ?_
          obtain ⟨t42, t43, t44, t45, t46, t47, h48, h⟩ := h
          refine LE.r (v := (Value.agg #[(Value.int .i64 t42), (Value.int .i64 t43), (Value.int .i64 t44), (Value.int .u32 t45), (SV.v t46), (Value.bool t47)])) (Wn.no rfl) rfl (R.ldA ag30 sz30 rfl rfl h48) ?_
          obtain ⟨b50, hpb50, w49, hww49, h⟩ := M.new_use h
          refine LE.r (v := (Value.pointer (some b50))) (Wn.no rfl) rfl (R.alloc (cs := #[(Value.int .i64 (0 : Int)), (Value.int .i64 (0 : Int)), (Value.int .i64 (0 : Int)), (Value.int .u32 (0 : Int)), (SV.v SV.nil), (Value.bool false)]) ze30 rfl hpb50 hww49) ?_
          obtain ⟨w51, hww51, h52, h⟩ := M.stA_use h
          refine LE.s (Wn.no rfl) rfl (R.stA (a := b50) [(Value.int .i64 t42), (Value.int .i64 t43), (Value.int .i64 t44), (Value.int .u32 t45), (SV.v t46), (Value.bool t47)] sz30 rfl rfl rfl (by simp [Value.oneCell']) h52 hww51) ?_
          refine LE.nil ?_
          refine WE.seq ?_
          refine WE.reg ?_
          refine LE.p (v := (Value.pointer (some (b50.add 5)))) (Wn.no rfl) rfl (R.fld (off := 5) fa30_5 rfl) ?_
          obtain ⟨w53, hww53, h54, h55, h⟩ := M.st_use h
          refine LE.s (Wn.no rfl) rfl (R.st (a := (b50.add 5)) (v := (Value.bool true)) sz4 rfl rfl rfl rfl h54 h55 hww53) ?_
          refine LE.nil ?_
          refine WE.seq ?_
          refine WE.reg ?_
          refine LE.p (v := (Value.pointer r1)) (Wn.no rfl) rfl (R.move f34) ?_
          obtain ⟨t56, t57, t58, t59, t60, t61, h62, h⟩ := h
          refine LE.r (v := (Value.agg #[(Value.int .i64 t56), (Value.int .i64 t57), (Value.int .i64 t58), (Value.int .u32 t59), (SV.v t60), (Value.bool t61)])) (Wn.no rfl) rfl (R.ldA ag30 sz30 rfl rfl h62) ?_
          refine LE.c (Wn.no rfl) rfl (R.call bd9 (Ls.cons rfl Ls.nil) rfl) (Calls.mono h ?_)
          rintro _ w66 ⟨r63, r64, r65, rfl, h⟩
          refine ⟨_, rfl, ?_⟩
          refine LE.c (Wn.no rfl) rfl (R.call bd8 (Ls.cons rfl (Ls.cons rfl Ls.nil)) rfl) (Calls.mono h ?_)
          rintro _ w68 ⟨r67, rfl, h⟩
          refine ⟨_, rfl, ?_⟩
          refine LE.p (v := (Value.bool (r67 != (0 : Int)))) (Wn.no rfl) rfl (R.neq rfl rfl) ?_
          refine LE.nil ?_
          refine WE.condT rfl (b := (r67 != (0 : Int))) rfl ?_ ?_
          · intro hb69
            replace h := M.ite_t h hb69
            refine WE.seq ?_
            refine WE.reg ?_
            refine LE.p (v := (Value.bool false)) (Wn.no rfl) rfl (R.assign rfl) ?_
            refine LE.nil ?_
            refine WE.ret ?_
            exact ⟨_, (Res.tmp rfl Res.nil), _, rfl, h⟩
          · intro hb69
            replace h := M.ite_f h hb69
            refine WE.skip ?_
            refine WE.reg ?_
            refine LE.p (v := (Value.int .i64 x14)) (Wn.no rfl) rfl (R.move f35) ?_
            refine LE.p (v := (Value.int .i64 (IntKind.i64.wrap (x14 + (1 : Int))))) (Wn.no rfl) rfl (R.add rfl rfl) ?_
            refine LE.p (v := (Value.int .i64 (IntKind.i64.wrap (x14 + (1 : Int))))) (Wn.no rfl) rfl (R.assign rfl) ?_
            refine LE.nil ?_
            obtain ⟨m21, hm22, h⟩ := h
            exact ⟨m21, hm22, _, h, f32, f33, f34, rfl⟩
        · intro hb37
          replace h := M.ite_f h hb37
          refine WE.exit ?_
          refine WE.seq ?_
          refine WE.reg ?_
          refine LE.p (v := (Value.int .u32 p1)) (Wn.no rfl) rfl (R.move f33) ?_
          refine LE.p (v := (Value.int .u32 (Int.tmod p1 (33554432 : Int)))) (Wn.no rfl) rfl (R.rem rfl rfl (by decide)) ?_
          refine LE.p (v := (Value.int .u32 (bOr .u32 (167772160 : Int) (Int.tmod p1 (33554432 : Int))))) (Wn.no rfl) rfl (R.or rfl rfl) ?_
          refine LE.p (v := (Value.int .u32 (bOr .u32 (167772160 : Int) (Int.tmod p1 (33554432 : Int))))) (Wn.no rfl) rfl (R.assign rfl) ?_
          refine LE.nil ?_
          refine WE.seq ?_
          refine WE.reg ?_
          refine LE.p (v := (Value.pointer r1)) (Wn.no rfl) rfl (R.move f34) ?_
          refine LE.p (v := (Value.int .u32 (bOr .u32 (167772160 : Int) (Int.tmod p1 (33554432 : Int))))) (Wn.no rfl) rfl (R.move rfl) ?_
          refine LE.c (Wn.no rfl) rfl (R.call bd10 (Ls.cons rfl (Ls.cons rfl Ls.nil)) rfl) (Calls.mono h ?_)
          rintro _ w72 ⟨r70, r71, rfl, h⟩
          refine ⟨_, rfl, ?_⟩
          refine LE.p (v := (Value.tuple #[(SV.v r70), (Value.bool r71)])) (Wn.no rfl) rfl (R.move rfl) ?_
          refine LE.p (v := (SV.v r70)) (Wn.no rfl) rfl (R.ext rfl rfl) ?_
          refine LE.p (v := (Value.bool r71)) (Wn.no rfl) rfl (R.ext rfl rfl) ?_
          refine LE.p (v := (SV.v r70)) (Wn.no rfl) rfl (R.assign rfl) ?_
          refine LE.p (v := (Value.bool r71)) (Wn.no rfl) rfl (R.assign rfl) ?_
          refine LE.nil ?_
          refine WE.seq ?_
          refine WE.seq ?_
          refine WE.reg ?_
          refine LE.p (v := (Value.int .i64 (32 : Int))) (Wn.no rfl) rfl (R.assign rfl) ?_
          refine LE.nil ?_
          refine WE.block ?_
          obtain ⟨I78, ⟨n77, h⟩, hr79⟩ := h
          refine WE.loop (fun n e w => ∃ (x73 : Int), I78 n x73 w ∧ e 1 = (Value.int .u32 (bOr .u32 (167772160 : Int) (Int.tmod p1 (33554432 : Int)))) ∧ e 5 = (Value.pointer r1) ∧ e 9 = (SV.v r70) ∧ e 10 = (Value.bool r71) ∧ e 11 = (Value.int .i64 x73)) n77 ⟨_, h, rfl, f34, rfl, rfl, rfl⟩ ?_
          clear h
          rintro n77 e76 w75 ⟨x73, h, f82, f83, f84, f85, f86⟩
          replace h := hr79 n77 x73 w75 h
          refine WE.seq ?_
          refine WE.seq ?_
          refine WE.reg ?_
          refine LE.p (v := (Value.int .i64 x73)) (Wn.no rfl) rfl (R.move f86) ?_
          refine LE.p (v := (Value.bool (decide ((0 : Int) ≤ x73)))) (Wn.no rfl) rfl (R.geq rfl rfl) ?_
          refine LE.nil ?_
          refine WE.condT rfl (b := (decide ((0 : Int) ≤ x73))) rfl ?_ ?_
          · intro hb87
            replace h := M.ite_t h hb87
            refine WE.skip ?_
            refine WE.seq ?_
            refine WE.block ?_
            refine WE.seq ?_
            refine WE.reg ?_
            refine LE.p (v := (Value.pointer r1)) (Wn.no rfl) rfl (R.move f83) ?_
            refine LE.p (v := (Value.int .u32 (bOr .u32 (167772160 : Int) (Int.tmod p1 (33554432 : Int))))) (Wn.no rfl) rfl (R.move f82) ?_
            refine LE.p (v := (Value.int .i64 x73)) (Wn.no rfl) rfl (R.move f86) ?_
            refine LE.c (Wn.no rfl) rfl (R.call bd12 (Ls.cons rfl (Ls.cons rfl Ls.nil)) rfl) (Calls.mono h ?_)
            rintro _ w90 ⟨r88, r89, rfl, h⟩
            refine ⟨_, rfl, ?_⟩
            refine LE.c (Wn.no rfl) rfl (R.call bd11 (Ls.cons rfl (Ls.cons rfl Ls.nil)) rfl) (Calls.mono h ?_)
            rintro _ w93 ⟨r91, r92, rfl, h⟩
            refine ⟨_, rfl, ?_⟩
            refine LE.p (v := (Value.tuple #[(SV.v r91), (Value.bool r92)])) (Wn.no rfl) rfl (R.move rfl) ?_
            refine LE.p (v := (SV.v r91)) (Wn.no rfl) rfl (R.ext rfl rfl) ?_
            refine LE.p (v := (Value.bool r92)) (Wn.no rfl) rfl (R.ext rfl rfl) ?_
            refine LE.p (v := (SV.v r91)) (Wn.no rfl) rfl (R.assign rfl) ?_
            refine LE.p (v := (Value.bool r92)) (Wn.no rfl) rfl (R.assign rfl) ?_
            refine LE.nil ?_
            refine WE.seq ?_
            refine WE.reg ?_
            refine LE.p (v := (Value.bool r92)) (Wn.no rfl) rfl (R.move rfl) ?_
            refine LE.nil ?_
            refine WE.condT rfl (b := r92) rfl ?_ ?_
            · intro hb94
              replace h := M.ite_t h hb94
              refine WE.seq ?_
              obtain ⟨J95, hJ95, h⟩ := M.join_use h
              refine WE.regJ (fun e w => ∃ (x96 : Bool), J95 x96 w ∧ e 4 = (Value.bool x96)) ?_ ?_
              · clear hJ95
                refine LE.p (v := (Value.bool r71)) (Wn.no rfl) rfl (R.move f85) ?_
                refine LE.p (v := (Value.bool r71)) (Wn.no rfl) rfl (R.move rfl) ?_
                rcases M.ite_use h with ⟨hb97, h⟩ | ⟨hb97, h⟩
                · refine LE.p (v := (SV.v r91)) (Wn.yes 1 67 true rfl rfl rfl (congrArg Value.bool hb97)) rfl (R.move rfl) ?_
                  refine LE.p (v := (SV.v r70)) (Wn.yes 1 67 true rfl rfl rfl (congrArg Value.bool hb97)) rfl (R.move f84) ?_
                  refine LE.c (Wn.yes 1 67 true rfl rfl rfl (congrArg Value.bool hb97)) rfl (R.call bd13 (Ls.cons rfl (Ls.cons rfl Ls.nil)) rfl) (Calls.mono h ?_)
                  rintro _ w99 ⟨r98, rfl, h⟩
                  refine ⟨_, rfl, ?_⟩
                  refine LE.p (v := (Value.bool r98)) (Wn.no rfl) rfl (R.pickT (congrArg Value.bool hb97) rfl) ?_
                  refine LE.p (v := (Value.bool r98)) (Wn.no rfl) rfl (R.move rfl) ?_
                  rcases M.ite_use h with ⟨hb100, h⟩ | ⟨hb100, h⟩
                  · refine LE.c (Wn.yes 6 72 true rfl rfl rfl (congrArg Value.bool hb100)) rfl (R.call bd14 Ls.nil rfl) (Calls.mono h ?_)
                    rintro _ w102 ⟨r101, rfl, h⟩
                    refine ⟨_, rfl, ?_⟩
                    refine LE.p (v := (Value.bool r101)) (Wn.no rfl) rfl (R.pickT (congrArg Value.bool hb100) rfl) ?_
                    refine LE.p (v := (Value.bool r101)) (Wn.no rfl) rfl (R.assign rfl) ?_
                    refine LE.nil ?_
                    exact ⟨_, h, rfl⟩
                  · refine LE.u (Un.no 6 72 true rfl rfl rfl (congrArg Value.bool hb100)) ?_
                    refine LE.p (v := (Value.bool false)) (Wn.no rfl) rfl (R.pickF (congrArg Value.bool hb100) rfl) ?_
                    refine LE.p (v := (Value.bool false)) (Wn.no rfl) rfl (R.assign rfl) ?_
                    refine LE.nil ?_
                    exact ⟨_, h, rfl⟩
                · refine LE.u (Un.no 1 67 true rfl rfl rfl (congrArg Value.bool hb97)) ?_
                  refine LE.u (Un.no 1 67 true rfl rfl rfl (congrArg Value.bool hb97)) ?_
                  refine LE.u (Un.no 1 67 true rfl rfl rfl (congrArg Value.bool hb97)) ?_
                  refine LE.p (v := (Value.bool false)) (Wn.no rfl) rfl (R.pickF (congrArg Value.bool hb97) rfl) ?_
                  refine LE.p (v := (Value.bool false)) (Wn.no rfl) rfl (R.move rfl) ?_
                  refine LE.u (Un.no 6 72 true rfl rfl rfl rfl) ?_
                  refine LE.p (v := (Value.bool false)) (Wn.no rfl) rfl (R.pickF rfl rfl) ?_
                  refine LE.p (v := (Value.bool false)) (Wn.no rfl) rfl (R.assign rfl) ?_
                  refine LE.nil ?_
                  exact ⟨_, h, rfl⟩
              · rintro e103 w104 ⟨x96, h, f105⟩
                subst hJ95
                refine WE.ret ?_
                exact ⟨_, (Res.tmp f105 Res.nil), _, rfl, h⟩
            · intro hb94
              replace h := M.ite_f h hb94
              refine WE.skip ?_
              refine WE.reg ?_
              refine LE.p (v := (Value.int .i64 x73)) (Wn.no rfl) rfl (R.move f86) ?_
              refine LE.p (v := (Value.int .i64 (IntKind.i64.wrap (x73 - (1 : Int))))) (Wn.no rfl) rfl (R.sub rfl rfl) ?_
              refine LE.p (v := (Value.int .i64 (IntKind.i64.wrap (x73 - (1 : Int))))) (Wn.no rfl) rfl (R.assign rfl) ?_
              refine LE.nil ?_
              obtain ⟨m80, hm81, h⟩ := h
              exact ⟨m80, hm81, _, h, f82, f83, f84, f85, rfl⟩
          · intro hb87
            replace h := M.ite_f h hb87
            refine WE.exit ?_
            refine WE.seq ?_
            obtain ⟨J106, hJ106, h⟩ := M.join_use h
            refine WE.regJ (fun e w => ∃ (x107 : Bool), J106 x107 w ∧ e 4 = (Value.bool x107)) ?_ ?_
            · clear hJ106
              refine LE.p (v := (Value.bool r71)) (Wn.no rfl) rfl (R.move f85) ?_
              refine LE.p (v := (Value.bool (!r71))) (Wn.no rfl) rfl (R.not rfl) ?_
              refine LE.p (v := (Value.bool (!r71))) (Wn.no rfl) rfl (R.move rfl) ?_
              rcases M.ite_use h with ⟨hb108, h⟩ | ⟨hb108, h⟩
              · refine LE.p (v := (SV.v r70)) (Wn.yes 2 77 true rfl rfl rfl (congrArg Value.bool hb108)) rfl (R.move f84) ?_
                refine LE.p (v := (Value.int .i64 (r70.len : Int))) (Wn.yes 2 77 true rfl rfl rfl (congrArg Value.bool hb108)) rfl (R.len sl28 rfl) ?_
                refine LE.p (v := (Value.bool ((r70.len : Int) == (0 : Int)))) (Wn.yes 2 77 true rfl rfl rfl (congrArg Value.bool hb108)) rfl (R.eql rfl rfl) ?_
                refine LE.p (v := (Value.bool ((r70.len : Int) == (0 : Int)))) (Wn.no rfl) rfl (R.pickT (congrArg Value.bool hb108) rfl) ?_
                refine LE.p (v := (Value.bool ((r70.len : Int) == (0 : Int)))) (Wn.no rfl) rfl (R.move rfl) ?_
                rcases M.ite_use h with ⟨hb109, h⟩ | ⟨hb109, h⟩
                · refine LE.c (Wn.yes 7 82 true rfl rfl rfl (congrArg Value.bool hb109)) rfl (R.call bd14 Ls.nil rfl) (Calls.mono h ?_)
                  rintro _ w111 ⟨r110, rfl, h⟩
                  refine ⟨_, rfl, ?_⟩
                  refine LE.p (v := (Value.bool r110)) (Wn.no rfl) rfl (R.pickT (congrArg Value.bool hb109) rfl) ?_
                  refine LE.p (v := (Value.bool r110)) (Wn.no rfl) rfl (R.assign rfl) ?_
                  refine LE.nil ?_
                  exact ⟨_, h, rfl⟩
                · refine LE.u (Un.no 7 82 true rfl rfl rfl (congrArg Value.bool hb109)) ?_
                  refine LE.p (v := (Value.bool false)) (Wn.no rfl) rfl (R.pickF (congrArg Value.bool hb109) rfl) ?_
                  refine LE.p (v := (Value.bool false)) (Wn.no rfl) rfl (R.assign rfl) ?_
                  refine LE.nil ?_
                  exact ⟨_, h, rfl⟩
              · refine LE.u (Un.no 2 77 true rfl rfl rfl (congrArg Value.bool hb108)) ?_
                refine LE.u (Un.no 2 77 true rfl rfl rfl (congrArg Value.bool hb108)) ?_
                refine LE.u (Un.no 2 77 true rfl rfl rfl (congrArg Value.bool hb108)) ?_
                refine LE.p (v := (Value.bool false)) (Wn.no rfl) rfl (R.pickF (congrArg Value.bool hb108) rfl) ?_
                refine LE.p (v := (Value.bool false)) (Wn.no rfl) rfl (R.move rfl) ?_
                refine LE.u (Un.no 7 82 true rfl rfl rfl rfl) ?_
                refine LE.p (v := (Value.bool false)) (Wn.no rfl) rfl (R.pickF rfl rfl) ?_
                refine LE.p (v := (Value.bool false)) (Wn.no rfl) rfl (R.assign rfl) ?_
                refine LE.nil ?_
                exact ⟨_, h, rfl⟩
            · rintro e112 w113 ⟨x107, h, f114⟩
              subst hJ106
              refine WE.ret ?_
              exact ⟨_, (Res.tmp f114 Res.nil), _, rfl, h⟩
/-- The formula of signpost.signpostlaw25.FibRefused. -/
def F4 (p0 : Int) (p1 : SV) (K : Bool → World → Prop) (w0 : World) : Prop :=
Calls Try.prog 15 #[(Value.int .i64 p0), (Value.int .i64 (0 : Int)), (Value.int .i64 (10 : Int))] w0 (R15 fun r1 w2 =>
Calls Try.prog 7 #[(Value.int .i64 r1)] w2 (R7 fun r3 r4 w5 =>
M.join (fun (x7 : Bool) (w10 : World) => 
M.ite x7 (
K false w10) (
M.loop1 (fun (J17 : Int → World → Prop) (x16 : Int) (w18 : World) => 
M.join (fun (x30 : Bool) (w33 : World) => 
M.ite x30 (
M.join (fun (w224 : World) => 
J17 (IntKind.i64.wrap (x16 + (1 : Int))) w224) fun J40 => 
M.idx p1 x16 6 fun a41 =>
∃ (t45 : Int) (t46 : Int) (t47 : Int) (t48 : Int) (t49 : SV) (t50 : Bool), Cs w33 (a41.add (x16.toNat * 6)) 0 [(Value.int .i64 t45), (Value.int .i64 t46), (Value.int .i64 t47), (Value.int .u32 t48), (SV.v t49), (Value.bool t50)] ∧
M.new (.cells #[(Value.int .i64 (0 : Int)), (Value.int .i64 (0 : Int)), (Value.int .i64 (0 : Int)), (Value.int .u32 (0 : Int)), (SV.v SV.nil), (Value.bool false)] 30) w33 fun b53 w52 =>
M.stA b53 [(Value.int .i64 t45), (Value.int .i64 t46), (Value.int .i64 t47), (Value.int .u32 t48), (SV.v t49), (Value.bool t50)] w52 fun w54 =>
M.st (b53.add 5) (Value.bool true) w54 fun w56 =>
∃ (t59 : Int) (t60 : Int) (t61 : Int) (t62 : Int) (t63 : SV) (t64 : Bool), Cs w56 b53 0 [(Value.int .i64 t59), (Value.int .i64 t60), (Value.int .i64 t61), (Value.int .u32 t62), (SV.v t63), (Value.bool t64)] ∧
Calls Try.prog 9 #[(Value.agg #[(Value.int .i64 t59), (Value.int .i64 t60), (Value.int .i64 t61), (Value.int .u32 t62), (SV.v t63), (Value.bool t64)])] w56 (R9 fun r66 r67 r68 w69 =>
M.new (.cells #[(Value.int .u32 (0 : Int)), (Value.int .i64 (0 : Int)), (SV.v SV.nil)] 35) w69 fun b71 w70 =>
M.stA b71 [(Value.int .u32 r66), (Value.int .i64 r67), (SV.v r68)] w70 fun w72 =>
Calls Try.prog 16 #[(Value.pointer r3)] w72 (R16 fun r74 w75 =>
Calls Try.prog 17 #[(Value.pointer r3)] w75 (R17 fun r76 w77 =>
M.ld (Value.int .u32) b71 w77 fun t78 =>
M.ld (Value.int .i64) (b71.add 1) w77 fun t80 =>
Calls Try.prog 11 #[(Value.pointer r3), (Value.agg #[(Value.int .u32 t78), (Value.int .i64 t80)])] w77 (R11 fun r82 r83 w84 =>
∃ (t85 : Int) (t86 : Int) (t87 : SV), Cs w84 b71 0 [(Value.int .u32 t85), (Value.int .i64 t86), (SV.v t87)] ∧
Calls Try.prog 8 #[(Value.pointer r3), (Value.agg #[(Value.int .u32 t85), (Value.int .i64 t86), (SV.v t87)])] w84 (R8 fun r89 w90 =>
M.join (fun (x92 : Bool) (w105 : World) => 
M.ite x92 (
K false w105) (
M.join (fun (x119 : Bool) (w128 : World) => 
M.ite x119 (
K false w128) (
M.ld (Value.int .u32) b71 w128 fun t138 =>
M.ld (Value.int .i64) (b71.add 1) w128 fun t140 =>
Calls Try.prog 11 #[(Value.pointer r3), (Value.agg #[(Value.int .u32 t138), (Value.int .i64 t140)])] w128 (R11 fun r142 r143 w144 =>
M.join (fun (x146 : Bool) (w159 : World) => 
M.ite x146 (
K false w159) (
M.join (fun (x168 : Bool) (w173 : World) => 
M.ite x168 (
Calls Try.prog 16 #[(Value.pointer r3)] w173 (R16 fun r181 w182 =>
M.ite ((r181.len : Int) == (0 : Int)) (
K false w182) (
M.ld (Value.int .i64) (b53.add 1) w182 fun t184 =>
Calls Try.prog 15 #[(Value.int .i64 t184), (Value.int .i64 (0 : Int)), (Value.int .i64 (IntKind.i64.wrap ((r181.len : Int) - (1 : Int))))] w182 (R15 fun r186 w187 =>
M.idx r181 r186 3 fun a188 =>
M.ld (Value.int .u32) (a188.add (r186.toNat * 3)) w187 fun t192 =>
M.ld (Value.int .i64) ((a188.add (r186.toNat * 3)).add 1) w187 fun t194 =>
M.new (.cells #[(Value.int .u32 (0 : Int)), (Value.int .i64 (0 : Int))] 33) w187 fun b197 w196 =>
M.stA b197 [(Value.int .u32 t192), (Value.int .i64 t194)] w196 fun w198 =>
M.join (fun (x201 : Bool) (w216 : World) => 
M.ite x201 (
K false w216) (
J40 w216)) fun J200 => 
M.ld (Value.int .u32) b197 w198 fun t202 =>
M.ld (Value.int .i64) (b197.add 1) w198 fun t204 =>
Calls Try.prog 20 #[(Value.pointer r3), (Value.agg #[(Value.int .u32 t202), (Value.int .i64 t204)])] w198 (R20 fun r206 w207 =>
M.ite (!r206) (
J200 true w207) (
M.ld (Value.int .u32) b197 w207 fun t209 =>
M.ld (Value.int .i64) (b197.add 1) w207 fun t211 =>
Calls Try.prog 20 #[(Value.pointer r3), (Value.agg #[(Value.int .u32 t209), (Value.int .i64 t211)])] w207 (R20 fun r213 w214 =>
J200 r213 w214))))))) (
J40 w173)) fun J167 => 
M.ite ((Int.tmod x16 (5 : Int)) == (4 : Int)) (
Calls Try.prog 19 #[(Value.pointer r3)] w159 (R19 fun r170 w171 =>
J167 (decide ((0 : Int) < r170)) w171)) (
J167 false w159))) fun J145 => 
M.ite (r89 == (0 : Int)) (
M.ite (!r143) (
J145 true w144) (
M.ld SV.v (b71.add 2) w144 fun t149 =>
Calls Try.prog 13 #[(SV.v r142), (SV.v t149)] w144 (R13 fun r151 w152 =>
M.ite (!r151) (
J145 true w152) (
Calls Try.prog 19 #[(Value.pointer r3)] w152 (R19 fun r154 w155 =>
J145 (decide (r1 < r154)) w155))))) (
Calls Try.prog 19 #[(Value.pointer r3)] w144 (R19 fun r156 w157 =>
J145 (decide (r1 < r156)) w157))))) fun J118 => 
M.ite (r89 == (0 : Int)) (
M.ite (!r83) (
M.ite (decide (r1 ≤ (r74.len : Int))) (
J118 true w105) (
Calls Try.prog 17 #[(Value.pointer r3)] w105 (R17 fun r123 w124 =>
J118 (r123 != (IntKind.i64.wrap (r76 + (1 : Int)))) w124))) (
Calls Try.prog 17 #[(Value.pointer r3)] w105 (R17 fun r125 w126 =>
J118 (r125 != (IntKind.i64.wrap (r76 + (1 : Int)))) w126))) (
J118 false w105))) fun J91 => 
M.ite (r89 != (0 : Int)) (
M.ite (r89 != (13 : Int)) (
J91 true w90) (
M.ite r83 (
J91 true w90) (
M.ite (decide ((r74.len : Int) < r1)) (
J91 true w90) (
Calls Try.prog 16 #[(Value.pointer r3)] w90 (R16 fun r97 w98 =>
Calls Try.prog 18 #[(SV.v r74), (SV.v r97)] w98 (R18 fun r99 w100 =>
M.ite (!r99) (
J91 true w100) (
Calls Try.prog 17 #[(Value.pointer r3)] w100 (R17 fun r102 w103 =>
J91 (r102 != r76) w103)))))))) (
J91 false w90))))))) (
Calls Try.prog 14 #[] w33 (R14 fun r229 w230 =>
K r229 w230))) fun J29 => 
M.ite (decide (x16 < (p1.len : Int))) (
J29 (decide (x16 < (50 : Int))) w18) (
J29 false w18)) (0 : Int) w10)) fun J6 => 
M.ite (Option.isNone r3) (
J6 true w5) (
J6 (r4 != (0 : Int)) w5)))
theorem F4_ok {w0 : World} {p0 : Int} {p1 : SV} {K : Bool → World → Prop} (h : F4 p0 p1 K w0) : Calls Try.prog 4 #[(Value.int .i64 p0), (SV.v p1)] w0 (R4 K) := by
  refine calls_of_WE (args := [(Value.int .i64 p0), (SV.v p1)]) (rs := [.tmp 4]) Try.func4 rfl (N := 169) rfl rfl rfl rfl ?_
  refine WE.seq ?_
  refine WE.reg ?_
  refine LE.p (v := (Value.bool false)) (Wn.no rfl) rfl (R.assign rfl) ?_
  refine LE.nil ?_
  refine WE.seq ?_
  refine WE.reg ?_
  refine LE.p (v := (Value.int .i64 p0)) (Wn.no rfl) rfl (R.move rfl) ?_
  refine LE.c (Wn.no rfl) rfl (R.call bd15 (Ls.cons rfl (Ls.cons rfl (Ls.cons rfl Ls.nil))) rfl) (Calls.mono h ?_)
  rintro _ w2 ⟨r1, rfl, h⟩
  refine ⟨_, rfl, ?_⟩
  refine LE.p (v := (Value.int .i64 r1)) (Wn.no rfl) rfl (R.assign rfl) ?_
  refine LE.nil ?_
  refine WE.seq ?_
  refine WE.reg ?_
  refine LE.p (v := (Value.int .i64 r1)) (Wn.no rfl) rfl (R.move rfl) ?_
  refine LE.c (Wn.no rfl) rfl (R.call bd7 (Ls.cons rfl Ls.nil) rfl) (Calls.mono h ?_)
  rintro _ w5 ⟨r3, r4, rfl, h⟩
  refine ⟨_, rfl, ?_⟩
  refine LE.p (v := (Value.tuple #[(Value.pointer r3), (Value.int .i64 r4)])) (Wn.no rfl) rfl (R.move rfl) ?_
  refine LE.p (v := (Value.pointer r3)) (Wn.no rfl) rfl (R.ext rfl rfl) ?_
  refine LE.p (v := (Value.int .i64 r4)) (Wn.no rfl) rfl (R.ext rfl rfl) ?_
  refine LE.p (v := (Value.pointer r3)) (Wn.no rfl) rfl (R.assign rfl) ?_
  refine LE.p (v := (Value.int .i64 r4)) (Wn.no rfl) rfl (R.assign rfl) ?_
  refine LE.nil ?_
  refine WE.seq ?_
  refine WE.seq ?_
  obtain ⟨J6, hJ6, h⟩ := M.join_use h
  refine WE.regJ (fun e w => ∃ (x7 : Bool), J6 x7 w ∧ e 0 = (Value.int .i64 r1) ∧ e 1 = (SV.v p1) ∧ e 5 = (Value.pointer r3) ∧ e 31 = (Value.bool x7)) ?_ ?_
  · clear hJ6
    refine LE.p (v := (Value.pointer r3)) (Wn.no rfl) rfl (R.move rfl) ?_
    refine LE.p (v := (Value.bool (Option.isNone r3))) (Wn.no rfl) rfl (R.peqNil pt24 rfl rfl) ?_
    refine LE.p (v := (Value.bool (Option.isNone r3))) (Wn.no rfl) rfl (R.move rfl) ?_
    rcases M.ite_use h with ⟨hb8, h⟩ | ⟨hb8, h⟩
    · refine LE.u (Un.no 2 28 false rfl rfl rfl (congrArg Value.bool hb8)) ?_
      refine LE.u (Un.no 2 28 false rfl rfl rfl (congrArg Value.bool hb8)) ?_
      refine LE.p (v := (Value.bool true)) (Wn.no rfl) rfl (R.pickT (congrArg Value.bool hb8) rfl) ?_
      refine LE.nil ?_
      exact ⟨_, h, rfl, rfl, rfl, rfl⟩
    · refine LE.p (v := (Value.int .i64 r4)) (Wn.yes 2 28 false rfl rfl rfl (congrArg Value.bool hb8)) rfl (R.move rfl) ?_
      refine LE.p (v := (Value.bool (r4 != (0 : Int)))) (Wn.yes 2 28 false rfl rfl rfl (congrArg Value.bool hb8)) rfl (R.neq rfl rfl) ?_
      refine LE.p (v := (Value.bool (r4 != (0 : Int)))) (Wn.no rfl) rfl (R.pickF (congrArg Value.bool hb8) rfl) ?_
      refine LE.nil ?_
      exact ⟨_, h, rfl, rfl, rfl, rfl⟩
  · rintro e9 w10 ⟨x7, h, f11, f12, f13, f14⟩
    subst hJ6
    refine WE.condT rfl (b := x7) f14 ?_ ?_
    · intro hb15
      replace h := M.ite_t h hb15
      refine WE.seq ?_
      refine WE.reg ?_
      refine LE.p (v := (Value.bool false)) (Wn.no rfl) rfl (R.assign rfl) ?_
      refine LE.nil ?_
      refine WE.ret ?_
      exact ⟨_, (Res.tmp rfl Res.nil), _, rfl, h⟩
    · intro hb15
      replace h := M.ite_f h hb15
      refine WE.skip ?_
      refine WE.seq ?_
      refine WE.seq ?_
      refine WE.reg ?_
      refine LE.p (v := (Value.int .i64 (0 : Int))) (Wn.no rfl) rfl (R.assign rfl) ?_
      refine LE.nil ?_
      refine WE.block ?_
      obtain ⟨I21, ⟨n20, h⟩, hr22⟩ := h
      refine WE.loop (fun n e w => ∃ (x16 : Int), I21 n x16 w ∧ e 0 = (Value.int .i64 r1) ∧ e 1 = (SV.v p1) ∧ e 5 = (Value.pointer r3) ∧ e 7 = (Value.int .i64 x16)) n20 ⟨_, h, f11, f12, f13, rfl⟩ ?_
      clear h
      rintro n20 e19 w18 ⟨x16, h, f25, f26, f27, f28⟩
      replace h := hr22 n20 x16 w18 h
      refine WE.seq ?_
      refine WE.seq ?_
      obtain ⟨J29, hJ29, h⟩ := M.join_use h
      refine WE.regJ (fun e w => ∃ (x30 : Bool), J29 x30 w ∧ e 0 = (Value.int .i64 r1) ∧ e 1 = (SV.v p1) ∧ e 5 = (Value.pointer r3) ∧ e 7 = (Value.int .i64 x16) ∧ e 39 = (Value.bool x30)) ?_ ?_
      · clear hJ29
        refine LE.p (v := (Value.int .i64 x16)) (Wn.no rfl) rfl (R.move f28) ?_
        refine LE.p (v := (SV.v p1)) (Wn.no rfl) rfl (R.move f26) ?_
        refine LE.p (v := (Value.int .i64 (p1.len : Int))) (Wn.no rfl) rfl (R.len sl22 rfl) ?_
        refine LE.p (v := (Value.bool (decide (x16 < (p1.len : Int))))) (Wn.no rfl) rfl (R.lss rfl rfl) ?_
        refine LE.p (v := (Value.bool (decide (x16 < (p1.len : Int))))) (Wn.no rfl) rfl (R.move rfl) ?_
        rcases M.ite_use h with ⟨hb31, h⟩ | ⟨hb31, h⟩
        · refine LE.p (v := (Value.int .i64 x16)) (Wn.yes 4 36 true rfl rfl rfl (congrArg Value.bool hb31)) rfl (R.move f28) ?_
          refine LE.p (v := (Value.bool (decide (x16 < (50 : Int))))) (Wn.yes 4 36 true rfl rfl rfl (congrArg Value.bool hb31)) rfl (R.lss rfl rfl) ?_
          refine LE.p (v := (Value.bool (decide (x16 < (50 : Int))))) (Wn.no rfl) rfl (R.pickT (congrArg Value.bool hb31) rfl) ?_
          refine LE.nil ?_
          exact ⟨_, h, f25, f26, f27, f28, rfl⟩
        · refine LE.u (Un.no 4 36 true rfl rfl rfl (congrArg Value.bool hb31)) ?_
          refine LE.u (Un.no 4 36 true rfl rfl rfl (congrArg Value.bool hb31)) ?_
          refine LE.p (v := (Value.bool false)) (Wn.no rfl) rfl (R.pickF (congrArg Value.bool hb31) rfl) ?_
          refine LE.nil ?_
          exact ⟨_, h, f25, f26, f27, f28, rfl⟩
      · rintro e32 w33 ⟨x30, h, f34, f35, f36, f37, f38⟩
        subst hJ29
        refine WE.condT rfl (b := x30) f38 ?_ ?_
        · intro hb39
          replace h := M.ite_t h hb39
          refine WE.skip ?_
          refine WE.seq ?_
          obtain ⟨J40, hJ40, h⟩ := M.join_use h
          refine WE.blkJ (fun e w => J40 w ∧ e 0 = (Value.int .i64 r1) ∧ e 1 = (SV.v p1) ∧ e 5 = (Value.pointer r3) ∧ e 7 = (Value.int .i64 x16)) ?_ ?_
          · clear hJ40
            refine WE.seq ?_
            refine WE.reg ?_
            refine LE.p (v := (SV.v p1)) (Wn.no rfl) rfl (R.move f35) ?_
            refine LE.p (v := (Value.int .i64 x16)) (Wn.no rfl) rfl (R.move f37) ?_
            obtain ⟨a41, h42, h43, h44, h⟩ := h
            refine LE.p (v := (Value.pointer (some (a41.add (x16.toNat * 6))))) (Wn.no rfl) rfl (R.idx (s := p1) sl22 rfl rfl h42 h43 h44) ?_
            obtain ⟨t45, t46, t47, t48, t49, t50, h51, h⟩ := h
            refine LE.r (v := (Value.agg #[(Value.int .i64 t45), (Value.int .i64 t46), (Value.int .i64 t47), (Value.int .u32 t48), (SV.v t49), (Value.bool t50)])) (Wn.no rfl) rfl (R.ldA ag30 sz30 rfl rfl h51) ?_
            obtain ⟨b53, hpb53, w52, hww52, h⟩ := M.new_use h
            refine LE.r (v := (Value.pointer (some b53))) (Wn.no rfl) rfl (R.alloc (cs := #[(Value.int .i64 (0 : Int)), (Value.int .i64 (0 : Int)), (Value.int .i64 (0 : Int)), (Value.int .u32 (0 : Int)), (SV.v SV.nil), (Value.bool false)]) ze30 rfl hpb53 hww52) ?_
            obtain ⟨w54, hww54, h55, h⟩ := M.stA_use h
            refine LE.s (Wn.no rfl) rfl (R.stA (a := b53) [(Value.int .i64 t45), (Value.int .i64 t46), (Value.int .i64 t47), (Value.int .u32 t48), (SV.v t49), (Value.bool t50)] sz30 rfl rfl rfl (by simp [Value.oneCell']) h55 hww54) ?_
            refine LE.nil ?_
            refine WE.seq ?_
            refine WE.reg ?_
            refine LE.p (v := (Value.pointer (some (b53.add 5)))) (Wn.no rfl) rfl (R.fld (off := 5) fa30_5 rfl) ?_
            obtain ⟨w56, hww56, h57, h58, h⟩ := M.st_use h
            refine LE.s (Wn.no rfl) rfl (R.st (a := (b53.add 5)) (v := (Value.bool true)) sz4 rfl rfl rfl rfl h57 h58 hww56) ?_
            refine LE.nil ?_
            refine WE.seq ?_
            refine WE.reg ?_
            obtain ⟨t59, t60, t61, t62, t63, t64, h65, h⟩ := h
            refine LE.r (v := (Value.agg #[(Value.int .i64 t59), (Value.int .i64 t60), (Value.int .i64 t61), (Value.int .u32 t62), (SV.v t63), (Value.bool t64)])) (Wn.no rfl) rfl (R.ldA ag30 sz30 rfl rfl h65) ?_
            refine LE.c (Wn.no rfl) rfl (R.call bd9 (Ls.cons rfl Ls.nil) rfl) (Calls.mono h ?_)
            rintro _ w69 ⟨r66, r67, r68, rfl, h⟩
            refine ⟨_, rfl, ?_⟩
            obtain ⟨b71, hpb71, w70, hww70, h⟩ := M.new_use h
            refine LE.r (v := (Value.pointer (some b71))) (Wn.no rfl) rfl (R.alloc (cs := #[(Value.int .u32 (0 : Int)), (Value.int .i64 (0 : Int)), (SV.v SV.nil)]) ze35 rfl hpb71 hww70) ?_
            obtain ⟨w72, hww72, h73, h⟩ := M.stA_use h
            refine LE.s (Wn.no rfl) rfl (R.stA (a := b71) [(Value.int .u32 r66), (Value.int .i64 r67), (SV.v r68)] sz35 rfl rfl rfl (by simp [Value.oneCell']) h73 hww72) ?_
            refine LE.nil ?_
            refine WE.seq ?_
            refine WE.reg ?_
            refine LE.p (v := (Value.pointer r3)) (Wn.no rfl) rfl (R.move f36) ?_
            refine LE.c (Wn.no rfl) rfl (R.call bd16 (Ls.cons rfl Ls.nil) rfl) (Calls.mono h ?_)
            rintro _ w75 ⟨r74, rfl, h⟩
            refine ⟨_, rfl, ?_⟩
            refine LE.p (v := (Value.pointer r3)) (Wn.no rfl) rfl (R.move f36) ?_
            refine LE.c (Wn.no rfl) rfl (R.call bd17 (Ls.cons rfl Ls.nil) rfl) (Calls.mono h ?_)
            rintro _ w77 ⟨r76, rfl, h⟩
            refine ⟨_, rfl, ?_⟩
            refine LE.p (v := (SV.v r74)) (Wn.no rfl) rfl (R.assign rfl) ?_
            refine LE.p (v := (Value.int .i64 r76)) (Wn.no rfl) rfl (R.assign rfl) ?_
            refine LE.nil ?_
            refine WE.seq ?_
            refine WE.reg ?_
            refine LE.p (v := (Value.pointer r3)) (Wn.no rfl) rfl (R.move f36) ?_
            refine LE.p (v := (Value.pointer (some b71))) (Wn.no rfl) rfl (R.fld (off := 0) fa35_0 rfl) ?_
            obtain ⟨t78, h79, h⟩ := h
            obtain ⟨t80, h81, h⟩ := h
            refine LE.r (v := (Value.agg #[(Value.int .u32 t78), (Value.int .i64 t80)])) (Wn.no rfl) rfl (R.ldA ag33 sz33 rfl rfl (Cs.cons h79 (Cs.cons h81 Cs.nil))) ?_
            refine LE.c (Wn.no rfl) rfl (R.call bd11 (Ls.cons rfl (Ls.cons rfl Ls.nil)) rfl) (Calls.mono h ?_)
            rintro _ w84 ⟨r82, r83, rfl, h⟩
            refine ⟨_, rfl, ?_⟩
            refine LE.p (v := (Value.tuple #[(SV.v r82), (Value.bool r83)])) (Wn.no rfl) rfl (R.move rfl) ?_
            refine LE.p (v := (SV.v r82)) (Wn.no rfl) rfl (R.ext rfl rfl) ?_
            refine LE.p (v := (Value.bool r83)) (Wn.no rfl) rfl (R.ext rfl rfl) ?_
            refine LE.p (v := (SV.v r82)) (Wn.no rfl) rfl (R.assign rfl) ?_
            refine LE.p (v := (Value.bool r83)) (Wn.no rfl) rfl (R.assign rfl) ?_
            refine LE.nil ?_
            refine WE.seq ?_
            refine WE.reg ?_
            refine LE.p (v := (Value.pointer r3)) (Wn.no rfl) rfl (R.move f36) ?_
            obtain ⟨t85, t86, t87, h88, h⟩ := h
            refine LE.r (v := (Value.agg #[(Value.int .u32 t85), (Value.int .i64 t86), (SV.v t87)])) (Wn.no rfl) rfl (R.ldA ag35 sz35 rfl rfl h88) ?_
            refine LE.c (Wn.no rfl) rfl (R.call bd8 (Ls.cons rfl (Ls.cons rfl Ls.nil)) rfl) (Calls.mono h ?_)
            rintro _ w90 ⟨r89, rfl, h⟩
            refine ⟨_, rfl, ?_⟩
            refine LE.p (v := (Value.int .i64 r89)) (Wn.no rfl) rfl (R.assign rfl) ?_
            refine LE.nil ?_
            refine WE.seq ?_
            refine WE.seq ?_
            obtain ⟨J91, hJ91, h⟩ := M.join_use h
            refine WE.regJ (fun e w => ∃ (x92 : Bool), J91 x92 w ∧ e 0 = (Value.int .i64 r1) ∧ e 1 = (SV.v p1) ∧ e 5 = (Value.pointer r3) ∧ e 7 = (Value.int .i64 x16) ∧ e 8 = (Value.pointer (some b53)) ∧ e 9 = (Value.pointer (some b71)) ∧ e 10 = (SV.v r74) ∧ e 11 = (Value.int .i64 r76) ∧ e 13 = (Value.bool r83) ∧ e 14 = (Value.int .i64 r89) ∧ e 90 = (Value.bool x92)) ?_ ?_
            · clear hJ91
              refine LE.p (v := (Value.int .i64 r89)) (Wn.no rfl) rfl (R.move rfl) ?_
              refine LE.p (v := (Value.bool (r89 != (0 : Int)))) (Wn.no rfl) rfl (R.neq rfl rfl) ?_
              refine LE.p (v := (Value.bool (r89 != (0 : Int)))) (Wn.no rfl) rfl (R.move rfl) ?_
              rcases M.ite_use h with ⟨hb93, h⟩ | ⟨hb93, h⟩
              · refine LE.p (v := (Value.int .i64 r89)) (Wn.yes 2 65 true rfl rfl rfl (congrArg Value.bool hb93)) rfl (R.move rfl) ?_
                refine LE.p (v := (Value.bool (r89 != (13 : Int)))) (Wn.yes 2 65 true rfl rfl rfl (congrArg Value.bool hb93)) rfl (R.neq rfl rfl) ?_
                refine LE.p (v := (Value.bool (r89 != (13 : Int)))) (Wn.yes 2 65 true rfl rfl rfl (congrArg Value.bool hb93)) rfl (R.move rfl) ?_
                rcases M.ite_use h with ⟨hb94, h⟩ | ⟨hb94, h⟩
                · refine LE.u (Un.no 5 68 false rfl rfl rfl (congrArg Value.bool hb94)) ?_
                  refine LE.p (v := (Value.bool true)) (Wn.yes 2 65 true rfl rfl rfl (congrArg Value.bool hb93)) rfl (R.pickT (congrArg Value.bool hb94) rfl) ?_
                  refine LE.p (v := (Value.bool true)) (Wn.yes 2 65 true rfl rfl rfl (congrArg Value.bool hb93)) rfl (R.move rfl) ?_
                  refine LE.u (Un.no 8 71 false rfl rfl rfl rfl) ?_
                  refine LE.u (Un.no 8 71 false rfl rfl rfl rfl) ?_
                  refine LE.u (Un.no 8 71 false rfl rfl rfl rfl) ?_
                  refine LE.u (Un.no 8 71 false rfl rfl rfl rfl) ?_
                  refine LE.p (v := (Value.bool true)) (Wn.yes 2 65 true rfl rfl rfl (congrArg Value.bool hb93)) rfl (R.pickT rfl rfl) ?_
                  refine LE.p (v := (Value.bool true)) (Wn.yes 2 65 true rfl rfl rfl (congrArg Value.bool hb93)) rfl (R.move rfl) ?_
                  refine LE.u (Un.no 14 77 false rfl rfl rfl rfl) ?_
                  refine LE.u (Un.no 14 77 false rfl rfl rfl rfl) ?_
                  refine LE.u (Un.no 14 77 false rfl rfl rfl rfl) ?_
                  refine LE.u (Un.no 14 77 false rfl rfl rfl rfl) ?_
                  refine LE.u (Un.no 14 77 false rfl rfl rfl rfl) ?_
                  refine LE.p (v := (Value.bool true)) (Wn.yes 2 65 true rfl rfl rfl (congrArg Value.bool hb93)) rfl (R.pickT rfl rfl) ?_
                  refine LE.p (v := (Value.bool true)) (Wn.yes 2 65 true rfl rfl rfl (congrArg Value.bool hb93)) rfl (R.move rfl) ?_
                  refine LE.u (Un.no 21 84 false rfl rfl rfl rfl) ?_
                  refine LE.u (Un.no 21 84 false rfl rfl rfl rfl) ?_
                  refine LE.u (Un.no 21 84 false rfl rfl rfl rfl) ?_
                  refine LE.u (Un.no 21 84 false rfl rfl rfl rfl) ?_
                  refine LE.p (v := (Value.bool true)) (Wn.yes 2 65 true rfl rfl rfl (congrArg Value.bool hb93)) rfl (R.pickT rfl rfl) ?_
                  refine LE.p (v := (Value.bool true)) (Wn.no rfl) rfl (R.pickT (congrArg Value.bool hb93) rfl) ?_
                  refine LE.nil ?_
                  exact ⟨_, h, f34, f35, f36, f37, rfl, rfl, rfl, rfl, rfl, rfl, rfl⟩
                · refine LE.p (v := (Value.bool r83)) (Wn.yes 5 68 false rfl rfl rfl (congrArg Value.bool hb94)) rfl (R.move rfl) ?_
                  refine LE.p (v := (Value.bool r83)) (Wn.yes 2 65 true rfl rfl rfl (congrArg Value.bool hb93)) rfl (R.pickF (congrArg Value.bool hb94) rfl) ?_
                  refine LE.p (v := (Value.bool r83)) (Wn.yes 2 65 true rfl rfl rfl (congrArg Value.bool hb93)) rfl (R.move rfl) ?_
                  rcases M.ite_use h with ⟨hb95, h⟩ | ⟨hb95, h⟩
                  · refine LE.u (Un.no 8 71 false rfl rfl rfl (congrArg Value.bool hb95)) ?_
                    refine LE.u (Un.no 8 71 false rfl rfl rfl (congrArg Value.bool hb95)) ?_
                    refine LE.u (Un.no 8 71 false rfl rfl rfl (congrArg Value.bool hb95)) ?_
                    refine LE.u (Un.no 8 71 false rfl rfl rfl (congrArg Value.bool hb95)) ?_
                    refine LE.p (v := (Value.bool true)) (Wn.yes 2 65 true rfl rfl rfl (congrArg Value.bool hb93)) rfl (R.pickT (congrArg Value.bool hb95) rfl) ?_
                    refine LE.p (v := (Value.bool true)) (Wn.yes 2 65 true rfl rfl rfl (congrArg Value.bool hb93)) rfl (R.move rfl) ?_
                    refine LE.u (Un.no 14 77 false rfl rfl rfl rfl) ?_
                    refine LE.u (Un.no 14 77 false rfl rfl rfl rfl) ?_
                    refine LE.u (Un.no 14 77 false rfl rfl rfl rfl) ?_
                    refine LE.u (Un.no 14 77 false rfl rfl rfl rfl) ?_
                    refine LE.u (Un.no 14 77 false rfl rfl rfl rfl) ?_
                    refine LE.p (v := (Value.bool true)) (Wn.yes 2 65 true rfl rfl rfl (congrArg Value.bool hb93)) rfl (R.pickT rfl rfl) ?_
                    refine LE.p (v := (Value.bool true)) (Wn.yes 2 65 true rfl rfl rfl (congrArg Value.bool hb93)) rfl (R.move rfl) ?_
                    refine LE.u (Un.no 21 84 false rfl rfl rfl rfl) ?_
                    refine LE.u (Un.no 21 84 false rfl rfl rfl rfl) ?_
                    refine LE.u (Un.no 21 84 false rfl rfl rfl rfl) ?_
                    refine LE.u (Un.no 21 84 false rfl rfl rfl rfl) ?_
                    refine LE.p (v := (Value.bool true)) (Wn.yes 2 65 true rfl rfl rfl (congrArg Value.bool hb93)) rfl (R.pickT rfl rfl) ?_
                    refine LE.p (v := (Value.bool true)) (Wn.no rfl) rfl (R.pickT (congrArg Value.bool hb93) rfl) ?_
                    refine LE.nil ?_
                    exact ⟨_, h, f34, f35, f36, f37, rfl, rfl, rfl, rfl, rfl, rfl, rfl⟩
                  · refine LE.p (v := (SV.v r74)) (Wn.yes 8 71 false rfl rfl rfl (congrArg Value.bool hb95)) rfl (R.move rfl) ?_
                    refine LE.p (v := (Value.int .i64 (r74.len : Int))) (Wn.yes 8 71 false rfl rfl rfl (congrArg Value.bool hb95)) rfl (R.len sl45 rfl) ?_
                    refine LE.p (v := (Value.int .i64 r1)) (Wn.yes 8 71 false rfl rfl rfl (congrArg Value.bool hb95)) rfl (R.move f34) ?_
                    refine LE.p (v := (Value.bool (decide ((r74.len : Int) < r1)))) (Wn.yes 8 71 false rfl rfl rfl (congrArg Value.bool hb95)) rfl (R.lss rfl rfl) ?_
                    refine LE.p (v := (Value.bool (decide ((r74.len : Int) < r1)))) (Wn.yes 2 65 true rfl rfl rfl (congrArg Value.bool hb93)) rfl (R.pickF (congrArg Value.bool hb95) rfl) ?_
                    refine LE.p (v := (Value.bool (decide ((r74.len : Int) < r1)))) (Wn.yes 2 65 true rfl rfl rfl (congrArg Value.bool hb93)) rfl (R.move rfl) ?_
                    rcases M.ite_use h with ⟨hb96, h⟩ | ⟨hb96, h⟩
                    · refine LE.u (Un.no 14 77 false rfl rfl rfl (congrArg Value.bool hb96)) ?_
                      refine LE.u (Un.no 14 77 false rfl rfl rfl (congrArg Value.bool hb96)) ?_
                      refine LE.u (Un.no 14 77 false rfl rfl rfl (congrArg Value.bool hb96)) ?_
                      refine LE.u (Un.no 14 77 false rfl rfl rfl (congrArg Value.bool hb96)) ?_
                      refine LE.u (Un.no 14 77 false rfl rfl rfl (congrArg Value.bool hb96)) ?_
                      refine LE.p (v := (Value.bool true)) (Wn.yes 2 65 true rfl rfl rfl (congrArg Value.bool hb93)) rfl (R.pickT (congrArg Value.bool hb96) rfl) ?_
                      refine LE.p (v := (Value.bool true)) (Wn.yes 2 65 true rfl rfl rfl (congrArg Value.bool hb93)) rfl (R.move rfl) ?_
                      refine LE.u (Un.no 21 84 false rfl rfl rfl rfl) ?_
                      refine LE.u (Un.no 21 84 false rfl rfl rfl rfl) ?_
                      refine LE.u (Un.no 21 84 false rfl rfl rfl rfl) ?_
                      refine LE.u (Un.no 21 84 false rfl rfl rfl rfl) ?_
                      refine LE.p (v := (Value.bool true)) (Wn.yes 2 65 true rfl rfl rfl (congrArg Value.bool hb93)) rfl (R.pickT rfl rfl) ?_
                      refine LE.p (v := (Value.bool true)) (Wn.no rfl) rfl (R.pickT (congrArg Value.bool hb93) rfl) ?_
                      refine LE.nil ?_
                      exact ⟨_, h, f34, f35, f36, f37, rfl, rfl, rfl, rfl, rfl, rfl, rfl⟩
                    · refine LE.p (v := (SV.v r74)) (Wn.yes 14 77 false rfl rfl rfl (congrArg Value.bool hb96)) rfl (R.move rfl) ?_
                      refine LE.p (v := (Value.pointer r3)) (Wn.yes 14 77 false rfl rfl rfl (congrArg Value.bool hb96)) rfl (R.move f36) ?_
                      refine LE.c (Wn.yes 14 77 false rfl rfl rfl (congrArg Value.bool hb96)) rfl (R.call bd16 (Ls.cons rfl Ls.nil) rfl) (Calls.mono h ?_)
                      rintro _ w98 ⟨r97, rfl, h⟩
                      refine ⟨_, rfl, ?_⟩
                      refine LE.c (Wn.yes 14 77 false rfl rfl rfl (congrArg Value.bool hb96)) rfl (R.call bd18 (Ls.cons rfl (Ls.cons rfl Ls.nil)) rfl) (Calls.mono h ?_)
                      rintro _ w100 ⟨r99, rfl, h⟩
                      refine ⟨_, rfl, ?_⟩
                      refine LE.p (v := (Value.bool (!r99))) (Wn.yes 14 77 false rfl rfl rfl (congrArg Value.bool hb96)) rfl (R.not rfl) ?_
                      refine LE.p (v := (Value.bool (!r99))) (Wn.yes 2 65 true rfl rfl rfl (congrArg Value.bool hb93)) rfl (R.pickF (congrArg Value.bool hb96) rfl) ?_
                      refine LE.p (v := (Value.bool (!r99))) (Wn.yes 2 65 true rfl rfl rfl (congrArg Value.bool hb93)) rfl (R.move rfl) ?_
                      rcases M.ite_use h with ⟨hb101, h⟩ | ⟨hb101, h⟩
                      · refine LE.u (Un.no 21 84 false rfl rfl rfl (congrArg Value.bool hb101)) ?_
                        refine LE.u (Un.no 21 84 false rfl rfl rfl (congrArg Value.bool hb101)) ?_
                        refine LE.u (Un.no 21 84 false rfl rfl rfl (congrArg Value.bool hb101)) ?_
                        refine LE.u (Un.no 21 84 false rfl rfl rfl (congrArg Value.bool hb101)) ?_
                        refine LE.p (v := (Value.bool true)) (Wn.yes 2 65 true rfl rfl rfl (congrArg Value.bool hb93)) rfl (R.pickT (congrArg Value.bool hb101) rfl) ?_
                        refine LE.p (v := (Value.bool true)) (Wn.no rfl) rfl (R.pickT (congrArg Value.bool hb93) rfl) ?_
                        refine LE.nil ?_
                        exact ⟨_, h, f34, f35, f36, f37, rfl, rfl, rfl, rfl, rfl, rfl, rfl⟩
                      · refine LE.p (v := (Value.pointer r3)) (Wn.yes 21 84 false rfl rfl rfl (congrArg Value.bool hb101)) rfl (R.move f36) ?_
                        refine LE.c (Wn.yes 21 84 false rfl rfl rfl (congrArg Value.bool hb101)) rfl (R.call bd17 (Ls.cons rfl Ls.nil) rfl) (Calls.mono h ?_)
                        rintro _ w103 ⟨r102, rfl, h⟩
                        refine ⟨_, rfl, ?_⟩
                        refine LE.p (v := (Value.int .i64 r76)) (Wn.yes 21 84 false rfl rfl rfl (congrArg Value.bool hb101)) rfl (R.move rfl) ?_
                        refine LE.p (v := (Value.bool (r102 != r76))) (Wn.yes 21 84 false rfl rfl rfl (congrArg Value.bool hb101)) rfl (R.neq rfl rfl) ?_
                        refine LE.p (v := (Value.bool (r102 != r76))) (Wn.yes 2 65 true rfl rfl rfl (congrArg Value.bool hb93)) rfl (R.pickF (congrArg Value.bool hb101) rfl) ?_
                        refine LE.p (v := (Value.bool (r102 != r76))) (Wn.no rfl) rfl (R.pickT (congrArg Value.bool hb93) rfl) ?_
                        refine LE.nil ?_
                        exact ⟨_, h, f34, f35, f36, f37, rfl, rfl, rfl, rfl, rfl, rfl, rfl⟩
              · refine LE.u (Un.no 2 65 true rfl rfl rfl (congrArg Value.bool hb93)) ?_
                refine LE.u (Un.no 2 65 true rfl rfl rfl (congrArg Value.bool hb93)) ?_
                refine LE.u (Un.no 2 65 true rfl rfl rfl (congrArg Value.bool hb93)) ?_
                refine LE.u (Un.un 5 68 false rfl rfl rfl rfl) ?_
                refine LE.u (Un.no 2 65 true rfl rfl rfl (congrArg Value.bool hb93)) ?_
                refine LE.u (Un.no 2 65 true rfl rfl rfl (congrArg Value.bool hb93)) ?_
                refine LE.u (Un.un 8 71 false rfl rfl rfl rfl) ?_
                refine LE.u (Un.un 8 71 false rfl rfl rfl rfl) ?_
                refine LE.u (Un.un 8 71 false rfl rfl rfl rfl) ?_
                refine LE.u (Un.un 8 71 false rfl rfl rfl rfl) ?_
                refine LE.u (Un.no 2 65 true rfl rfl rfl (congrArg Value.bool hb93)) ?_
                refine LE.u (Un.no 2 65 true rfl rfl rfl (congrArg Value.bool hb93)) ?_
                refine LE.u (Un.un 14 77 false rfl rfl rfl rfl) ?_
                refine LE.u (Un.un 14 77 false rfl rfl rfl rfl) ?_
                refine LE.u (Un.un 14 77 false rfl rfl rfl rfl) ?_
                refine LE.u (Un.un 14 77 false rfl rfl rfl rfl) ?_
                refine LE.u (Un.un 14 77 false rfl rfl rfl rfl) ?_
                refine LE.u (Un.no 2 65 true rfl rfl rfl (congrArg Value.bool hb93)) ?_
                refine LE.u (Un.no 2 65 true rfl rfl rfl (congrArg Value.bool hb93)) ?_
                refine LE.u (Un.un 21 84 false rfl rfl rfl rfl) ?_
                refine LE.u (Un.un 21 84 false rfl rfl rfl rfl) ?_
                refine LE.u (Un.un 21 84 false rfl rfl rfl rfl) ?_
                refine LE.u (Un.un 21 84 false rfl rfl rfl rfl) ?_
                refine LE.u (Un.no 2 65 true rfl rfl rfl (congrArg Value.bool hb93)) ?_
                refine LE.p (v := (Value.bool false)) (Wn.no rfl) rfl (R.pickF (congrArg Value.bool hb93) rfl) ?_
                refine LE.nil ?_
                exact ⟨_, h, f34, f35, f36, f37, rfl, rfl, rfl, rfl, rfl, rfl, rfl⟩
            · rintro e104 w105 ⟨x92, h, f106, f107, f108, f109, f110, f111, f112, f113, f114, f115, f116⟩
              subst hJ91
              refine WE.condT rfl (b := x92) f116 ?_ ?_
              · intro hb117
                replace h := M.ite_t h hb117
                refine WE.seq ?_
                refine WE.reg ?_
                refine LE.p (v := (Value.bool false)) (Wn.no rfl) rfl (R.assign rfl) ?_
                refine LE.nil ?_
                refine WE.ret ?_
                exact ⟨_, (Res.tmp rfl Res.nil), _, rfl, h⟩
              · intro hb117
                replace h := M.ite_f h hb117
                refine WE.skip ?_
                refine WE.seq ?_
                refine WE.seq ?_
                obtain ⟨J118, hJ118, h⟩ := M.join_use h
                refine WE.regJ (fun e w => ∃ (x119 : Bool), J118 x119 w ∧ e 0 = (Value.int .i64 r1) ∧ e 1 = (SV.v p1) ∧ e 5 = (Value.pointer r3) ∧ e 7 = (Value.int .i64 x16) ∧ e 8 = (Value.pointer (some b53)) ∧ e 9 = (Value.pointer (some b71)) ∧ e 14 = (Value.int .i64 r89) ∧ e 109 = (Value.bool x119)) ?_ ?_
                · clear hJ118
                  refine LE.p (v := (Value.int .i64 r89)) (Wn.no rfl) rfl (R.move f115) ?_
                  refine LE.p (v := (Value.bool (r89 == (0 : Int)))) (Wn.no rfl) rfl (R.eql rfl rfl) ?_
                  refine LE.p (v := (Value.bool (r89 == (0 : Int)))) (Wn.no rfl) rfl (R.move rfl) ?_
                  rcases M.ite_use h with ⟨hb120, h⟩ | ⟨hb120, h⟩
                  · refine LE.p (v := (Value.bool r83)) (Wn.yes 2 93 true rfl rfl rfl (congrArg Value.bool hb120)) rfl (R.move f114) ?_
                    refine LE.p (v := (Value.bool (!r83))) (Wn.yes 2 93 true rfl rfl rfl (congrArg Value.bool hb120)) rfl (R.not rfl) ?_
                    refine LE.p (v := (Value.bool (!r83))) (Wn.yes 2 93 true rfl rfl rfl (congrArg Value.bool hb120)) rfl (R.move rfl) ?_
                    rcases M.ite_use h with ⟨hb121, h⟩ | ⟨hb121, h⟩
                    · refine LE.p (v := (SV.v r74)) (Wn.yes 5 96 true rfl rfl rfl (congrArg Value.bool hb121)) rfl (R.move f112) ?_
                      refine LE.p (v := (Value.int .i64 (r74.len : Int))) (Wn.yes 5 96 true rfl rfl rfl (congrArg Value.bool hb121)) rfl (R.len sl45 rfl) ?_
                      refine LE.p (v := (Value.int .i64 r1)) (Wn.yes 5 96 true rfl rfl rfl (congrArg Value.bool hb121)) rfl (R.move f106) ?_
                      refine LE.p (v := (Value.bool (decide (r1 ≤ (r74.len : Int))))) (Wn.yes 5 96 true rfl rfl rfl (congrArg Value.bool hb121)) rfl (R.geq rfl rfl) ?_
                      refine LE.p (v := (Value.bool (decide (r1 ≤ (r74.len : Int))))) (Wn.yes 2 93 true rfl rfl rfl (congrArg Value.bool hb120)) rfl (R.pickT (congrArg Value.bool hb121) rfl) ?_
                      refine LE.p (v := (Value.bool (decide (r1 ≤ (r74.len : Int))))) (Wn.yes 2 93 true rfl rfl rfl (congrArg Value.bool hb120)) rfl (R.move rfl) ?_
                      rcases M.ite_use h with ⟨hb122, h⟩ | ⟨hb122, h⟩
                      · refine LE.u (Un.no 11 102 false rfl rfl rfl (congrArg Value.bool hb122)) ?_
                        refine LE.u (Un.no 11 102 false rfl rfl rfl (congrArg Value.bool hb122)) ?_
                        refine LE.u (Un.no 11 102 false rfl rfl rfl (congrArg Value.bool hb122)) ?_
                        refine LE.u (Un.no 11 102 false rfl rfl rfl (congrArg Value.bool hb122)) ?_
                        refine LE.u (Un.no 11 102 false rfl rfl rfl (congrArg Value.bool hb122)) ?_
                        refine LE.p (v := (Value.bool true)) (Wn.yes 2 93 true rfl rfl rfl (congrArg Value.bool hb120)) rfl (R.pickT (congrArg Value.bool hb122) rfl) ?_
                        refine LE.p (v := (Value.bool true)) (Wn.no rfl) rfl (R.pickT (congrArg Value.bool hb120) rfl) ?_
                        refine LE.nil ?_
                        exact ⟨_, h, f106, f107, f108, f109, f110, f111, f115, rfl⟩
                      · refine LE.p (v := (Value.pointer r3)) (Wn.yes 11 102 false rfl rfl rfl (congrArg Value.bool hb122)) rfl (R.move f108) ?_
                        refine LE.c (Wn.yes 11 102 false rfl rfl rfl (congrArg Value.bool hb122)) rfl (R.call bd17 (Ls.cons rfl Ls.nil) rfl) (Calls.mono h ?_)
                        rintro _ w124 ⟨r123, rfl, h⟩
                        refine ⟨_, rfl, ?_⟩
                        refine LE.p (v := (Value.int .i64 r76)) (Wn.yes 11 102 false rfl rfl rfl (congrArg Value.bool hb122)) rfl (R.move f113) ?_
                        refine LE.p (v := (Value.int .i64 (IntKind.i64.wrap (r76 + (1 : Int))))) (Wn.yes 11 102 false rfl rfl rfl (congrArg Value.bool hb122)) rfl (R.add rfl rfl) ?_
                        refine LE.p (v := (Value.bool (r123 != (IntKind.i64.wrap (r76 + (1 : Int)))))) (Wn.yes 11 102 false rfl rfl rfl (congrArg Value.bool hb122)) rfl (R.neq rfl rfl) ?_
                        refine LE.p (v := (Value.bool (r123 != (IntKind.i64.wrap (r76 + (1 : Int)))))) (Wn.yes 2 93 true rfl rfl rfl (congrArg Value.bool hb120)) rfl (R.pickF (congrArg Value.bool hb122) rfl) ?_
                        refine LE.p (v := (Value.bool (r123 != (IntKind.i64.wrap (r76 + (1 : Int)))))) (Wn.no rfl) rfl (R.pickT (congrArg Value.bool hb120) rfl) ?_
                        refine LE.nil ?_
                        exact ⟨_, h, f106, f107, f108, f109, f110, f111, f115, rfl⟩
                    · refine LE.u (Un.no 5 96 true rfl rfl rfl (congrArg Value.bool hb121)) ?_
                      refine LE.u (Un.no 5 96 true rfl rfl rfl (congrArg Value.bool hb121)) ?_
                      refine LE.u (Un.no 5 96 true rfl rfl rfl (congrArg Value.bool hb121)) ?_
                      refine LE.u (Un.no 5 96 true rfl rfl rfl (congrArg Value.bool hb121)) ?_
                      refine LE.p (v := (Value.bool false)) (Wn.yes 2 93 true rfl rfl rfl (congrArg Value.bool hb120)) rfl (R.pickF (congrArg Value.bool hb121) rfl) ?_
                      refine LE.p (v := (Value.bool false)) (Wn.yes 2 93 true rfl rfl rfl (congrArg Value.bool hb120)) rfl (R.move rfl) ?_
                      refine LE.p (v := (Value.pointer r3)) (Wn.yes 11 102 false rfl rfl rfl rfl) rfl (R.move f108) ?_
                      refine LE.c (Wn.yes 11 102 false rfl rfl rfl rfl) rfl (R.call bd17 (Ls.cons rfl Ls.nil) rfl) (Calls.mono h ?_)
                      rintro _ w126 ⟨r125, rfl, h⟩
                      refine ⟨_, rfl, ?_⟩
                      refine LE.p (v := (Value.int .i64 r76)) (Wn.yes 11 102 false rfl rfl rfl rfl) rfl (R.move f113) ?_
                      refine LE.p (v := (Value.int .i64 (IntKind.i64.wrap (r76 + (1 : Int))))) (Wn.yes 11 102 false rfl rfl rfl rfl) rfl (R.add rfl rfl) ?_
                      refine LE.p (v := (Value.bool (r125 != (IntKind.i64.wrap (r76 + (1 : Int)))))) (Wn.yes 11 102 false rfl rfl rfl rfl) rfl (R.neq rfl rfl) ?_
                      refine LE.p (v := (Value.bool (r125 != (IntKind.i64.wrap (r76 + (1 : Int)))))) (Wn.yes 2 93 true rfl rfl rfl (congrArg Value.bool hb120)) rfl (R.pickF rfl rfl) ?_
                      refine LE.p (v := (Value.bool (r125 != (IntKind.i64.wrap (r76 + (1 : Int)))))) (Wn.no rfl) rfl (R.pickT (congrArg Value.bool hb120) rfl) ?_
                      refine LE.nil ?_
                      exact ⟨_, h, f106, f107, f108, f109, f110, f111, f115, rfl⟩
                  · refine LE.u (Un.no 2 93 true rfl rfl rfl (congrArg Value.bool hb120)) ?_
                    refine LE.u (Un.no 2 93 true rfl rfl rfl (congrArg Value.bool hb120)) ?_
                    refine LE.u (Un.no 2 93 true rfl rfl rfl (congrArg Value.bool hb120)) ?_
                    refine LE.u (Un.un 5 96 true rfl rfl rfl rfl) ?_
                    refine LE.u (Un.un 5 96 true rfl rfl rfl rfl) ?_
                    refine LE.u (Un.un 5 96 true rfl rfl rfl rfl) ?_
                    refine LE.u (Un.un 5 96 true rfl rfl rfl rfl) ?_
                    refine LE.u (Un.no 2 93 true rfl rfl rfl (congrArg Value.bool hb120)) ?_
                    refine LE.u (Un.no 2 93 true rfl rfl rfl (congrArg Value.bool hb120)) ?_
                    refine LE.u (Un.un 11 102 false rfl rfl rfl rfl) ?_
                    refine LE.u (Un.un 11 102 false rfl rfl rfl rfl) ?_
                    refine LE.u (Un.un 11 102 false rfl rfl rfl rfl) ?_
                    refine LE.u (Un.un 11 102 false rfl rfl rfl rfl) ?_
                    refine LE.u (Un.un 11 102 false rfl rfl rfl rfl) ?_
                    refine LE.u (Un.no 2 93 true rfl rfl rfl (congrArg Value.bool hb120)) ?_
                    refine LE.p (v := (Value.bool false)) (Wn.no rfl) rfl (R.pickF (congrArg Value.bool hb120) rfl) ?_
                    refine LE.nil ?_
                    exact ⟨_, h, f106, f107, f108, f109, f110, f111, f115, rfl⟩
                · rintro e127 w128 ⟨x119, h, f129, f130, f131, f132, f133, f134, f135, f136⟩
                  subst hJ118
                  refine WE.condT rfl (b := x119) f136 ?_ ?_
                  · intro hb137
                    replace h := M.ite_t h hb137
                    refine WE.seq ?_
                    refine WE.reg ?_
                    refine LE.p (v := (Value.bool false)) (Wn.no rfl) rfl (R.assign rfl) ?_
                    refine LE.nil ?_
                    refine WE.ret ?_
                    exact ⟨_, (Res.tmp rfl Res.nil), _, rfl, h⟩
                  · intro hb137
                    replace h := M.ite_f h hb137
                    refine WE.skip ?_
                    refine WE.seq ?_
                    refine WE.reg ?_
                    refine LE.p (v := (Value.pointer r3)) (Wn.no rfl) rfl (R.move f131) ?_
                    refine LE.p (v := (Value.pointer (some b71))) (Wn.no rfl) rfl (R.fld (off := 0) fa35_0 f134) ?_
                    obtain ⟨t138, h139, h⟩ := h
                    obtain ⟨t140, h141, h⟩ := h
                    refine LE.r (v := (Value.agg #[(Value.int .u32 t138), (Value.int .i64 t140)])) (Wn.no rfl) rfl (R.ldA ag33 sz33 rfl rfl (Cs.cons h139 (Cs.cons h141 Cs.nil))) ?_
                    refine LE.c (Wn.no rfl) rfl (R.call bd11 (Ls.cons rfl (Ls.cons rfl Ls.nil)) rfl) (Calls.mono h ?_)
                    rintro _ w144 ⟨r142, r143, rfl, h⟩
                    refine ⟨_, rfl, ?_⟩
                    refine LE.p (v := (Value.tuple #[(SV.v r142), (Value.bool r143)])) (Wn.no rfl) rfl (R.move rfl) ?_
                    refine LE.p (v := (SV.v r142)) (Wn.no rfl) rfl (R.ext rfl rfl) ?_
                    refine LE.p (v := (Value.bool r143)) (Wn.no rfl) rfl (R.ext rfl rfl) ?_
                    refine LE.p (v := (SV.v r142)) (Wn.no rfl) rfl (R.assign rfl) ?_
                    refine LE.p (v := (Value.bool r143)) (Wn.no rfl) rfl (R.assign rfl) ?_
                    refine LE.nil ?_
                    refine WE.seq ?_
                    refine WE.seq ?_
                    obtain ⟨J145, hJ145, h⟩ := M.join_use h
                    refine WE.regJ (fun e w => ∃ (x146 : Bool), J145 x146 w ∧ e 0 = (Value.int .i64 r1) ∧ e 1 = (SV.v p1) ∧ e 5 = (Value.pointer r3) ∧ e 7 = (Value.int .i64 x16) ∧ e 8 = (Value.pointer (some b53)) ∧ e 135 = (Value.bool x146)) ?_ ?_
                    · clear hJ145
                      refine LE.p (v := (Value.int .i64 r89)) (Wn.no rfl) rfl (R.move f135) ?_
                      refine LE.p (v := (Value.bool (r89 == (0 : Int)))) (Wn.no rfl) rfl (R.eql rfl rfl) ?_
                      refine LE.p (v := (Value.bool (r89 == (0 : Int)))) (Wn.no rfl) rfl (R.move rfl) ?_
                      rcases M.ite_use h with ⟨hb147, h⟩ | ⟨hb147, h⟩
                      · refine LE.p (v := (Value.bool r143)) (Wn.yes 2 119 true rfl rfl rfl (congrArg Value.bool hb147)) rfl (R.move rfl) ?_
                        refine LE.p (v := (Value.bool (!r143))) (Wn.yes 2 119 true rfl rfl rfl (congrArg Value.bool hb147)) rfl (R.not rfl) ?_
                        refine LE.p (v := (Value.bool (!r143))) (Wn.yes 2 119 true rfl rfl rfl (congrArg Value.bool hb147)) rfl (R.move rfl) ?_
                        rcases M.ite_use h with ⟨hb148, h⟩ | ⟨hb148, h⟩
                        · refine LE.u (Un.no 5 122 false rfl rfl rfl (congrArg Value.bool hb148)) ?_
                          refine LE.u (Un.no 5 122 false rfl rfl rfl (congrArg Value.bool hb148)) ?_
                          refine LE.u (Un.no 5 122 false rfl rfl rfl (congrArg Value.bool hb148)) ?_
                          refine LE.u (Un.no 5 122 false rfl rfl rfl (congrArg Value.bool hb148)) ?_
                          refine LE.u (Un.no 5 122 false rfl rfl rfl (congrArg Value.bool hb148)) ?_
                          refine LE.p (v := (Value.bool true)) (Wn.yes 2 119 true rfl rfl rfl (congrArg Value.bool hb147)) rfl (R.pickT (congrArg Value.bool hb148) rfl) ?_
                          refine LE.p (v := (Value.bool true)) (Wn.no rfl) rfl (R.pickT (congrArg Value.bool hb147) rfl) ?_
                          refine LE.p (v := (Value.bool true)) (Wn.no rfl) rfl (R.move rfl) ?_
                          refine LE.u (Un.no 13 130 false rfl rfl rfl rfl) ?_
                          refine LE.u (Un.no 13 130 false rfl rfl rfl rfl) ?_
                          refine LE.u (Un.no 13 130 false rfl rfl rfl rfl) ?_
                          refine LE.u (Un.no 13 130 false rfl rfl rfl rfl) ?_
                          refine LE.p (v := (Value.bool true)) (Wn.no rfl) rfl (R.pickT rfl rfl) ?_
                          refine LE.nil ?_
                          exact ⟨_, h, f129, f130, f131, f132, f133, rfl⟩
                        · refine LE.p (v := (SV.v r142)) (Wn.yes 5 122 false rfl rfl rfl (congrArg Value.bool hb148)) rfl (R.move rfl) ?_
                          refine LE.p (v := (Value.pointer (some (b71.add 2)))) (Wn.yes 5 122 false rfl rfl rfl (congrArg Value.bool hb148)) rfl (R.fld (off := 2) fa35_1 f134) ?_
                          obtain ⟨t149, h150, h⟩ := h
                          refine LE.r (v := (SV.v t149)) (Wn.yes 5 122 false rfl rfl rfl (congrArg Value.bool hb148)) rfl (R.ld sc28 rfl h150) ?_
                          refine LE.c (Wn.yes 5 122 false rfl rfl rfl (congrArg Value.bool hb148)) rfl (R.call bd13 (Ls.cons rfl (Ls.cons rfl Ls.nil)) rfl) (Calls.mono h ?_)
                          rintro _ w152 ⟨r151, rfl, h⟩
                          refine ⟨_, rfl, ?_⟩
                          refine LE.p (v := (Value.bool (!r151))) (Wn.yes 5 122 false rfl rfl rfl (congrArg Value.bool hb148)) rfl (R.not rfl) ?_
                          refine LE.p (v := (Value.bool (!r151))) (Wn.yes 2 119 true rfl rfl rfl (congrArg Value.bool hb147)) rfl (R.pickF (congrArg Value.bool hb148) rfl) ?_
                          refine LE.p (v := (Value.bool (!r151))) (Wn.no rfl) rfl (R.pickT (congrArg Value.bool hb147) rfl) ?_
                          refine LE.p (v := (Value.bool (!r151))) (Wn.no rfl) rfl (R.move rfl) ?_
                          rcases M.ite_use h with ⟨hb153, h⟩ | ⟨hb153, h⟩
                          · refine LE.u (Un.no 13 130 false rfl rfl rfl (congrArg Value.bool hb153)) ?_
                            refine LE.u (Un.no 13 130 false rfl rfl rfl (congrArg Value.bool hb153)) ?_
                            refine LE.u (Un.no 13 130 false rfl rfl rfl (congrArg Value.bool hb153)) ?_
                            refine LE.u (Un.no 13 130 false rfl rfl rfl (congrArg Value.bool hb153)) ?_
                            refine LE.p (v := (Value.bool true)) (Wn.no rfl) rfl (R.pickT (congrArg Value.bool hb153) rfl) ?_
                            refine LE.nil ?_
                            exact ⟨_, h, f129, f130, f131, f132, f133, rfl⟩
                          · refine LE.p (v := (Value.pointer r3)) (Wn.yes 13 130 false rfl rfl rfl (congrArg Value.bool hb153)) rfl (R.move f131) ?_
                            refine LE.c (Wn.yes 13 130 false rfl rfl rfl (congrArg Value.bool hb153)) rfl (R.call bd19 (Ls.cons rfl Ls.nil) rfl) (Calls.mono h ?_)
                            rintro _ w155 ⟨r154, rfl, h⟩
                            refine ⟨_, rfl, ?_⟩
                            refine LE.p (v := (Value.int .i64 r1)) (Wn.yes 13 130 false rfl rfl rfl (congrArg Value.bool hb153)) rfl (R.move f129) ?_
                            refine LE.p (v := (Value.bool (decide (r1 < r154)))) (Wn.yes 13 130 false rfl rfl rfl (congrArg Value.bool hb153)) rfl (R.gtr rfl rfl) ?_
                            refine LE.p (v := (Value.bool (decide (r1 < r154)))) (Wn.no rfl) rfl (R.pickF (congrArg Value.bool hb153) rfl) ?_
                            refine LE.nil ?_
                            exact ⟨_, h, f129, f130, f131, f132, f133, rfl⟩
                      · refine LE.u (Un.no 2 119 true rfl rfl rfl (congrArg Value.bool hb147)) ?_
                        refine LE.u (Un.no 2 119 true rfl rfl rfl (congrArg Value.bool hb147)) ?_
                        refine LE.u (Un.no 2 119 true rfl rfl rfl (congrArg Value.bool hb147)) ?_
                        refine LE.u (Un.un 5 122 false rfl rfl rfl rfl) ?_
                        refine LE.u (Un.un 5 122 false rfl rfl rfl rfl) ?_
                        refine LE.u (Un.un 5 122 false rfl rfl rfl rfl) ?_
                        refine LE.u (Un.un 5 122 false rfl rfl rfl rfl) ?_
                        refine LE.u (Un.un 5 122 false rfl rfl rfl rfl) ?_
                        refine LE.u (Un.no 2 119 true rfl rfl rfl (congrArg Value.bool hb147)) ?_
                        refine LE.p (v := (Value.bool false)) (Wn.no rfl) rfl (R.pickF (congrArg Value.bool hb147) rfl) ?_
                        refine LE.p (v := (Value.bool false)) (Wn.no rfl) rfl (R.move rfl) ?_
                        refine LE.p (v := (Value.pointer r3)) (Wn.yes 13 130 false rfl rfl rfl rfl) rfl (R.move f131) ?_
                        refine LE.c (Wn.yes 13 130 false rfl rfl rfl rfl) rfl (R.call bd19 (Ls.cons rfl Ls.nil) rfl) (Calls.mono h ?_)
                        rintro _ w157 ⟨r156, rfl, h⟩
                        refine ⟨_, rfl, ?_⟩
                        refine LE.p (v := (Value.int .i64 r1)) (Wn.yes 13 130 false rfl rfl rfl rfl) rfl (R.move f129) ?_
                        refine LE.p (v := (Value.bool (decide (r1 < r156)))) (Wn.yes 13 130 false rfl rfl rfl rfl) rfl (R.gtr rfl rfl) ?_
                        refine LE.p (v := (Value.bool (decide (r1 < r156)))) (Wn.no rfl) rfl (R.pickF rfl rfl) ?_
                        refine LE.nil ?_
                        exact ⟨_, h, f129, f130, f131, f132, f133, rfl⟩
                    · rintro e158 w159 ⟨x146, h, f160, f161, f162, f163, f164, f165⟩
                      subst hJ145
                      refine WE.condT rfl (b := x146) f165 ?_ ?_
                      · intro hb166
                        replace h := M.ite_t h hb166
                        refine WE.seq ?_
                        refine WE.reg ?_
                        refine LE.p (v := (Value.bool false)) (Wn.no rfl) rfl (R.assign rfl) ?_
                        refine LE.nil ?_
                        refine WE.ret ?_
                        exact ⟨_, (Res.tmp rfl Res.nil), _, rfl, h⟩
                      · intro hb166
                        replace h := M.ite_f h hb166
                        refine WE.skip ?_
                        refine WE.seq ?_
                        obtain ⟨J167, hJ167, h⟩ := M.join_use h
                        refine WE.regJ (fun e w => ∃ (x168 : Bool), J167 x168 w ∧ e 0 = (Value.int .i64 r1) ∧ e 1 = (SV.v p1) ∧ e 5 = (Value.pointer r3) ∧ e 7 = (Value.int .i64 x16) ∧ e 8 = (Value.pointer (some b53)) ∧ e 143 = (Value.bool x168)) ?_ ?_
                        · clear hJ167
                          refine LE.p (v := (Value.int .i64 x16)) (Wn.no rfl) rfl (R.move f163) ?_
                          refine LE.p (v := (Value.int .i64 (Int.tmod x16 (5 : Int)))) (Wn.no rfl) rfl (R.rem rfl rfl (by decide)) ?_
                          refine LE.p (v := (Value.bool ((Int.tmod x16 (5 : Int)) == (4 : Int)))) (Wn.no rfl) rfl (R.eql rfl rfl) ?_
                          refine LE.p (v := (Value.bool ((Int.tmod x16 (5 : Int)) == (4 : Int)))) (Wn.no rfl) rfl (R.move rfl) ?_
                          rcases M.ite_use h with ⟨hb169, h⟩ | ⟨hb169, h⟩
                          · refine LE.p (v := (Value.pointer r3)) (Wn.yes 3 139 true rfl rfl rfl (congrArg Value.bool hb169)) rfl (R.move f162) ?_
                            refine LE.c (Wn.yes 3 139 true rfl rfl rfl (congrArg Value.bool hb169)) rfl (R.call bd19 (Ls.cons rfl Ls.nil) rfl) (Calls.mono h ?_)
                            rintro _ w171 ⟨r170, rfl, h⟩
                            refine ⟨_, rfl, ?_⟩
                            refine LE.p (v := (Value.bool (decide ((0 : Int) < r170)))) (Wn.yes 3 139 true rfl rfl rfl (congrArg Value.bool hb169)) rfl (R.gtr rfl rfl) ?_
                            refine LE.p (v := (Value.bool (decide ((0 : Int) < r170)))) (Wn.no rfl) rfl (R.pickT (congrArg Value.bool hb169) rfl) ?_
                            refine LE.nil ?_
                            exact ⟨_, h, f160, f161, f162, f163, f164, rfl⟩
                          · refine LE.u (Un.no 3 139 true rfl rfl rfl (congrArg Value.bool hb169)) ?_
                            refine LE.u (Un.no 3 139 true rfl rfl rfl (congrArg Value.bool hb169)) ?_
                            refine LE.u (Un.no 3 139 true rfl rfl rfl (congrArg Value.bool hb169)) ?_
                            refine LE.p (v := (Value.bool false)) (Wn.no rfl) rfl (R.pickF (congrArg Value.bool hb169) rfl) ?_
                            refine LE.nil ?_
                            exact ⟨_, h, f160, f161, f162, f163, f164, rfl⟩
                        · rintro e172 w173 ⟨x168, h, f174, f175, f176, f177, f178, f179⟩
                          subst hJ167
                          refine WE.condT rfl (b := x168) f179 ?_ ?_
                          · intro hb180
                            replace h := M.ite_t h hb180
                            refine WE.seq ?_
                            refine WE.reg ?_
                            refine LE.p (v := (Value.pointer r3)) (Wn.no rfl) rfl (R.move f176) ?_
                            refine LE.c (Wn.no rfl) rfl (R.call bd16 (Ls.cons rfl Ls.nil) rfl) (Calls.mono h ?_)
                            rintro _ w182 ⟨r181, rfl, h⟩
                            refine ⟨_, rfl, ?_⟩
                            refine LE.p (v := (SV.v r181)) (Wn.no rfl) rfl (R.assign rfl) ?_
                            refine LE.nil ?_
                            refine WE.seq ?_
                            refine WE.seq ?_
                            refine WE.reg ?_
                            refine LE.p (v := (SV.v r181)) (Wn.no rfl) rfl (R.move rfl) ?_
                            refine LE.p (v := (Value.int .i64 (r181.len : Int))) (Wn.no rfl) rfl (R.len sl45 rfl) ?_
                            refine LE.p (v := (Value.bool ((r181.len : Int) == (0 : Int)))) (Wn.no rfl) rfl (R.eql rfl rfl) ?_
                            refine LE.nil ?_
                            refine WE.condT rfl (b := ((r181.len : Int) == (0 : Int))) rfl ?_ ?_
                            · intro hb183
                              replace h := M.ite_t h hb183
                              refine WE.seq ?_
                              refine WE.reg ?_
                              refine LE.p (v := (Value.bool false)) (Wn.no rfl) rfl (R.assign rfl) ?_
                              refine LE.nil ?_
                              refine WE.ret ?_
                              exact ⟨_, (Res.tmp rfl Res.nil), _, rfl, h⟩
                            · intro hb183
                              replace h := M.ite_f h hb183
                              refine WE.skip ?_
                              refine WE.seq ?_
                              refine WE.reg ?_
                              refine LE.p (v := (SV.v r181)) (Wn.no rfl) rfl (R.move rfl) ?_
                              refine LE.p (v := (Value.pointer (some (b53.add 1)))) (Wn.no rfl) rfl (R.fld (off := 1) fa30_1 f178) ?_
                              obtain ⟨t184, h185, h⟩ := h
                              refine LE.r (v := (Value.int .i64 t184)) (Wn.no rfl) rfl (R.ld sc3 rfl h185) ?_
                              refine LE.p (v := (SV.v r181)) (Wn.no rfl) rfl (R.move rfl) ?_
                              refine LE.p (v := (Value.int .i64 (r181.len : Int))) (Wn.no rfl) rfl (R.len sl45 rfl) ?_
                              refine LE.p (v := (Value.int .i64 (IntKind.i64.wrap ((r181.len : Int) - (1 : Int))))) (Wn.no rfl) rfl (R.sub rfl rfl) ?_
                              refine LE.c (Wn.no rfl) rfl (R.call bd15 (Ls.cons rfl (Ls.cons rfl (Ls.cons rfl Ls.nil))) rfl) (Calls.mono h ?_)
                              rintro _ w187 ⟨r186, rfl, h⟩
                              refine ⟨_, rfl, ?_⟩
                              obtain ⟨a188, h189, h190, h191, h⟩ := h
                              refine LE.p (v := (Value.pointer (some (a188.add (r186.toNat * 3))))) (Wn.no rfl) rfl (R.idx (s := r181) sl45 rfl rfl h189 h190 h191) ?_
                              refine LE.p (v := (Value.pointer (some (a188.add (r186.toNat * 3))))) (Wn.no rfl) rfl (R.fld (off := 0) fa35_0 rfl) ?_
                              obtain ⟨t192, h193, h⟩ := h
                              obtain ⟨t194, h195, h⟩ := h
                              refine LE.r (v := (Value.agg #[(Value.int .u32 t192), (Value.int .i64 t194)])) (Wn.no rfl) rfl (R.ldA ag33 sz33 rfl rfl (Cs.cons h193 (Cs.cons h195 Cs.nil))) ?_
                              obtain ⟨b197, hpb197, w196, hww196, h⟩ := M.new_use h
                              refine LE.r (v := (Value.pointer (some b197))) (Wn.no rfl) rfl (R.alloc (cs := #[(Value.int .u32 (0 : Int)), (Value.int .i64 (0 : Int))]) ze33 rfl hpb197 hww196) ?_
                              obtain ⟨w198, hww198, h199, h⟩ := M.stA_use h
                              refine LE.s (Wn.no rfl) rfl (R.stA (a := b197) [(Value.int .u32 t192), (Value.int .i64 t194)] sz33 rfl rfl rfl (by simp [Value.oneCell']) h199 hww198) ?_
                              refine LE.nil ?_
                              refine WE.seq ?_
                              obtain ⟨J200, hJ200, h⟩ := M.join_use h
                              refine WE.regJ (fun e w => ∃ (x201 : Bool), J200 x201 w ∧ e 0 = (Value.int .i64 r1) ∧ e 1 = (SV.v p1) ∧ e 5 = (Value.pointer r3) ∧ e 7 = (Value.int .i64 x16) ∧ e 167 = (Value.bool x201)) ?_ ?_
                              · clear hJ200
                                refine LE.p (v := (Value.pointer r3)) (Wn.no rfl) rfl (R.move f176) ?_
                                obtain ⟨t202, h203, h⟩ := h
                                obtain ⟨t204, h205, h⟩ := h
                                refine LE.r (v := (Value.agg #[(Value.int .u32 t202), (Value.int .i64 t204)])) (Wn.no rfl) rfl (R.ldA ag33 sz33 rfl rfl (Cs.cons h203 (Cs.cons h205 Cs.nil))) ?_
                                refine LE.c (Wn.no rfl) rfl (R.call bd20 (Ls.cons rfl (Ls.cons rfl Ls.nil)) rfl) (Calls.mono h ?_)
                                rintro _ w207 ⟨r206, rfl, h⟩
                                refine ⟨_, rfl, ?_⟩
                                refine LE.p (v := (Value.bool (!r206))) (Wn.no rfl) rfl (R.not rfl) ?_
                                refine LE.p (v := (Value.bool (!r206))) (Wn.no rfl) rfl (R.move rfl) ?_
                                rcases M.ite_use h with ⟨hb208, h⟩ | ⟨hb208, h⟩
                                · refine LE.u (Un.no 4 163 false rfl rfl rfl (congrArg Value.bool hb208)) ?_
                                  refine LE.u (Un.no 4 163 false rfl rfl rfl (congrArg Value.bool hb208)) ?_
                                  refine LE.u (Un.no 4 163 false rfl rfl rfl (congrArg Value.bool hb208)) ?_
                                  refine LE.p (v := (Value.bool true)) (Wn.no rfl) rfl (R.pickT (congrArg Value.bool hb208) rfl) ?_
                                  refine LE.nil ?_
                                  exact ⟨_, h, f174, f175, f176, f177, rfl⟩
                                · refine LE.p (v := (Value.pointer r3)) (Wn.yes 4 163 false rfl rfl rfl (congrArg Value.bool hb208)) rfl (R.move f176) ?_
                                  obtain ⟨t209, h210, h⟩ := h
                                  obtain ⟨t211, h212, h⟩ := h
                                  refine LE.r (v := (Value.agg #[(Value.int .u32 t209), (Value.int .i64 t211)])) (Wn.yes 4 163 false rfl rfl rfl (congrArg Value.bool hb208)) rfl (R.ldA ag33 sz33 rfl rfl (Cs.cons h210 (Cs.cons h212 Cs.nil))) ?_
                                  refine LE.c (Wn.yes 4 163 false rfl rfl rfl (congrArg Value.bool hb208)) rfl (R.call bd20 (Ls.cons rfl (Ls.cons rfl Ls.nil)) rfl) (Calls.mono h ?_)
                                  rintro _ w214 ⟨r213, rfl, h⟩
                                  refine ⟨_, rfl, ?_⟩
                                  refine LE.p (v := (Value.bool r213)) (Wn.no rfl) rfl (R.pickF (congrArg Value.bool hb208) rfl) ?_
                                  refine LE.nil ?_
                                  exact ⟨_, h, f174, f175, f176, f177, rfl⟩
                              · rintro e215 w216 ⟨x201, h, f217, f218, f219, f220, f221⟩
                                subst hJ200
                                refine WE.condT rfl (b := x201) f221 ?_ ?_
                                · intro hb222
                                  replace h := M.ite_t h hb222
                                  refine WE.seq ?_
                                  refine WE.reg ?_
                                  refine LE.p (v := (Value.bool false)) (Wn.no rfl) rfl (R.assign rfl) ?_
                                  refine LE.nil ?_
                                  refine WE.ret ?_
                                  exact ⟨_, (Res.tmp rfl Res.nil), _, rfl, h⟩
                                · intro hb222
                                  replace h := M.ite_f h hb222
                                  refine WE.skip ?_
                                  exact ⟨h, f217, f218, f219, f220⟩
                          · intro hb180
                            replace h := M.ite_f h hb180
                            refine WE.skip ?_
                            exact ⟨h, f174, f175, f176, f177⟩
          · rintro e223 w224 ⟨h, f225, f226, f227, f228⟩
            subst hJ40
            refine WE.reg ?_
            refine LE.p (v := (Value.int .i64 x16)) (Wn.no rfl) rfl (R.move f228) ?_
            refine LE.p (v := (Value.int .i64 (IntKind.i64.wrap (x16 + (1 : Int))))) (Wn.no rfl) rfl (R.add rfl rfl) ?_
            refine LE.p (v := (Value.int .i64 (IntKind.i64.wrap (x16 + (1 : Int))))) (Wn.no rfl) rfl (R.assign rfl) ?_
            refine LE.nil ?_
            obtain ⟨m23, hm24, h⟩ := h
            exact ⟨m23, hm24, _, h, f225, f226, f227, rfl⟩
        · intro hb39
          replace h := M.ite_f h hb39
          refine WE.exit ?_
          refine WE.seq ?_
          refine WE.reg ?_
          refine LE.c (Wn.no rfl) rfl (R.call bd14 Ls.nil rfl) (Calls.mono h ?_)
          rintro _ w230 ⟨r229, rfl, h⟩
          refine ⟨_, rfl, ?_⟩
          refine LE.p (v := (Value.bool r229)) (Wn.no rfl) rfl (R.assign rfl) ?_
          refine LE.nil ?_
          refine WE.ret ?_
          exact ⟨_, (Res.tmp rfl Res.nil), _, rfl, h⟩
/-- The formula of signpost.signpostlaw25.FibNumbers. -/
def F5  (K : Bool → World → Prop) (w0 : World) : Prop :=
Calls Try.prog 7 #[(Value.int .i64 (-1 : Int))] w0 (R7 fun r1 r2 w3 =>
Calls Try.prog 7 #[(Value.int .i64 (4097 : Int))] w3 (R7 fun r4 r5 w6 =>
Calls Try.prog 7 #[(Value.int .i64 (4096 : Int))] w6 (R7 fun r7 r8 w9 =>
Calls Try.prog 7 #[(Value.int .i64 (0 : Int))] w9 (R7 fun r10 r11 w12 =>
M.join (fun (x14 : Bool) (w17 : World) => 
M.ite x14 (
K false w17) (
M.new (.cells #[(SV.v SV.nil), (Value.int .i64 (0 : Int)), (Value.int .i64 (0 : Int))] 53) w17 fun b25 w24 =>
M.new (.cells #[(Value.int .i64 (7 : Int)), (Value.int .i64 (16 : Int))] 55) w24 fun b28 w26 =>
M.new (.cells #[(Value.int .i64 (7 : Int)), (Value.int .i64 (17 : Int))] 55) w26 fun b31 w29 =>
M.new (.cells #[(Value.int .i64 (1 : Int)), (Value.int .i64 (0 : Int)), (Value.int .i64 (0 : Int)), (Value.int .u32 (0 : Int)), (SV.v SV.nil), (Value.bool false), (Value.int .i64 (3 : Int)), (Value.int .i64 (2 : Int)), (Value.int .i64 (0 : Int)), (Value.int .u32 (0 : Int)), (SV.v SV.nil), (Value.bool false), (Value.int .i64 (1 : Int)), (Value.int .i64 (0 : Int)), (Value.int .i64 (0 : Int)), (Value.int .u32 (0 : Int)), (SV.v SV.nil), (Value.bool false), (Value.int .i64 (1 : Int)), (Value.int .i64 (0 : Int)), (Value.int .i64 (0 : Int)), (Value.int .u32 (1 : Int)), (SV.v SV.nil), (Value.bool false), (Value.int .i64 (1 : Int)), (Value.int .i64 (0 : Int)), (Value.int .i64 (1 : Int)), (Value.int .u32 (0 : Int)), (SV.v SV.nil), (Value.bool false), (Value.int .i64 (1 : Int)), (Value.int .i64 (0 : Int)), (Value.int .i64 (2 : Int)), (Value.int .u32 (0 : Int)), (SV.v SV.nil), (Value.bool false), (Value.int .i64 (3 : Int)), (Value.int .i64 (-5 : Int)), (Value.int .i64 (0 : Int)), (Value.int .u32 (0 : Int)), (SV.v SV.nil), (Value.bool false), (Value.int .i64 (1 : Int)), (Value.int .i64 (0 : Int)), (Value.int .i64 (1 : Int)), (Value.int .u32 (0 : Int)), (SV.v (SV.mk (some b28) 1 1)), (Value.bool false), (Value.int .i64 (1 : Int)), (Value.int .i64 (0 : Int)), (Value.int .i64 (1 : Int)), (Value.int .u32 (0 : Int)), (SV.v (SV.mk (some b31) 1 1)), (Value.bool false), (Value.int .i64 (2 : Int)), (Value.int .i64 (0 : Int)), (Value.int .i64 (3 : Int)), (Value.int .u32 (0 : Int)), (SV.v SV.nil), (Value.bool false), (Value.int .i64 (2 : Int)), (Value.int .i64 (0 : Int)), (Value.int .i64 (1 : Int)), (Value.int .u32 (0 : Int)), (SV.v SV.nil), (Value.bool false), (Value.int .i64 (2 : Int)), (Value.int .i64 (0 : Int)), (Value.int .i64 (1 : Int)), (Value.int .u32 (0 : Int)), (SV.v SV.nil), (Value.bool false), (Value.int .i64 (1 : Int)), (Value.int .i64 (0 : Int)), (Value.int .i64 (1 : Int)), (Value.int .u32 (0 : Int)), (SV.v SV.nil), (Value.bool false), (Value.int .i64 (3 : Int)), (Value.int .i64 (9999 : Int)), (Value.int .i64 (0 : Int)), (Value.int .u32 (0 : Int)), (SV.v SV.nil), (Value.bool false), (Value.int .i64 (1 : Int)), (Value.int .i64 (0 : Int)), (Value.int .i64 (32 : Int)), (Value.int .u32 (0 : Int)), (SV.v SV.nil), (Value.bool false), (Value.int .i64 (1 : Int)), (Value.int .i64 (0 : Int)), (Value.int .i64 (33 : Int)), (Value.int .u32 (0 : Int)), (SV.v SV.nil), (Value.bool false), (Value.int .i64 (1 : Int)), (Value.int .i64 (0 : Int)), (Value.int .i64 (32 : Int)), (Value.int .u32 (0 : Int)), (SV.v SV.nil), (Value.bool false)] 30) w29 fun b34 w32 =>
M.loop1 (fun (J36 : Int → World → Prop) (x35 : Int) (w37 : World) => 
M.ite (decide (x35 < ((SV.mk (some b34) 17 17).len : Int))) (
M.idx (SV.mk (some b34) 17 17) x35 6 fun a53 =>
∃ (t57 : Int) (t58 : Int) (t59 : Int) (t60 : Int) (t61 : SV) (t62 : Bool), Cs w37 (a53.add (x35.toNat * 6)) 0 [(Value.int .i64 t57), (Value.int .i64 t58), (Value.int .i64 t59), (Value.int .u32 t60), (SV.v t61), (Value.bool t62)] ∧
M.new (.cells #[(Value.int .i64 (0 : Int)), (Value.int .i64 (0 : Int)), (Value.int .i64 (0 : Int)), (Value.int .u32 (0 : Int)), (SV.v SV.nil), (Value.bool false)] 30) w37 fun b65 w64 =>
M.stA b65 [(Value.int .i64 t57), (Value.int .i64 t58), (Value.int .i64 t59), (Value.int .u32 t60), (SV.v t61), (Value.bool t62)] w64 fun w66 =>
M.join (fun (x69 : Bool) (w83 : World) => 
M.ite x69 (
K false w83) (
J36 (IntKind.i64.wrap (x35 + (1 : Int))) w83)) fun J68 => 
∃ (t70 : Int) (t71 : Int) (t72 : Int) (t73 : Int) (t74 : SV) (t75 : Bool), Cs w66 b65 0 [(Value.int .i64 t70), (Value.int .i64 t71), (Value.int .i64 t72), (Value.int .u32 t73), (SV.v t74), (Value.bool t75)] ∧
Calls Try.prog 21 #[(Value.pointer r10), (Value.pointer (some b25)), (Value.agg #[(Value.int .i64 t70), (Value.int .i64 t71), (Value.int .i64 t72), (Value.int .u32 t73), (SV.v t74), (Value.bool t75)])] w66 (R21 fun r77 w78 =>
M.ite (!r77) (
J68 true w78) (
Calls Try.prog 22 #[(Value.pointer r10), (Value.pointer (some b25))] w78 (R22 fun r80 w81 =>
J68 (!r80) w81)))) (
M.join (fun (x95 : Bool) (w102 : World) => 
K x95 w102) fun J94 => 
M.ite (r2 == (1 : Int)) (
M.ite (r5 == (1 : Int)) (
M.ite (r8 == (0 : Int)) (
Calls Try.prog 14 #[] w37 (R14 fun r99 w100 =>
J94 r99 w100)) (
J94 false w37)) (
J94 false w37)) (
J94 false w37))) (0 : Int) w32)) fun J13 => 
M.ite (Option.isNone r10) (
J13 true w12) (
J13 (r11 != (0 : Int)) w12)))))
theorem F5_ok {w0 : World}  {K : Bool → World → Prop} (h : F5 K w0) : Calls Try.prog 5 #[] w0 (R5 K) := by
  refine calls_of_WE (args := []) (rs := [.tmp 0]) Try.func5 rfl (N := 88) rfl rfl rfl rfl ?_
  refine WE.seq ?_
  refine WE.reg ?_
  refine LE.p (v := (Value.bool false)) (Wn.no rfl) rfl (R.assign rfl) ?_
  refine LE.nil ?_
  refine WE.seq ?_
  refine WE.reg ?_
  refine LE.c (Wn.no rfl) rfl (R.call bd7 (Ls.cons rfl Ls.nil) rfl) (Calls.mono h ?_)
  rintro _ w3 ⟨r1, r2, rfl, h⟩
  refine ⟨_, rfl, ?_⟩
  refine LE.p (v := (Value.tuple #[(Value.pointer r1), (Value.int .i64 r2)])) (Wn.no rfl) rfl (R.move rfl) ?_
  refine LE.p (v := (Value.pointer r1)) (Wn.no rfl) rfl (R.ext rfl rfl) ?_
  refine LE.p (v := (Value.int .i64 r2)) (Wn.no rfl) rfl (R.ext rfl rfl) ?_
  refine LE.p (v := (Value.pointer r1)) (Wn.no rfl) rfl (R.assign rfl) ?_
  refine LE.p (v := (Value.int .i64 r2)) (Wn.no rfl) rfl (R.assign rfl) ?_
  refine LE.nil ?_
  refine WE.seq ?_
  refine WE.reg ?_
  refine LE.c (Wn.no rfl) rfl (R.call bd7 (Ls.cons rfl Ls.nil) rfl) (Calls.mono h ?_)
  rintro _ w6 ⟨r4, r5, rfl, h⟩
  refine ⟨_, rfl, ?_⟩
  refine LE.p (v := (Value.tuple #[(Value.pointer r4), (Value.int .i64 r5)])) (Wn.no rfl) rfl (R.move rfl) ?_
  refine LE.p (v := (Value.pointer r4)) (Wn.no rfl) rfl (R.ext rfl rfl) ?_
  refine LE.p (v := (Value.int .i64 r5)) (Wn.no rfl) rfl (R.ext rfl rfl) ?_
  refine LE.p (v := (Value.pointer r4)) (Wn.no rfl) rfl (R.assign rfl) ?_
  refine LE.p (v := (Value.int .i64 r5)) (Wn.no rfl) rfl (R.assign rfl) ?_
  refine LE.nil ?_
  refine WE.seq ?_
  refine WE.reg ?_
  refine LE.c (Wn.no rfl) rfl (R.call bd7 (Ls.cons rfl Ls.nil) rfl) (Calls.mono h ?_)
  rintro _ w9 ⟨r7, r8, rfl, h⟩
  refine ⟨_, rfl, ?_⟩
  refine LE.p (v := (Value.tuple #[(Value.pointer r7), (Value.int .i64 r8)])) (Wn.no rfl) rfl (R.move rfl) ?_
  refine LE.p (v := (Value.pointer r7)) (Wn.no rfl) rfl (R.ext rfl rfl) ?_
  refine LE.p (v := (Value.int .i64 r8)) (Wn.no rfl) rfl (R.ext rfl rfl) ?_
  refine LE.p (v := (Value.pointer r7)) (Wn.no rfl) rfl (R.assign rfl) ?_
  refine LE.p (v := (Value.int .i64 r8)) (Wn.no rfl) rfl (R.assign rfl) ?_
  refine LE.nil ?_
  refine WE.seq ?_
  refine WE.reg ?_
  refine LE.c (Wn.no rfl) rfl (R.call bd7 (Ls.cons rfl Ls.nil) rfl) (Calls.mono h ?_)
  rintro _ w12 ⟨r10, r11, rfl, h⟩
  refine ⟨_, rfl, ?_⟩
  refine LE.p (v := (Value.tuple #[(Value.pointer r10), (Value.int .i64 r11)])) (Wn.no rfl) rfl (R.move rfl) ?_
  refine LE.p (v := (Value.pointer r10)) (Wn.no rfl) rfl (R.ext rfl rfl) ?_
  refine LE.p (v := (Value.int .i64 r11)) (Wn.no rfl) rfl (R.ext rfl rfl) ?_
  refine LE.p (v := (Value.pointer r10)) (Wn.no rfl) rfl (R.assign rfl) ?_
  refine LE.p (v := (Value.int .i64 r11)) (Wn.no rfl) rfl (R.assign rfl) ?_
  refine LE.nil ?_
  refine WE.seq ?_
  refine WE.seq ?_
  obtain ⟨J13, hJ13, h⟩ := M.join_use h
  refine WE.regJ (fun e w => ∃ (x14 : Bool), J13 x14 w ∧ e 2 = (Value.int .i64 r2) ∧ e 4 = (Value.int .i64 r5) ∧ e 6 = (Value.int .i64 r8) ∧ e 7 = (Value.pointer r10) ∧ e 33 = (Value.bool x14)) ?_ ?_
  · clear hJ13
    refine LE.p (v := (Value.pointer r10)) (Wn.no rfl) rfl (R.move rfl) ?_
    refine LE.p (v := (Value.bool (Option.isNone r10))) (Wn.no rfl) rfl (R.peqNil pt24 rfl rfl) ?_
    refine LE.p (v := (Value.bool (Option.isNone r10))) (Wn.no rfl) rfl (R.move rfl) ?_
    rcases M.ite_use h with ⟨hb15, h⟩ | ⟨hb15, h⟩
    · refine LE.u (Un.no 2 30 false rfl rfl rfl (congrArg Value.bool hb15)) ?_
      refine LE.u (Un.no 2 30 false rfl rfl rfl (congrArg Value.bool hb15)) ?_
      refine LE.p (v := (Value.bool true)) (Wn.no rfl) rfl (R.pickT (congrArg Value.bool hb15) rfl) ?_
      refine LE.nil ?_
      exact ⟨_, h, rfl, rfl, rfl, rfl, rfl⟩
    · refine LE.p (v := (Value.int .i64 r11)) (Wn.yes 2 30 false rfl rfl rfl (congrArg Value.bool hb15)) rfl (R.move rfl) ?_
      refine LE.p (v := (Value.bool (r11 != (0 : Int)))) (Wn.yes 2 30 false rfl rfl rfl (congrArg Value.bool hb15)) rfl (R.neq rfl rfl) ?_
      refine LE.p (v := (Value.bool (r11 != (0 : Int)))) (Wn.no rfl) rfl (R.pickF (congrArg Value.bool hb15) rfl) ?_
      refine LE.nil ?_
      exact ⟨_, h, rfl, rfl, rfl, rfl, rfl⟩
  · rintro e16 w17 ⟨x14, h, f18, f19, f20, f21, f22⟩
    subst hJ13
    refine WE.condT rfl (b := x14) f22 ?_ ?_
    · intro hb23
      replace h := M.ite_t h hb23
      refine WE.seq ?_
      refine WE.reg ?_
      refine LE.p (v := (Value.bool false)) (Wn.no rfl) rfl (R.assign rfl) ?_
      refine LE.nil ?_
      refine WE.ret ?_
      exact ⟨_, (Res.tmp rfl Res.nil), _, rfl, h⟩
    · intro hb23
      replace h := M.ite_f h hb23
      refine WE.skip ?_
      refine WE.seq ?_
      refine WE.reg ?_
      refine LE.p (v := (Value.agg #[(SV.v SV.nil), (Value.int .i64 (0 : Int)), (Value.int .i64 (0 : Int))])) (Wn.no rfl) rfl (R.bld (by exact Ls.nil) (fun w => bu53_  w)) ?_
      obtain ⟨b25, hpb25, w24, hww24, h⟩ := M.new_use h
      refine LE.r (v := (Value.pointer (some b25))) (Wn.no rfl) rfl (R.box (cs := #[(SV.v SV.nil), (Value.int .i64 (0 : Int)), (Value.int .i64 (0 : Int))]) rfl rfl hpb25 hww24) ?_
      refine LE.p (v := (Value.pointer (some b25))) (Wn.no rfl) rfl (R.assign rfl) ?_
      refine LE.nil ?_
      refine WE.seq ?_
      refine WE.seq ?_
      refine WE.reg ?_
      refine LE.p (v := (Value.agg #[(Value.int .i64 (1 : Int)), (Value.int .i64 (0 : Int)), (Value.int .i64 (0 : Int)), (Value.int .u32 (0 : Int)), (SV.v SV.nil), (Value.bool false)])) (Wn.no rfl) rfl (R.bld (by exact (Ls.cons (R.Pr rfl) Ls.nil)) (fun w => bu30_0 (1 : Int) w)) ?_
      refine LE.p (v := (Value.agg #[(Value.int .i64 (3 : Int)), (Value.int .i64 (2 : Int)), (Value.int .i64 (0 : Int)), (Value.int .u32 (0 : Int)), (SV.v SV.nil), (Value.bool false)])) (Wn.no rfl) rfl (R.bld (by exact (Ls.cons (R.Pr rfl) (Ls.cons (R.Pr rfl) Ls.nil))) (fun w => bu30_0_1 (3 : Int) (2 : Int) w)) ?_
      refine LE.p (v := (Value.agg #[(Value.int .i64 (1 : Int)), (Value.int .i64 (0 : Int)), (Value.int .i64 (0 : Int)), (Value.int .u32 (0 : Int)), (SV.v SV.nil), (Value.bool false)])) (Wn.no rfl) rfl (R.bld (by exact (Ls.cons (R.Pr rfl) Ls.nil)) (fun w => bu30_0 (1 : Int) w)) ?_
      refine LE.p (v := (Value.agg #[(Value.int .i64 (1 : Int)), (Value.int .i64 (0 : Int)), (Value.int .i64 (0 : Int)), (Value.int .u32 (1 : Int)), (SV.v SV.nil), (Value.bool false)])) (Wn.no rfl) rfl (R.bld (by exact (Ls.cons (R.Pr rfl) (Ls.cons (R.Pr rfl) Ls.nil))) (fun w => bu30_0_3 (1 : Int) (1 : Int) w)) ?_
      refine LE.p (v := (Value.agg #[(Value.int .i64 (1 : Int)), (Value.int .i64 (0 : Int)), (Value.int .i64 (1 : Int)), (Value.int .u32 (0 : Int)), (SV.v SV.nil), (Value.bool false)])) (Wn.no rfl) rfl (R.bld (by exact (Ls.cons (R.Pr rfl) (Ls.cons (R.Pr rfl) Ls.nil))) (fun w => bu30_0_2 (1 : Int) (1 : Int) w)) ?_
      refine LE.p (v := (Value.agg #[(Value.int .i64 (1 : Int)), (Value.int .i64 (0 : Int)), (Value.int .i64 (2 : Int)), (Value.int .u32 (0 : Int)), (SV.v SV.nil), (Value.bool false)])) (Wn.no rfl) rfl (R.bld (by exact (Ls.cons (R.Pr rfl) (Ls.cons (R.Pr rfl) Ls.nil))) (fun w => bu30_0_2 (1 : Int) (2 : Int) w)) ?_
      refine LE.p (v := (Value.agg #[(Value.int .i64 (3 : Int)), (Value.int .i64 (-5 : Int)), (Value.int .i64 (0 : Int)), (Value.int .u32 (0 : Int)), (SV.v SV.nil), (Value.bool false)])) (Wn.no rfl) rfl (R.bld (by exact (Ls.cons (R.Pr rfl) (Ls.cons (R.Pr rfl) Ls.nil))) (fun w => bu30_0_1 (3 : Int) (-5 : Int) w)) ?_
      refine LE.p (v := (Value.agg #[(Value.int .i64 (7 : Int)), (Value.int .i64 (16 : Int))])) (Wn.no rfl) rfl (R.bld (by exact (Ls.cons (R.Pr rfl) (Ls.cons (R.Pr rfl) Ls.nil))) (fun w => bu55_0_1 (7 : Int) (16 : Int) w)) ?_
      obtain ⟨b28, hpb28, w26, hww26, h⟩ := M.new_use h
      refine LE.r (v := (SV.v (SV.mk (some b28) 1 1))) (Wn.no rfl) rfl (R.bsl (by exact (Ls.cons (R.Pr rfl) Ls.nil)) (fun w => bs28_1 (7 : Int) (16 : Int) w) hpb28 hww26) ?_
      refine LE.p (v := (Value.agg #[(Value.int .i64 (1 : Int)), (Value.int .i64 (0 : Int)), (Value.int .i64 (1 : Int)), (Value.int .u32 (0 : Int)), (SV.v (SV.mk (some b28) 1 1)), (Value.bool false)])) (Wn.no rfl) rfl (R.bld (by exact (Ls.cons (R.Pr rfl) (Ls.cons (R.Pr rfl) (Ls.cons (R.Pr rfl) Ls.nil)))) (fun w => bu30_0_2_4 (1 : Int) (1 : Int) (SV.mk (some b28) 1 1) w)) ?_
      refine LE.p (v := (Value.agg #[(Value.int .i64 (7 : Int)), (Value.int .i64 (17 : Int))])) (Wn.no rfl) rfl (R.bld (by exact (Ls.cons (R.Pr rfl) (Ls.cons (R.Pr rfl) Ls.nil))) (fun w => bu55_0_1 (7 : Int) (17 : Int) w)) ?_
      obtain ⟨b31, hpb31, w29, hww29, h⟩ := M.new_use h
      refine LE.r (v := (SV.v (SV.mk (some b31) 1 1))) (Wn.no rfl) rfl (R.bsl (by exact (Ls.cons (R.Pr rfl) Ls.nil)) (fun w => bs28_1 (7 : Int) (17 : Int) w) hpb31 hww29) ?_
      refine LE.p (v := (Value.agg #[(Value.int .i64 (1 : Int)), (Value.int .i64 (0 : Int)), (Value.int .i64 (1 : Int)), (Value.int .u32 (0 : Int)), (SV.v (SV.mk (some b31) 1 1)), (Value.bool false)])) (Wn.no rfl) rfl (R.bld (by exact (Ls.cons (R.Pr rfl) (Ls.cons (R.Pr rfl) (Ls.cons (R.Pr rfl) Ls.nil)))) (fun w => bu30_0_2_4 (1 : Int) (1 : Int) (SV.mk (some b31) 1 1) w)) ?_
      refine LE.p (v := (Value.agg #[(Value.int .i64 (2 : Int)), (Value.int .i64 (0 : Int)), (Value.int .i64 (3 : Int)), (Value.int .u32 (0 : Int)), (SV.v SV.nil), (Value.bool false)])) (Wn.no rfl) rfl (R.bld (by exact (Ls.cons (R.Pr rfl) (Ls.cons (R.Pr rfl) Ls.nil))) (fun w => bu30_0_2 (2 : Int) (3 : Int) w)) ?_
      refine LE.p (v := (Value.agg #[(Value.int .i64 (2 : Int)), (Value.int .i64 (0 : Int)), (Value.int .i64 (1 : Int)), (Value.int .u32 (0 : Int)), (SV.v SV.nil), (Value.bool false)])) (Wn.no rfl) rfl (R.bld (by exact (Ls.cons (R.Pr rfl) (Ls.cons (R.Pr rfl) Ls.nil))) (fun w => bu30_0_2 (2 : Int) (1 : Int) w)) ?_
      refine LE.p (v := (Value.agg #[(Value.int .i64 (2 : Int)), (Value.int .i64 (0 : Int)), (Value.int .i64 (1 : Int)), (Value.int .u32 (0 : Int)), (SV.v SV.nil), (Value.bool false)])) (Wn.no rfl) rfl (R.bld (by exact (Ls.cons (R.Pr rfl) (Ls.cons (R.Pr rfl) Ls.nil))) (fun w => bu30_0_2 (2 : Int) (1 : Int) w)) ?_
      refine LE.p (v := (Value.agg #[(Value.int .i64 (1 : Int)), (Value.int .i64 (0 : Int)), (Value.int .i64 (1 : Int)), (Value.int .u32 (0 : Int)), (SV.v SV.nil), (Value.bool false)])) (Wn.no rfl) rfl (R.bld (by exact (Ls.cons (R.Pr rfl) (Ls.cons (R.Pr rfl) Ls.nil))) (fun w => bu30_0_2 (1 : Int) (1 : Int) w)) ?_
      refine LE.p (v := (Value.agg #[(Value.int .i64 (3 : Int)), (Value.int .i64 (9999 : Int)), (Value.int .i64 (0 : Int)), (Value.int .u32 (0 : Int)), (SV.v SV.nil), (Value.bool false)])) (Wn.no rfl) rfl (R.bld (by exact (Ls.cons (R.Pr rfl) (Ls.cons (R.Pr rfl) Ls.nil))) (fun w => bu30_0_1 (3 : Int) (9999 : Int) w)) ?_
      refine LE.p (v := (Value.agg #[(Value.int .i64 (1 : Int)), (Value.int .i64 (0 : Int)), (Value.int .i64 (32 : Int)), (Value.int .u32 (0 : Int)), (SV.v SV.nil), (Value.bool false)])) (Wn.no rfl) rfl (R.bld (by exact (Ls.cons (R.Pr rfl) (Ls.cons (R.Pr rfl) Ls.nil))) (fun w => bu30_0_2 (1 : Int) (32 : Int) w)) ?_
      refine LE.p (v := (Value.agg #[(Value.int .i64 (1 : Int)), (Value.int .i64 (0 : Int)), (Value.int .i64 (33 : Int)), (Value.int .u32 (0 : Int)), (SV.v SV.nil), (Value.bool false)])) (Wn.no rfl) rfl (R.bld (by exact (Ls.cons (R.Pr rfl) (Ls.cons (R.Pr rfl) Ls.nil))) (fun w => bu30_0_2 (1 : Int) (33 : Int) w)) ?_
      refine LE.p (v := (Value.agg #[(Value.int .i64 (1 : Int)), (Value.int .i64 (0 : Int)), (Value.int .i64 (32 : Int)), (Value.int .u32 (0 : Int)), (SV.v SV.nil), (Value.bool false)])) (Wn.no rfl) rfl (R.bld (by exact (Ls.cons (R.Pr rfl) (Ls.cons (R.Pr rfl) Ls.nil))) (fun w => bu30_0_2 (1 : Int) (32 : Int) w)) ?_
      obtain ⟨b34, hpb34, w32, hww32, h⟩ := M.new_use h
      refine LE.r (v := (SV.v (SV.mk (some b34) 17 17))) (Wn.no rfl) rfl (R.bsl (by exact (Ls.cons (R.Pr rfl) (Ls.cons (R.Pr rfl) (Ls.cons (R.Pr rfl) (Ls.cons (R.Pr rfl) (Ls.cons (R.Pr rfl) (Ls.cons (R.Pr rfl) (Ls.cons (R.Pr rfl) (Ls.cons (R.Pr rfl) (Ls.cons (R.Pr rfl) (Ls.cons (R.Pr rfl) (Ls.cons (R.Pr rfl) (Ls.cons (R.Pr rfl) (Ls.cons (R.Pr rfl) (Ls.cons (R.Pr rfl) (Ls.cons (R.Pr rfl) (Ls.cons (R.Pr rfl) (Ls.cons (R.Pr rfl) Ls.nil)))))))))))))))))) (fun w => bs22_17 (1 : Int) (0 : Int) (0 : Int) (0 : Int) SV.nil false (3 : Int) (2 : Int) (0 : Int) (0 : Int) SV.nil false (1 : Int) (0 : Int) (0 : Int) (0 : Int) SV.nil false (1 : Int) (0 : Int) (0 : Int) (1 : Int) SV.nil false (1 : Int) (0 : Int) (1 : Int) (0 : Int) SV.nil false (1 : Int) (0 : Int) (2 : Int) (0 : Int) SV.nil false (3 : Int) (-5 : Int) (0 : Int) (0 : Int) SV.nil false (1 : Int) (0 : Int) (1 : Int) (0 : Int) (SV.mk (some b28) 1 1) false (1 : Int) (0 : Int) (1 : Int) (0 : Int) (SV.mk (some b31) 1 1) false (2 : Int) (0 : Int) (3 : Int) (0 : Int) SV.nil false (2 : Int) (0 : Int) (1 : Int) (0 : Int) SV.nil false (2 : Int) (0 : Int) (1 : Int) (0 : Int) SV.nil false (1 : Int) (0 : Int) (1 : Int) (0 : Int) SV.nil false (3 : Int) (9999 : Int) (0 : Int) (0 : Int) SV.nil false (1 : Int) (0 : Int) (32 : Int) (0 : Int) SV.nil false (1 : Int) (0 : Int) (33 : Int) (0 : Int) SV.nil false (1 : Int) (0 : Int) (32 : Int) (0 : Int) SV.nil false w) hpb34 hww32) ?_
      refine LE.p (v := (Value.int .i64 ((SV.mk (some b34) 17 17).len : Int))) (Wn.no rfl) rfl (R.len sl22 rfl) ?_
      refine LE.p (v := (Value.int .i64 (0 : Int))) (Wn.no rfl) rfl (R.move rfl) ?_
      refine LE.nil ?_
      refine WE.block ?_
      obtain ⟨I40, ⟨n39, h⟩, hr41⟩ := h
      refine WE.loop (fun n e w => ∃ (x35 : Int), I40 n x35 w ∧ e 2 = (Value.int .i64 r2) ∧ e 4 = (Value.int .i64 r5) ∧ e 6 = (Value.int .i64 r8) ∧ e 7 = (Value.pointer r10) ∧ e 9 = (Value.pointer (some b25)) ∧ e 57 = (SV.v (SV.mk (some b34) 17 17)) ∧ e 58 = (Value.int .i64 ((SV.mk (some b34) 17 17).len : Int)) ∧ e 59 = (Value.int .i64 x35)) n39 ⟨_, h, f18, f19, f20, f21, rfl, rfl, rfl, rfl⟩ ?_
      clear h
      rintro n39 e38 w37 ⟨x35, h, f44, f45, f46, f47, f48, f49, f50, f51⟩
      replace h := hr41 n39 x35 w37 h
      refine WE.seq ?_
      refine WE.reg ?_
      refine LE.p (v := (Value.bool (decide (x35 < ((SV.mk (some b34) 17 17).len : Int))))) (Wn.no rfl) rfl (R.lss f51 f50) ?_
      refine LE.nil ?_
      refine WE.seq ?_
      refine WE.condT rfl (b := (decide (x35 < ((SV.mk (some b34) 17 17).len : Int)))) rfl ?_ ?_
      · intro hb52
        replace h := M.ite_t h hb52
        refine WE.skip ?_
        refine WE.seq ?_
        refine WE.block ?_
        refine WE.seq ?_
        refine WE.reg ?_
        obtain ⟨a53, h54, h55, h56, h⟩ := h
        refine LE.p (v := (Value.pointer (some (a53.add (x35.toNat * 6))))) (Wn.no rfl) rfl (R.idx (s := (SV.mk (some b34) 17 17)) sl22 f49 f51 h54 h55 h56) ?_
        obtain ⟨t57, t58, t59, t60, t61, t62, h63, h⟩ := h
        refine LE.r (v := (Value.agg #[(Value.int .i64 t57), (Value.int .i64 t58), (Value.int .i64 t59), (Value.int .u32 t60), (SV.v t61), (Value.bool t62)])) (Wn.no rfl) rfl (R.ldA ag30 sz30 rfl rfl h63) ?_
        obtain ⟨b65, hpb65, w64, hww64, h⟩ := M.new_use h
        refine LE.r (v := (Value.pointer (some b65))) (Wn.no rfl) rfl (R.alloc (cs := #[(Value.int .i64 (0 : Int)), (Value.int .i64 (0 : Int)), (Value.int .i64 (0 : Int)), (Value.int .u32 (0 : Int)), (SV.v SV.nil), (Value.bool false)]) ze30 rfl hpb65 hww64) ?_
        obtain ⟨w66, hww66, h67, h⟩ := M.stA_use h
        refine LE.s (Wn.no rfl) rfl (R.stA (a := b65) [(Value.int .i64 t57), (Value.int .i64 t58), (Value.int .i64 t59), (Value.int .u32 t60), (SV.v t61), (Value.bool t62)] sz30 rfl rfl rfl (by simp [Value.oneCell']) h67 hww66) ?_
        refine LE.nil ?_
        refine WE.seq ?_
        obtain ⟨J68, hJ68, h⟩ := M.join_use h
        refine WE.regJ (fun e w => ∃ (x69 : Bool), J68 x69 w ∧ e 2 = (Value.int .i64 r2) ∧ e 4 = (Value.int .i64 r5) ∧ e 6 = (Value.int .i64 r8) ∧ e 7 = (Value.pointer r10) ∧ e 9 = (Value.pointer (some b25)) ∧ e 57 = (SV.v (SV.mk (some b34) 17 17)) ∧ e 58 = (Value.int .i64 ((SV.mk (some b34) 17 17).len : Int)) ∧ e 59 = (Value.int .i64 x35) ∧ e 73 = (Value.bool x69)) ?_ ?_
        · clear hJ68
          refine LE.p (v := (Value.pointer r10)) (Wn.no rfl) rfl (R.move f47) ?_
          refine LE.p (v := (Value.pointer (some b25))) (Wn.no rfl) rfl (R.move f48) ?_
          obtain ⟨t70, t71, t72, t73, t74, t75, h76, h⟩ := h
          refine LE.r (v := (Value.agg #[(Value.int .i64 t70), (Value.int .i64 t71), (Value.int .i64 t72), (Value.int .u32 t73), (SV.v t74), (Value.bool t75)])) (Wn.no rfl) rfl (R.ldA ag30 sz30 rfl rfl h76) ?_
          refine LE.c (Wn.no rfl) rfl (R.call bd21 (Ls.cons rfl (Ls.cons rfl (Ls.cons rfl Ls.nil))) rfl) (Calls.mono h ?_)
          rintro _ w78 ⟨r77, rfl, h⟩
          refine ⟨_, rfl, ?_⟩
          refine LE.p (v := (Value.bool (!r77))) (Wn.no rfl) rfl (R.not rfl) ?_
          refine LE.p (v := (Value.bool (!r77))) (Wn.no rfl) rfl (R.move rfl) ?_
          rcases M.ite_use h with ⟨hb79, h⟩ | ⟨hb79, h⟩
          · refine LE.u (Un.no 5 68 false rfl rfl rfl (congrArg Value.bool hb79)) ?_
            refine LE.u (Un.no 5 68 false rfl rfl rfl (congrArg Value.bool hb79)) ?_
            refine LE.u (Un.no 5 68 false rfl rfl rfl (congrArg Value.bool hb79)) ?_
            refine LE.u (Un.no 5 68 false rfl rfl rfl (congrArg Value.bool hb79)) ?_
            refine LE.p (v := (Value.bool true)) (Wn.no rfl) rfl (R.pickT (congrArg Value.bool hb79) rfl) ?_
            refine LE.nil ?_
            exact ⟨_, h, f44, f45, f46, f47, f48, f49, f50, f51, rfl⟩
          · refine LE.p (v := (Value.pointer r10)) (Wn.yes 5 68 false rfl rfl rfl (congrArg Value.bool hb79)) rfl (R.move f47) ?_
            refine LE.p (v := (Value.pointer (some b25))) (Wn.yes 5 68 false rfl rfl rfl (congrArg Value.bool hb79)) rfl (R.move f48) ?_
            refine LE.c (Wn.yes 5 68 false rfl rfl rfl (congrArg Value.bool hb79)) rfl (R.call bd22 (Ls.cons rfl (Ls.cons rfl Ls.nil)) rfl) (Calls.mono h ?_)
            rintro _ w81 ⟨r80, rfl, h⟩
            refine ⟨_, rfl, ?_⟩
            refine LE.p (v := (Value.bool (!r80))) (Wn.yes 5 68 false rfl rfl rfl (congrArg Value.bool hb79)) rfl (R.not rfl) ?_
            refine LE.p (v := (Value.bool (!r80))) (Wn.no rfl) rfl (R.pickF (congrArg Value.bool hb79) rfl) ?_
            refine LE.nil ?_
            exact ⟨_, h, f44, f45, f46, f47, f48, f49, f50, f51, rfl⟩
        · rintro e82 w83 ⟨x69, h, f84, f85, f86, f87, f88, f89, f90, f91, f92⟩
          subst hJ68
          refine WE.condT rfl (b := x69) f92 ?_ ?_
          · intro hb93
            replace h := M.ite_t h hb93
            refine WE.seq ?_
            refine WE.reg ?_
            refine LE.p (v := (Value.bool false)) (Wn.no rfl) rfl (R.assign rfl) ?_
            refine LE.nil ?_
            refine WE.ret ?_
            exact ⟨_, (Res.tmp rfl Res.nil), _, rfl, h⟩
          · intro hb93
            replace h := M.ite_f h hb93
            refine WE.skip ?_
            refine WE.reg ?_
            refine LE.p (v := (Value.int .i64 (IntKind.i64.wrap (x35 + (1 : Int))))) (Wn.no rfl) rfl (R.add f91 rfl) ?_
            refine LE.p (v := (Value.int .i64 (IntKind.i64.wrap (x35 + (1 : Int))))) (Wn.no rfl) rfl (R.move rfl) ?_
            refine LE.nil ?_
            obtain ⟨m42, hm43, h⟩ := h
            exact ⟨m42, hm43, _, h, f84, f85, f86, f87, f88, f89, f90, rfl⟩
      · intro hb52
        replace h := M.ite_f h hb52
        refine WE.exit ?_
        refine WE.seq ?_
        obtain ⟨J94, hJ94, h⟩ := M.join_use h
        refine WE.regJ (fun e w => ∃ (x95 : Bool), J94 x95 w ∧ e 0 = (Value.bool x95)) ?_ ?_
        · clear hJ94
          refine LE.p (v := (Value.int .i64 r2)) (Wn.no rfl) rfl (R.move f44) ?_
          refine LE.p (v := (Value.bool (r2 == (1 : Int)))) (Wn.no rfl) rfl (R.eql rfl rfl) ?_
          refine LE.p (v := (Value.bool (r2 == (1 : Int)))) (Wn.no rfl) rfl (R.move rfl) ?_
          rcases M.ite_use h with ⟨hb96, h⟩ | ⟨hb96, h⟩
          · refine LE.p (v := (Value.int .i64 r5)) (Wn.yes 2 77 true rfl rfl rfl (congrArg Value.bool hb96)) rfl (R.move f45) ?_
            refine LE.p (v := (Value.bool (r5 == (1 : Int)))) (Wn.yes 2 77 true rfl rfl rfl (congrArg Value.bool hb96)) rfl (R.eql rfl rfl) ?_
            refine LE.p (v := (Value.bool (r5 == (1 : Int)))) (Wn.no rfl) rfl (R.pickT (congrArg Value.bool hb96) rfl) ?_
            refine LE.p (v := (Value.bool (r5 == (1 : Int)))) (Wn.no rfl) rfl (R.move rfl) ?_
            rcases M.ite_use h with ⟨hb97, h⟩ | ⟨hb97, h⟩
            · refine LE.p (v := (Value.int .i64 r8)) (Wn.yes 6 81 true rfl rfl rfl (congrArg Value.bool hb97)) rfl (R.move f46) ?_
              refine LE.p (v := (Value.bool (r8 == (0 : Int)))) (Wn.yes 6 81 true rfl rfl rfl (congrArg Value.bool hb97)) rfl (R.eql rfl rfl) ?_
              refine LE.p (v := (Value.bool (r8 == (0 : Int)))) (Wn.no rfl) rfl (R.pickT (congrArg Value.bool hb97) rfl) ?_
              refine LE.p (v := (Value.bool (r8 == (0 : Int)))) (Wn.no rfl) rfl (R.move rfl) ?_
              rcases M.ite_use h with ⟨hb98, h⟩ | ⟨hb98, h⟩
              · refine LE.c (Wn.yes 10 85 true rfl rfl rfl (congrArg Value.bool hb98)) rfl (R.call bd14 Ls.nil rfl) (Calls.mono h ?_)
                rintro _ w100 ⟨r99, rfl, h⟩
                refine ⟨_, rfl, ?_⟩
                refine LE.p (v := (Value.bool r99)) (Wn.no rfl) rfl (R.pickT (congrArg Value.bool hb98) rfl) ?_
                refine LE.p (v := (Value.bool r99)) (Wn.no rfl) rfl (R.assign rfl) ?_
                refine LE.nil ?_
                exact ⟨_, h, rfl⟩
              · refine LE.u (Un.no 10 85 true rfl rfl rfl (congrArg Value.bool hb98)) ?_
                refine LE.p (v := (Value.bool false)) (Wn.no rfl) rfl (R.pickF (congrArg Value.bool hb98) rfl) ?_
                refine LE.p (v := (Value.bool false)) (Wn.no rfl) rfl (R.assign rfl) ?_
                refine LE.nil ?_
                exact ⟨_, h, rfl⟩
            · refine LE.u (Un.no 6 81 true rfl rfl rfl (congrArg Value.bool hb97)) ?_
              refine LE.u (Un.no 6 81 true rfl rfl rfl (congrArg Value.bool hb97)) ?_
              refine LE.p (v := (Value.bool false)) (Wn.no rfl) rfl (R.pickF (congrArg Value.bool hb97) rfl) ?_
              refine LE.p (v := (Value.bool false)) (Wn.no rfl) rfl (R.move rfl) ?_
              refine LE.u (Un.no 10 85 true rfl rfl rfl rfl) ?_
              refine LE.p (v := (Value.bool false)) (Wn.no rfl) rfl (R.pickF rfl rfl) ?_
              refine LE.p (v := (Value.bool false)) (Wn.no rfl) rfl (R.assign rfl) ?_
              refine LE.nil ?_
              exact ⟨_, h, rfl⟩
          · refine LE.u (Un.no 2 77 true rfl rfl rfl (congrArg Value.bool hb96)) ?_
            refine LE.u (Un.no 2 77 true rfl rfl rfl (congrArg Value.bool hb96)) ?_
            refine LE.p (v := (Value.bool false)) (Wn.no rfl) rfl (R.pickF (congrArg Value.bool hb96) rfl) ?_
            refine LE.p (v := (Value.bool false)) (Wn.no rfl) rfl (R.move rfl) ?_
            refine LE.u (Un.no 6 81 true rfl rfl rfl rfl) ?_
            refine LE.u (Un.no 6 81 true rfl rfl rfl rfl) ?_
            refine LE.p (v := (Value.bool false)) (Wn.no rfl) rfl (R.pickF rfl rfl) ?_
            refine LE.p (v := (Value.bool false)) (Wn.no rfl) rfl (R.move rfl) ?_
            refine LE.u (Un.no 10 85 true rfl rfl rfl rfl) ?_
            refine LE.p (v := (Value.bool false)) (Wn.no rfl) rfl (R.pickF rfl rfl) ?_
            refine LE.p (v := (Value.bool false)) (Wn.no rfl) rfl (R.assign rfl) ?_
            refine LE.nil ?_
            exact ⟨_, h, rfl⟩
        · rintro e101 w102 ⟨x95, h, f103⟩
          subst hJ94
          refine WE.ret ?_
          exact ⟨_, (Res.tmp f103 Res.nil), _, rfl, h⟩
/-- The formula of signpost.signpostlaw25.FibPlays. -/
def F6 (p0 : Int) (p1 : SV) (K : Bool → World → Prop) (w0 : World) : Prop :=
Calls Try.prog 15 #[(Value.int .i64 p0), (Value.int .i64 (0 : Int)), (Value.int .i64 (20 : Int))] w0 (R15 fun r1 w2 =>
Calls Try.prog 7 #[(Value.int .i64 r1)] w2 (R7 fun r3 r4 w5 =>
M.new (.cells #[(SV.v SV.nil), (Value.int .i64 r1), (Value.int .i64 (0 : Int))] 53) w5 fun b7 w6 =>
M.join (fun (x9 : Bool) (w12 : World) => 
M.ite x9 (
K false w12) (
M.loop1 (fun (J19 : Int → World → Prop) (x18 : Int) (w20 : World) => 
M.join (fun (x32 : Bool) (w35 : World) => 
M.ite x32 (
M.idx p1 x18 6 fun a42 =>
∃ (t46 : Int) (t47 : Int) (t48 : Int) (t49 : Int) (t50 : SV) (t51 : Bool), Cs w35 (a42.add (x18.toNat * 6)) 0 [(Value.int .i64 t46), (Value.int .i64 t47), (Value.int .i64 t48), (Value.int .u32 t49), (SV.v t50), (Value.bool t51)] ∧
Calls Try.prog 21 #[(Value.pointer r3), (Value.pointer (some b7)), (Value.agg #[(Value.int .i64 t46), (Value.int .i64 t47), (Value.int .i64 t48), (Value.int .u32 t49), (SV.v t50), (Value.bool t51)])] w35 (R21 fun r53 w54 =>
M.ite (!r53) (
K false w54) (
J19 (IntKind.i64.wrap (x18 + (1 : Int))) w54))) (
M.join (fun (x57 : Bool) (w64 : World) => 
K x57 w64) fun J56 => 
Calls Try.prog 22 #[(Value.pointer r3), (Value.pointer (some b7))] w35 (R22 fun r58 w59 =>
M.ite r58 (
Calls Try.prog 14 #[] w59 (R14 fun r61 w62 =>
J56 r61 w62)) (
J56 false w59)))) fun J31 => 
M.ite (decide (x18 < (p1.len : Int))) (
J31 (decide (x18 < (60 : Int))) w20) (
J31 false w20)) (0 : Int) w12)) fun J8 => 
M.ite (Option.isNone r3) (
J8 true w6) (
J8 (r4 != (0 : Int)) w6)))
theorem F6_ok {w0 : World} {p0 : Int} {p1 : SV} {K : Bool → World → Prop} (h : F6 p0 p1 K w0) : Calls Try.prog 6 #[(Value.int .i64 p0), (SV.v p1)] w0 (R6 K) := by
  refine calls_of_WE (args := [(Value.int .i64 p0), (SV.v p1)]) (rs := [.tmp 4]) Try.func6 rfl (N := 49) rfl rfl rfl rfl ?_
  refine WE.seq ?_
  refine WE.reg ?_
  refine LE.p (v := (Value.bool false)) (Wn.no rfl) rfl (R.assign rfl) ?_
  refine LE.nil ?_
  refine WE.seq ?_
  refine WE.reg ?_
  refine LE.p (v := (Value.int .i64 p0)) (Wn.no rfl) rfl (R.move rfl) ?_
  refine LE.c (Wn.no rfl) rfl (R.call bd15 (Ls.cons rfl (Ls.cons rfl (Ls.cons rfl Ls.nil))) rfl) (Calls.mono h ?_)
  rintro _ w2 ⟨r1, rfl, h⟩
  refine ⟨_, rfl, ?_⟩
  refine LE.p (v := (Value.int .i64 r1)) (Wn.no rfl) rfl (R.assign rfl) ?_
  refine LE.nil ?_
  refine WE.seq ?_
  refine WE.reg ?_
  refine LE.p (v := (Value.int .i64 r1)) (Wn.no rfl) rfl (R.move rfl) ?_
  refine LE.c (Wn.no rfl) rfl (R.call bd7 (Ls.cons rfl Ls.nil) rfl) (Calls.mono h ?_)
  rintro _ w5 ⟨r3, r4, rfl, h⟩
  refine ⟨_, rfl, ?_⟩
  refine LE.p (v := (Value.tuple #[(Value.pointer r3), (Value.int .i64 r4)])) (Wn.no rfl) rfl (R.move rfl) ?_
  refine LE.p (v := (Value.pointer r3)) (Wn.no rfl) rfl (R.ext rfl rfl) ?_
  refine LE.p (v := (Value.int .i64 r4)) (Wn.no rfl) rfl (R.ext rfl rfl) ?_
  refine LE.p (v := (Value.pointer r3)) (Wn.no rfl) rfl (R.assign rfl) ?_
  refine LE.p (v := (Value.int .i64 r4)) (Wn.no rfl) rfl (R.assign rfl) ?_
  refine LE.nil ?_
  refine WE.seq ?_
  refine WE.reg ?_
  refine LE.p (v := (Value.int .i64 r1)) (Wn.no rfl) rfl (R.move rfl) ?_
  refine LE.p (v := (Value.agg #[(SV.v SV.nil), (Value.int .i64 r1), (Value.int .i64 (0 : Int))])) (Wn.no rfl) rfl (R.bld (by exact (Ls.cons (R.Pr rfl) Ls.nil)) (fun w => bu53_1 r1 w)) ?_
  obtain ⟨b7, hpb7, w6, hww6, h⟩ := M.new_use h
  refine LE.r (v := (Value.pointer (some b7))) (Wn.no rfl) rfl (R.box (cs := #[(SV.v SV.nil), (Value.int .i64 r1), (Value.int .i64 (0 : Int))]) rfl rfl hpb7 hww6) ?_
  refine LE.p (v := (Value.pointer (some b7))) (Wn.no rfl) rfl (R.assign rfl) ?_
  refine LE.nil ?_
  refine WE.seq ?_
  refine WE.seq ?_
  obtain ⟨J8, hJ8, h⟩ := M.join_use h
  refine WE.regJ (fun e w => ∃ (x9 : Bool), J8 x9 w ∧ e 1 = (SV.v p1) ∧ e 5 = (Value.pointer r3) ∧ e 7 = (Value.pointer (some b7)) ∧ e 24 = (Value.bool x9)) ?_ ?_
  · clear hJ8
    refine LE.p (v := (Value.pointer r3)) (Wn.no rfl) rfl (R.move rfl) ?_
    refine LE.p (v := (Value.bool (Option.isNone r3))) (Wn.no rfl) rfl (R.peqNil pt24 rfl rfl) ?_
    refine LE.p (v := (Value.bool (Option.isNone r3))) (Wn.no rfl) rfl (R.move rfl) ?_
    rcases M.ite_use h with ⟨hb10, h⟩ | ⟨hb10, h⟩
    · refine LE.u (Un.no 2 21 false rfl rfl rfl (congrArg Value.bool hb10)) ?_
      refine LE.u (Un.no 2 21 false rfl rfl rfl (congrArg Value.bool hb10)) ?_
      refine LE.p (v := (Value.bool true)) (Wn.no rfl) rfl (R.pickT (congrArg Value.bool hb10) rfl) ?_
      refine LE.nil ?_
      exact ⟨_, h, rfl, rfl, rfl, rfl⟩
    · refine LE.p (v := (Value.int .i64 r4)) (Wn.yes 2 21 false rfl rfl rfl (congrArg Value.bool hb10)) rfl (R.move rfl) ?_
      refine LE.p (v := (Value.bool (r4 != (0 : Int)))) (Wn.yes 2 21 false rfl rfl rfl (congrArg Value.bool hb10)) rfl (R.neq rfl rfl) ?_
      refine LE.p (v := (Value.bool (r4 != (0 : Int)))) (Wn.no rfl) rfl (R.pickF (congrArg Value.bool hb10) rfl) ?_
      refine LE.nil ?_
      exact ⟨_, h, rfl, rfl, rfl, rfl⟩
  · rintro e11 w12 ⟨x9, h, f13, f14, f15, f16⟩
    subst hJ8
    refine WE.condT rfl (b := x9) f16 ?_ ?_
    · intro hb17
      replace h := M.ite_t h hb17
      refine WE.seq ?_
      refine WE.reg ?_
      refine LE.p (v := (Value.bool false)) (Wn.no rfl) rfl (R.assign rfl) ?_
      refine LE.nil ?_
      refine WE.ret ?_
      exact ⟨_, (Res.tmp rfl Res.nil), _, rfl, h⟩
    · intro hb17
      replace h := M.ite_f h hb17
      refine WE.skip ?_
      refine WE.seq ?_
      refine WE.seq ?_
      refine WE.reg ?_
      refine LE.p (v := (Value.int .i64 (0 : Int))) (Wn.no rfl) rfl (R.assign rfl) ?_
      refine LE.nil ?_
      refine WE.block ?_
      obtain ⟨I23, ⟨n22, h⟩, hr24⟩ := h
      refine WE.loop (fun n e w => ∃ (x18 : Int), I23 n x18 w ∧ e 1 = (SV.v p1) ∧ e 5 = (Value.pointer r3) ∧ e 7 = (Value.pointer (some b7)) ∧ e 8 = (Value.int .i64 x18)) n22 ⟨_, h, f13, f14, f15, rfl⟩ ?_
      clear h
      rintro n22 e21 w20 ⟨x18, h, f27, f28, f29, f30⟩
      replace h := hr24 n22 x18 w20 h
      refine WE.seq ?_
      refine WE.seq ?_
      obtain ⟨J31, hJ31, h⟩ := M.join_use h
      refine WE.regJ (fun e w => ∃ (x32 : Bool), J31 x32 w ∧ e 1 = (SV.v p1) ∧ e 5 = (Value.pointer r3) ∧ e 7 = (Value.pointer (some b7)) ∧ e 8 = (Value.int .i64 x18) ∧ e 32 = (Value.bool x32)) ?_ ?_
      · clear hJ31
        refine LE.p (v := (Value.int .i64 x18)) (Wn.no rfl) rfl (R.move f30) ?_
        refine LE.p (v := (SV.v p1)) (Wn.no rfl) rfl (R.move f27) ?_
        refine LE.p (v := (Value.int .i64 (p1.len : Int))) (Wn.no rfl) rfl (R.len sl22 rfl) ?_
        refine LE.p (v := (Value.bool (decide (x18 < (p1.len : Int))))) (Wn.no rfl) rfl (R.lss rfl rfl) ?_
        refine LE.p (v := (Value.bool (decide (x18 < (p1.len : Int))))) (Wn.no rfl) rfl (R.move rfl) ?_
        rcases M.ite_use h with ⟨hb33, h⟩ | ⟨hb33, h⟩
        · refine LE.p (v := (Value.int .i64 x18)) (Wn.yes 4 29 true rfl rfl rfl (congrArg Value.bool hb33)) rfl (R.move f30) ?_
          refine LE.p (v := (Value.bool (decide (x18 < (60 : Int))))) (Wn.yes 4 29 true rfl rfl rfl (congrArg Value.bool hb33)) rfl (R.lss rfl rfl) ?_
          refine LE.p (v := (Value.bool (decide (x18 < (60 : Int))))) (Wn.no rfl) rfl (R.pickT (congrArg Value.bool hb33) rfl) ?_
          refine LE.nil ?_
          exact ⟨_, h, f27, f28, f29, f30, rfl⟩
        · refine LE.u (Un.no 4 29 true rfl rfl rfl (congrArg Value.bool hb33)) ?_
          refine LE.u (Un.no 4 29 true rfl rfl rfl (congrArg Value.bool hb33)) ?_
          refine LE.p (v := (Value.bool false)) (Wn.no rfl) rfl (R.pickF (congrArg Value.bool hb33) rfl) ?_
          refine LE.nil ?_
          exact ⟨_, h, f27, f28, f29, f30, rfl⟩
      · rintro e34 w35 ⟨x32, h, f36, f37, f38, f39, f40⟩
        subst hJ31
        refine WE.condT rfl (b := x32) f40 ?_ ?_
        · intro hb41
          replace h := M.ite_t h hb41
          refine WE.skip ?_
          refine WE.seq ?_
          refine WE.block ?_
          refine WE.seq ?_
          refine WE.reg ?_
          refine LE.p (v := (Value.pointer r3)) (Wn.no rfl) rfl (R.move f37) ?_
          refine LE.p (v := (Value.pointer (some b7))) (Wn.no rfl) rfl (R.move f38) ?_
          refine LE.p (v := (SV.v p1)) (Wn.no rfl) rfl (R.move f36) ?_
          refine LE.p (v := (Value.int .i64 x18)) (Wn.no rfl) rfl (R.move f39) ?_
          obtain ⟨a42, h43, h44, h45, h⟩ := h
          refine LE.p (v := (Value.pointer (some (a42.add (x18.toNat * 6))))) (Wn.no rfl) rfl (R.idx (s := p1) sl22 rfl rfl h43 h44 h45) ?_
          obtain ⟨t46, t47, t48, t49, t50, t51, h52, h⟩ := h
          refine LE.r (v := (Value.agg #[(Value.int .i64 t46), (Value.int .i64 t47), (Value.int .i64 t48), (Value.int .u32 t49), (SV.v t50), (Value.bool t51)])) (Wn.no rfl) rfl (R.ldA ag30 sz30 rfl rfl h52) ?_
          refine LE.c (Wn.no rfl) rfl (R.call bd21 (Ls.cons rfl (Ls.cons rfl (Ls.cons rfl Ls.nil))) rfl) (Calls.mono h ?_)
          rintro _ w54 ⟨r53, rfl, h⟩
          refine ⟨_, rfl, ?_⟩
          refine LE.p (v := (Value.bool (!r53))) (Wn.no rfl) rfl (R.not rfl) ?_
          refine LE.nil ?_
          refine WE.condT rfl (b := (!r53)) rfl ?_ ?_
          · intro hb55
            replace h := M.ite_t h hb55
            refine WE.seq ?_
            refine WE.reg ?_
            refine LE.p (v := (Value.bool false)) (Wn.no rfl) rfl (R.assign rfl) ?_
            refine LE.nil ?_
            refine WE.ret ?_
            exact ⟨_, (Res.tmp rfl Res.nil), _, rfl, h⟩
          · intro hb55
            replace h := M.ite_f h hb55
            refine WE.skip ?_
            refine WE.reg ?_
            refine LE.p (v := (Value.int .i64 x18)) (Wn.no rfl) rfl (R.move f39) ?_
            refine LE.p (v := (Value.int .i64 (IntKind.i64.wrap (x18 + (1 : Int))))) (Wn.no rfl) rfl (R.add rfl rfl) ?_
            refine LE.p (v := (Value.int .i64 (IntKind.i64.wrap (x18 + (1 : Int))))) (Wn.no rfl) rfl (R.assign rfl) ?_
            refine LE.nil ?_
            obtain ⟨m25, hm26, h⟩ := h
            exact ⟨m25, hm26, _, h, f36, f37, f38, rfl⟩
        · intro hb41
          replace h := M.ite_f h hb41
          refine WE.exit ?_
          refine WE.seq ?_
          obtain ⟨J56, hJ56, h⟩ := M.join_use h
          refine WE.regJ (fun e w => ∃ (x57 : Bool), J56 x57 w ∧ e 4 = (Value.bool x57)) ?_ ?_
          · clear hJ56
            refine LE.p (v := (Value.pointer r3)) (Wn.no rfl) rfl (R.move f37) ?_
            refine LE.p (v := (Value.pointer (some b7))) (Wn.no rfl) rfl (R.move f38) ?_
            refine LE.c (Wn.no rfl) rfl (R.call bd22 (Ls.cons rfl (Ls.cons rfl Ls.nil)) rfl) (Calls.mono h ?_)
            rintro _ w59 ⟨r58, rfl, h⟩
            refine ⟨_, rfl, ?_⟩
            refine LE.p (v := (Value.bool r58)) (Wn.no rfl) rfl (R.move rfl) ?_
            rcases M.ite_use h with ⟨hb60, h⟩ | ⟨hb60, h⟩
            · refine LE.c (Wn.yes 3 46 true rfl rfl rfl (congrArg Value.bool hb60)) rfl (R.call bd14 Ls.nil rfl) (Calls.mono h ?_)
              rintro _ w62 ⟨r61, rfl, h⟩
              refine ⟨_, rfl, ?_⟩
              refine LE.p (v := (Value.bool r61)) (Wn.no rfl) rfl (R.pickT (congrArg Value.bool hb60) rfl) ?_
              refine LE.p (v := (Value.bool r61)) (Wn.no rfl) rfl (R.assign rfl) ?_
              refine LE.nil ?_
              exact ⟨_, h, rfl⟩
            · refine LE.u (Un.no 3 46 true rfl rfl rfl (congrArg Value.bool hb60)) ?_
              refine LE.p (v := (Value.bool false)) (Wn.no rfl) rfl (R.pickF (congrArg Value.bool hb60) rfl) ?_
              refine LE.p (v := (Value.bool false)) (Wn.no rfl) rfl (R.assign rfl) ?_
              refine LE.nil ?_
              exact ⟨_, h, rfl⟩
          · rintro e63 w64 ⟨x57, h, f65⟩
            subst hJ56
            refine WE.ret ?_
            exact ⟨_, (Res.tmp f65 Res.nil), _, rfl, h⟩
/-- The formula of signpost.fib.New. -/
def F7 (p0 : Int) (K : Option Addr → Int → World → Prop) (w0 : World) : Prop :=
M.join (fun (x2 : Bool) (w5 : World) => 
M.ite x2 (
K (none : Option Addr) (1 : Int) w5) (
Calls Try.prog 23 #[] w5 (R23 fun r9 w10 =>
M.new (.map #[] 0) w10 fun b12 w11 =>
M.new (.cells #[(Value.int .i64 p0), (Value.pointer r9), (Value.map (some (Addr.block b12))), (Value.int .i64 (0 : Int))] 62) w11 fun b14 w13 =>
K (some b14) (0 : Int) w13))) fun J1 => 
M.ite (decide (p0 < (0 : Int))) (
J1 true w0) (
J1 (decide ((4096 : Int) < p0)) w0)
theorem F7_ok {w0 : World} {p0 : Int} {K : Option Addr → Int → World → Prop} (h : F7 p0 K w0) : Calls Try.prog 7 #[(Value.int .i64 p0)] w0 (R7 K) := by
  refine calls_of_WE (args := [(Value.int .i64 p0)]) (rs := [.tmp 2, .tmp 3]) Try.func7 rfl (N := 15) rfl rfl rfl rfl ?_
  refine WE.seq ?_
  refine WE.reg ?_
  refine LE.p (v := (Value.pointer (none : Option Addr))) (Wn.no rfl) rfl (R.assign rfl) ?_
  refine LE.p (v := (Value.int .i64 (0 : Int))) (Wn.no rfl) rfl (R.assign rfl) ?_
  refine LE.nil ?_
  refine WE.seq ?_
  refine WE.seq ?_
  obtain ⟨J1, hJ1, h⟩ := M.join_use h
  refine WE.regJ (fun e w => ∃ (x2 : Bool), J1 x2 w ∧ e 0 = (Value.int .i64 p0) ∧ e 9 = (Value.bool x2)) ?_ ?_
  · clear hJ1
    refine LE.p (v := (Value.int .i64 p0)) (Wn.no rfl) rfl (R.move rfl) ?_
    refine LE.p (v := (Value.bool (decide (p0 < (0 : Int))))) (Wn.no rfl) rfl (R.lss rfl rfl) ?_
    refine LE.p (v := (Value.bool (decide (p0 < (0 : Int))))) (Wn.no rfl) rfl (R.move rfl) ?_
    rcases M.ite_use h with ⟨hb3, h⟩ | ⟨hb3, h⟩
    · refine LE.u (Un.no 2 6 false rfl rfl rfl (congrArg Value.bool hb3)) ?_
      refine LE.u (Un.no 2 6 false rfl rfl rfl (congrArg Value.bool hb3)) ?_
      refine LE.p (v := (Value.bool true)) (Wn.no rfl) rfl (R.pickT (congrArg Value.bool hb3) rfl) ?_
      refine LE.nil ?_
      exact ⟨_, h, rfl, rfl⟩
    · refine LE.p (v := (Value.int .i64 p0)) (Wn.yes 2 6 false rfl rfl rfl (congrArg Value.bool hb3)) rfl (R.move rfl) ?_
      refine LE.p (v := (Value.bool (decide ((4096 : Int) < p0)))) (Wn.yes 2 6 false rfl rfl rfl (congrArg Value.bool hb3)) rfl (R.gtr rfl rfl) ?_
      refine LE.p (v := (Value.bool (decide ((4096 : Int) < p0)))) (Wn.no rfl) rfl (R.pickF (congrArg Value.bool hb3) rfl) ?_
      refine LE.nil ?_
      exact ⟨_, h, rfl, rfl⟩
  · rintro e4 w5 ⟨x2, h, f6, f7⟩
    subst hJ1
    refine WE.condT rfl (b := x2) f7 ?_ ?_
    · intro hb8
      replace h := M.ite_t h hb8
      refine WE.seq ?_
      refine WE.reg ?_
      refine LE.p (v := (Value.pointer (none : Option Addr))) (Wn.no rfl) rfl (R.assign rfl) ?_
      refine LE.p (v := (Value.int .i64 (1 : Int))) (Wn.no rfl) rfl (R.assign rfl) ?_
      refine LE.nil ?_
      refine WE.ret ?_
      exact ⟨_, (Res.tmp rfl (Res.tmp rfl Res.nil)), _, _, rfl, h⟩
    · intro hb8
      replace h := M.ite_f h hb8
      refine WE.skip ?_
      refine WE.seq ?_
      refine WE.reg ?_
      refine LE.p (v := (Value.int .i64 p0)) (Wn.no rfl) rfl (R.move f6) ?_
      refine LE.c (Wn.no rfl) rfl (R.call bd23 Ls.nil rfl) (Calls.mono h ?_)
      rintro _ w10 ⟨r9, rfl, h⟩
      refine ⟨_, rfl, ?_⟩
      obtain ⟨b12, hpb12, w11, hww11, h⟩ := M.new_use h
      refine LE.r (v := (Value.map (some (Addr.block b12)))) (Wn.no rfl) rfl (R.mkmap hpb12 hww11) ?_
      refine LE.p (v := (Value.agg #[(Value.int .i64 p0), (Value.pointer r9), (Value.map (some (Addr.block b12))), (Value.int .i64 (0 : Int))])) (Wn.no rfl) rfl (R.bld (by exact (Ls.cons (R.Pr rfl) (Ls.cons (R.Pr rfl) (Ls.cons (R.Pr rfl) Ls.nil)))) (fun w => bu62_0_1_2 p0 r9 (some (Addr.block b12)) w)) ?_
      obtain ⟨b14, hpb14, w13, hww13, h⟩ := M.new_use h
      refine LE.r (v := (Value.pointer (some b14))) (Wn.no rfl) rfl (R.box (cs := #[(Value.int .i64 p0), (Value.pointer r9), (Value.map (some (Addr.block b12))), (Value.int .i64 (0 : Int))]) rfl rfl hpb14 hww13) ?_
      refine LE.p (v := (Value.pointer (some b14))) (Wn.no rfl) rfl (R.assign rfl) ?_
      refine LE.p (v := (Value.int .i64 (0 : Int))) (Wn.no rfl) rfl (R.assign rfl) ?_
      refine LE.nil ?_
      refine WE.ret ?_
      exact ⟨_, (Res.tmp rfl (Res.tmp rfl Res.nil)), _, _, rfl, h⟩
/-- The formula of (*signpost.fib.Table).Set. -/
def F8 (p0 : Option Addr) (p1_0 : Int) (p1_1 : Int) (p1_2 : SV) (K : Int → World → Prop) (w0 : World) : Prop :=
M.new (.cells #[(Value.int .u32 p1_0), (Value.int .i64 p1_1), (SV.v p1_2)] 35) w0 fun b2 w1 =>
M.drew w1 fun w3 => 
M.nil p0 fun a4 =>
M.ld Value.map (a4.add 2) w3 fun t6 =>
M.ld (Value.int .u32) b2 w3 fun t8 =>
M.ld (Value.int .i64) (b2.add 1) w3 fun t10 =>
∃ (t12 : SV) (t14 : Bool), (Instr.lookup 60 (Value.map t6) (Value.agg #[(Value.int .u32 t8), (Value.int .i64 t10)]) true).run Try.prog w3 = .ok (Value.tuple #[(SV.v t12), (Value.bool t14)]) w3 ∧
∃ (t15 : Int) (t16 : Int) (t17 : SV), Cs w3 b2 0 [(Value.int .u32 t15), (Value.int .i64 t16), (SV.v t17)] ∧
M.new (.cells #[(Value.int .u32 t15), (Value.int .i64 t16), (SV.v t17)] 35) w3 fun b21 w19 =>
Calls Try.prog 24 #[(SV.v (SV.mk (some b21) 1 1))] w19 (R24 fun r22 w23 =>
M.ite (!r22) (
K (12 : Int) w23) (
M.join (fun (x26 : Bool) (w40 : World) => 
M.ite x26 (
K (13 : Int) w40) (
M.drew w40 fun w45 => 
M.nil p0 fun a46 =>
M.ld Value.pointer (a46.add 1) w45 fun t48 =>
M.ld (Value.int .u32) b2 w45 fun t50 =>
M.ld (Value.int .i64) (b2.add 1) w45 fun t52 =>
Calls Try.prog 25 #[(Value.pointer t48), (Value.agg #[(Value.int .u32 t50), (Value.int .i64 t52)]), (Value.int .i64 (0 : Int))] w45 (R25 fun r54 w55 =>
M.drew w55 fun w56 => 
M.nil p0 fun a57 =>
M.ld Value.map (a57.add 2) w56 fun t59 =>
M.ld (Value.int .u32) b2 w56 fun t61 =>
M.ld (Value.int .i64) (b2.add 1) w56 fun t63 =>
M.ld SV.v (b2.add 2) w56 fun t65 =>
Calls Try.prog 26 #[(SV.v t65)] w56 (R26 fun r67 w68 =>
M.keep (w68.cell? b2 = some (Value.int .u32 t61)) <|
M.keep (w68.cell? (b2.add 1) = some (Value.int .i64 t63)) <|
M.keep (w68.cell? (a57.add 2) = some (Value.map t59)) <|
∃ w72, (Instr.mapUpdate 60 (Value.map t59) (Value.agg #[(Value.int .u32 t61), (Value.int .i64 t63)]) (SV.v r67)).run Try.prog w68 = .ok () w72 ∧
M.nil p0 fun a74 =>
M.ld (Value.int .i64) (a74.add 3) w72 fun t76 =>
M.nil p0 fun a78 =>
M.st (a78.add 3) (Value.int .i64 (IntKind.i64.wrap (t76 + (1 : Int)))) w72 fun w80 =>
K (0 : Int) w80)))) fun J25 => 
M.drew w23 fun w27 => 
M.ite (!t14) (
M.nil p0 fun a29 =>
M.nil p0 fun a31 =>
M.ld Value.map (a29.add 2) w27 fun t33 =>
∃ (t35 : Int), (Builtin.len_ #[60] 3 #[(Value.map t33)]).run Try.prog w27 = .ok (.int .i64 t35) w27 ∧
M.ld (Value.int .i64) a31 w27 fun t37 =>
J25 (decide (t37 ≤ t35)) w27) (
J25 false w27)))
theorem F8_ok {w0 : World} {p0 : Option Addr} {p1_0 : Int} {p1_1 : Int} {p1_2 : SV} {K : Int → World → Prop} (h : F8 p0 p1_0 p1_1 p1_2 K w0) : Calls Try.prog 8 #[(Value.pointer p0), (Value.agg #[(Value.int .u32 p1_0), (Value.int .i64 p1_1), (SV.v p1_2)])] w0 (R8 K) := by
  refine calls_of_WE (args := [(Value.pointer p0), (Value.agg #[(Value.int .u32 p1_0), (Value.int .i64 p1_1), (SV.v p1_2)])]) (rs := [.tmp 4]) Try.func8 rfl (N := 60) rfl rfl rfl rfl ?_
  refine WE.seq ?_
  refine WE.reg ?_
  obtain ⟨b2, hpb2, w1, hww1, h⟩ := M.new_use h
  refine LE.r (v := (Value.pointer (some b2))) (Wn.no rfl) rfl (R.box (cs := #[(Value.int .u32 p1_0), (Value.int .i64 p1_1), (SV.v p1_2)]) rfl rfl hpb2 hww1) ?_
  refine LE.p (v := (Value.int .i64 (0 : Int))) (Wn.no rfl) rfl (R.assign rfl) ?_
  refine LE.nil ?_
  refine WE.seq ?_
  refine WE.draw mix ?_
  obtain ⟨w3, hww3, h⟩ := M.drew_use h
  rw [← hww3]
  clear hww3
  refine DE.t 0 (v := (Value.pointer p0)) rfl (by kernel_rfl) (Wn.no rfl) rfl (R.move rfl) ?_
  obtain ⟨a4, h5, h⟩ := h
  refine DE.t 1 (v := (Value.pointer (some a4))) rfl (by kernel_rfl) (Wn.no rfl) rfl (R.nilC (congrArg Value.pointer h5)) ?_
  refine DE.t 2 (v := (Value.pointer (some (a4.add 2)))) rfl (by kernel_rfl) (Wn.no rfl) rfl (R.fld (off := 2) fa62_2 rfl) ?_
  refine DE.t 4 (v := (Value.pointer (some b2))) rfl (by kernel_rfl) (Wn.no rfl) rfl (R.fld (off := 0) fa35_0 rfl) ?_
  obtain ⟨t6, h7, h⟩ := h
  refine DE.hold 3 (fun w => w.cell? (a4.add 2) = some (Value.map t6)) (v := (Value.map t6)) rfl (by kernel_rfl) (Wn.no rfl) rfl h7 (fun w hs => R.ld sc60 rfl hs) ?_
  obtain ⟨t8, h9, h⟩ := h
  obtain ⟨t10, h11, h⟩ := h
  refine DE.main 5 (by kernel_rfl) ?_
  refine One.r 5 (v := (Value.agg #[(Value.int .u32 t8), (Value.int .i64 t10)])) rfl (Wn.no rfl) rfl (R.ldA ag33 sz33 rfl rfl (Cs.cons h9 (Cs.cons h11 Cs.nil))) (.inl rfl) ?_
  obtain ⟨t12, t14, h13, h⟩ := h
  refine DE.main 6 (by kernel_rfl) ?_
  refine One.r 6 (v := (Value.tuple #[(SV.v t12), (Value.bool t14)])) rfl (Wn.no rfl) rfl (R.look rfl rfl h13) (.inl rfl) ?_
  refine DE.t 7 (v := (Value.tuple #[(SV.v t12), (Value.bool t14)])) rfl (by kernel_rfl) (Wn.no rfl) rfl (R.move rfl) ?_
  refine DE.t 8 (v := (SV.v t12)) rfl (by kernel_rfl) (Wn.no rfl) rfl (R.ext rfl rfl) ?_
  refine DE.t 9 (v := (Value.bool t14)) rfl (by kernel_rfl) (Wn.no rfl) rfl (R.ext rfl rfl) ?_
  refine DE.t 10 (v := (SV.v t12)) rfl (by kernel_rfl) (Wn.no rfl) rfl (R.assign rfl) ?_
  refine DE.t 11 (v := (Value.bool t14)) rfl (by kernel_rfl) (Wn.no rfl) rfl (R.assign rfl) ?_
  refine DE.done (by kernel_rfl) ?_
  refine WE.seq ?_
  refine WE.block ?_
  refine WE.seq ?_
  refine WE.reg ?_
  obtain ⟨t15, t16, t17, h18, h⟩ := h
  refine LE.r (v := (Value.agg #[(Value.int .u32 t15), (Value.int .i64 t16), (SV.v t17)])) (Wn.no rfl) rfl (R.ldA ag35 sz35 rfl rfl h18) ?_
  obtain ⟨b21, hpb21, w19, hww19, h⟩ := M.new_use h
  refine LE.r (v := (SV.v (SV.mk (some b21) 1 1))) (Wn.no rfl) rfl (R.bsl (by exact (Ls.cons (R.Pr rfl) Ls.nil)) (fun w => bs45_1 t15 t16 t17 w) hpb21 hww19) ?_
  refine LE.c (Wn.no rfl) rfl (R.call bd24 (Ls.cons rfl Ls.nil) rfl) (Calls.mono h ?_)
  rintro _ w23 ⟨r22, rfl, h⟩
  refine ⟨_, rfl, ?_⟩
  refine LE.p (v := (Value.bool (!r22))) (Wn.no rfl) rfl (R.not rfl) ?_
  refine LE.p (v := (Value.bool (!r22))) (Wn.no rfl) rfl (R.assign rfl) ?_
  refine LE.nil ?_
  refine WE.condT rfl (b := (!r22)) rfl ?_ ?_
  · intro hb24
    replace h := M.ite_t h hb24
    refine WE.seq ?_
    refine WE.reg ?_
    refine LE.p (v := (Value.int .i64 (12 : Int))) (Wn.no rfl) rfl (R.assign rfl) ?_
    refine LE.nil ?_
    refine WE.ret ?_
    exact ⟨_, (Res.tmp rfl Res.nil), _, rfl, h⟩
  · intro hb24
    replace h := M.ite_f h hb24
    refine WE.seq ?_
    obtain ⟨J25, hJ25, h⟩ := M.join_use h
    refine WE.drawJ (fun e w => ∃ (x26 : Bool), J25 x26 w ∧ e 0 = (Value.pointer p0) ∧ e 3 = (Value.pointer (some b2)) ∧ e 22 = (Value.bool x26)) mix ?_ ?_
    · clear hJ25
      obtain ⟨w27, hww27, h⟩ := M.drew_use h
      rw [← hww27]
      clear hww27
      refine DE.t 0 (v := (Value.bool t14)) rfl (by kernel_rfl) (Wn.no rfl) rfl (R.move rfl) ?_
      refine DE.t 1 (v := (Value.bool (!t14))) rfl (by kernel_rfl) (Wn.no rfl) rfl (R.not rfl) ?_
      refine DE.t 2 (v := (Value.bool (!t14))) rfl (by kernel_rfl) (Wn.no rfl) rfl (R.move rfl) ?_
      rcases M.ite_use h with ⟨hb28, h⟩ | ⟨hb28, h⟩
      · refine DE.t 3 (v := (Value.pointer p0)) rfl (by kernel_rfl) (Wn.yes 2 25 true rfl rfl rfl (congrArg Value.bool hb28)) rfl (R.move rfl) ?_
        obtain ⟨a29, h30, h⟩ := h
        refine DE.t 4 (v := (Value.pointer (some a29))) rfl (by kernel_rfl) (Wn.yes 2 25 true rfl rfl rfl (congrArg Value.bool hb28)) rfl (R.nilC (congrArg Value.pointer h30)) ?_
        refine DE.t 5 (v := (Value.pointer (some (a29.add 2)))) rfl (by kernel_rfl) (Wn.yes 2 25 true rfl rfl rfl (congrArg Value.bool hb28)) rfl (R.fld (off := 2) fa62_2 rfl) ?_
        refine DE.t 8 (v := (Value.pointer p0)) rfl (by kernel_rfl) (Wn.yes 2 25 true rfl rfl rfl (congrArg Value.bool hb28)) rfl (R.move rfl) ?_
        obtain ⟨a31, h32, h⟩ := h
        refine DE.t 9 (v := (Value.pointer (some a31))) rfl (by kernel_rfl) (Wn.yes 2 25 true rfl rfl rfl (congrArg Value.bool hb28)) rfl (R.nilC (congrArg Value.pointer h32)) ?_
        refine DE.t 10 (v := (Value.pointer (some a31))) rfl (by kernel_rfl) (Wn.yes 2 25 true rfl rfl rfl (congrArg Value.bool hb28)) rfl (R.fld (off := 0) fa62_0 rfl) ?_
        obtain ⟨t33, h34, h⟩ := h
        refine DE.hold 6 (fun w => w.cell? (a29.add 2) = some (Value.map t33)) (v := (Value.map t33)) rfl (by kernel_rfl) (Wn.yes 2 25 true rfl rfl rfl (congrArg Value.bool hb28)) rfl h34 (fun w hs => R.ld sc60 rfl hs) ?_
        obtain ⟨t35, h36, h⟩ := h
        refine DE.hold 7 (fun w => (Builtin.len_ #[60] 3 #[(Value.map t33)]).run Try.prog w = .ok (.int .i64 t35) w) (v := (Value.int .i64 t35)) rfl (by kernel_rfl) (Wn.yes 2 25 true rfl rfl rfl (congrArg Value.bool hb28)) rfl h36 (fun w hs => R.mlen rfl hs) ?_
        obtain ⟨t37, h38, h⟩ := h
        refine DE.main 11 (by kernel_rfl) ?_
        refine One.r 11 (v := (Value.int .i64 t37)) rfl (Wn.yes 2 25 true rfl rfl rfl (congrArg Value.bool hb28)) rfl (R.ld sc3 rfl h38) (.inl rfl) ?_
        refine DE.t 12 (v := (Value.bool (decide (t37 ≤ t35)))) rfl (by kernel_rfl) (Wn.yes 2 25 true rfl rfl rfl (congrArg Value.bool hb28)) rfl (R.geq rfl rfl) ?_
        refine DE.t 13 (v := (Value.bool (decide (t37 ≤ t35)))) rfl (by kernel_rfl) (Wn.no rfl) rfl (R.pickT (congrArg Value.bool hb28) rfl) ?_
        refine DE.t 14 (v := (Value.bool (decide (t37 ≤ t35)))) rfl (by kernel_rfl) (Wn.no rfl) rfl (R.assign rfl) ?_
        refine DE.done (by kernel_rfl) ?_
        exact ⟨_, h, rfl, rfl, rfl⟩
      · refine DE.u 3 rfl (by kernel_rfl) (Un.no 2 25 true rfl rfl rfl (congrArg Value.bool hb28)) ?_
        refine DE.u 4 rfl (by kernel_rfl) (Un.no 2 25 true rfl rfl rfl (congrArg Value.bool hb28)) ?_
        refine DE.u 5 rfl (by kernel_rfl) (Un.no 2 25 true rfl rfl rfl (congrArg Value.bool hb28)) ?_
        refine DE.u 6 rfl (by kernel_rfl) (Un.no 2 25 true rfl rfl rfl (congrArg Value.bool hb28)) ?_
        refine DE.u 7 rfl (by kernel_rfl) (Un.no 2 25 true rfl rfl rfl (congrArg Value.bool hb28)) ?_
        refine DE.u 8 rfl (by kernel_rfl) (Un.no 2 25 true rfl rfl rfl (congrArg Value.bool hb28)) ?_
        refine DE.u 9 rfl (by kernel_rfl) (Un.no 2 25 true rfl rfl rfl (congrArg Value.bool hb28)) ?_
        refine DE.u 10 rfl (by kernel_rfl) (Un.no 2 25 true rfl rfl rfl (congrArg Value.bool hb28)) ?_
        refine DE.u 11 rfl (by kernel_rfl) (Un.no 2 25 true rfl rfl rfl (congrArg Value.bool hb28)) ?_
        refine DE.u 12 rfl (by kernel_rfl) (Un.no 2 25 true rfl rfl rfl (congrArg Value.bool hb28)) ?_
        refine DE.t 13 (v := (Value.bool false)) rfl (by kernel_rfl) (Wn.no rfl) rfl (R.pickF (congrArg Value.bool hb28) rfl) ?_
        refine DE.t 14 (v := (Value.bool false)) rfl (by kernel_rfl) (Wn.no rfl) rfl (R.assign rfl) ?_
        refine DE.done (by kernel_rfl) ?_
        exact ⟨_, h, rfl, rfl, rfl⟩
    · rintro e39 w40 ⟨x26, h, f41, f42, f43⟩
      subst hJ25
      refine WE.condT rfl (b := x26) f43 ?_ ?_
      · intro hb44
        replace h := M.ite_t h hb44
        refine WE.seq ?_
        refine WE.reg ?_
        refine LE.p (v := (Value.int .i64 (13 : Int))) (Wn.no rfl) rfl (R.assign rfl) ?_
        refine LE.nil ?_
        refine WE.ret ?_
        exact ⟨_, (Res.tmp rfl Res.nil), _, rfl, h⟩
      · intro hb44
        replace h := M.ite_f h hb44
        refine WE.skip ?_
        refine WE.seq ?_
        refine WE.draw mix ?_
        obtain ⟨w45, hww45, h⟩ := M.drew_use h
        rw [← hww45]
        clear hww45
        refine DE.t 0 (v := (Value.pointer p0)) rfl (by kernel_rfl) (Wn.no rfl) rfl (R.move f41) ?_
        obtain ⟨a46, h47, h⟩ := h
        refine DE.t 1 (v := (Value.pointer (some a46))) rfl (by kernel_rfl) (Wn.no rfl) rfl (R.nilC (congrArg Value.pointer h47)) ?_
        refine DE.t 2 (v := (Value.pointer (some (a46.add 1)))) rfl (by kernel_rfl) (Wn.no rfl) rfl (R.fld (off := 1) fa62_1 rfl) ?_
        refine DE.t 4 (v := (Value.pointer (some b2))) rfl (by kernel_rfl) (Wn.no rfl) rfl (R.fld (off := 0) fa35_0 f42) ?_
        obtain ⟨t48, h49, h⟩ := h
        refine DE.hold 3 (fun w => w.cell? (a46.add 1) = some (Value.pointer t48)) (v := (Value.pointer t48)) rfl (by kernel_rfl) (Wn.no rfl) rfl h49 (fun w hs => R.ld sc58 rfl hs) ?_
        obtain ⟨t50, h51, h⟩ := h
        obtain ⟨t52, h53, h⟩ := h
        refine DE.main 5 (by kernel_rfl) ?_
        refine One.r 5 (v := (Value.agg #[(Value.int .u32 t50), (Value.int .i64 t52)])) rfl (Wn.no rfl) rfl (R.ldA ag33 sz33 rfl rfl (Cs.cons h51 (Cs.cons h53 Cs.nil))) (.inl rfl) ?_
        refine DE.main 6 (by kernel_rfl) ?_
        refine One.c 6 rfl (Wn.no rfl) rfl (R.call bd25 (Ls.cons rfl (Ls.cons rfl (Ls.cons rfl Ls.nil))) rfl) (Calls.mono h ?_)
        rintro _ w55 ⟨r54, rfl, h⟩
        refine ⟨_, rfl, ⟨aftT (by kernel_rfl), trivial⟩, ?_⟩
        refine DE.done (by kernel_rfl) ?_
        refine WE.seq ?_
        refine WE.draw mix ?_
        obtain ⟨w56, hww56, h⟩ := M.drew_use h
        rw [← hww56]
        clear hww56
        refine DE.t 0 (v := (Value.pointer p0)) rfl (by kernel_rfl) (Wn.no rfl) rfl (R.move f41) ?_
        obtain ⟨a57, h58, h⟩ := h
        refine DE.t 1 (v := (Value.pointer (some a57))) rfl (by kernel_rfl) (Wn.no rfl) rfl (R.nilC (congrArg Value.pointer h58)) ?_
        refine DE.t 2 (v := (Value.pointer (some (a57.add 2)))) rfl (by kernel_rfl) (Wn.no rfl) rfl (R.fld (off := 2) fa62_2 rfl) ?_
        refine DE.t 4 (v := (Value.pointer (some b2))) rfl (by kernel_rfl) (Wn.no rfl) rfl (R.fld (off := 0) fa35_0 f42) ?_
        refine DE.t 6 (v := (Value.pointer (some (b2.add 2)))) rfl (by kernel_rfl) (Wn.no rfl) rfl (R.fld (off := 2) fa35_1 f42) ?_
        obtain ⟨t59, h60, h⟩ := h
        refine DE.hold 3 (fun w => w.cell? (a57.add 2) = some (Value.map t59)) (v := (Value.map t59)) rfl (by kernel_rfl) (Wn.no rfl) rfl h60 (fun w hs => R.ld sc60 rfl hs) ?_
        obtain ⟨t61, h62, h⟩ := h
        obtain ⟨t63, h64, h⟩ := h
        refine DE.hold 5 (fun w => w.cell? b2 = some (Value.int .u32 t61) ∧ w.cell? (b2.add 1) = some (Value.int .i64 t63)) (v := (Value.agg #[(Value.int .u32 t61), (Value.int .i64 t63)])) rfl (by kernel_rfl) (Wn.no rfl) rfl ⟨h62, h64⟩ (fun w hs => R.ldA ag33 sz33 rfl rfl (Cs.cons hs.1 (Cs.cons hs.2 Cs.nil))) ?_
        obtain ⟨t65, h66, h⟩ := h
        refine DE.main 7 (by kernel_rfl) ?_
        refine One.r 7 (v := (SV.v t65)) rfl (Wn.no rfl) rfl (R.ld sc28 rfl h66) (.inl rfl) ?_
        refine DE.main 8 (by kernel_rfl) ?_
        refine One.c 8 rfl (Wn.no rfl) rfl (R.call bd26 (Ls.cons rfl Ls.nil) rfl) (Calls.mono h ?_)
        rintro _ w68 ⟨r67, rfl, h⟩
        obtain ⟨k69, h⟩ := h
        obtain ⟨k70, h⟩ := h
        obtain ⟨k71, h⟩ := h
        refine ⟨_, rfl, ⟨fun _ => ⟨k69, k70⟩, fun _ => k71, trivial⟩, ?_⟩
        obtain ⟨w72, h73, h⟩ := h
        refine DE.main 9 (by kernel_rfl) ?_
        refine One.s 9 rfl (Wn.no rfl) rfl (R.upd rfl rfl rfl h73) ⟨aftT (by kernel_rfl), aftT (by kernel_rfl), trivial⟩ ?_
        refine DE.done (by kernel_rfl) ?_
        refine WE.seq ?_
        refine WE.reg ?_
        refine LE.p (v := (Value.pointer p0)) (Wn.no rfl) rfl (R.move f41) ?_
        obtain ⟨a74, h75, h⟩ := h
        refine LE.p (v := (Value.pointer (some a74))) (Wn.no rfl) rfl (R.nilC (congrArg Value.pointer h75)) ?_
        refine LE.p (v := (Value.pointer (some (a74.add 3)))) (Wn.no rfl) rfl (R.fld (off := 3) fa62_3 rfl) ?_
        obtain ⟨t76, h77, h⟩ := h
        refine LE.r (v := (Value.int .i64 t76)) (Wn.no rfl) rfl (R.ld sc3 rfl h77) ?_
        refine LE.p (v := (Value.int .i64 (IntKind.i64.wrap (t76 + (1 : Int))))) (Wn.no rfl) rfl (R.add rfl rfl) ?_
        obtain ⟨a78, h79, h⟩ := h
        refine LE.p (v := (Value.pointer (some a78))) (Wn.no rfl) rfl (R.nilC (congrArg Value.pointer h79)) ?_
        refine LE.p (v := (Value.pointer (some (a78.add 3)))) (Wn.no rfl) rfl (R.fld (off := 3) fa62_3 rfl) ?_
        obtain ⟨w80, hww80, h81, h82, h⟩ := M.st_use h
        refine LE.s (Wn.no rfl) rfl (R.st (a := (a78.add 3)) (v := (Value.int .i64 (IntKind.i64.wrap (t76 + (1 : Int))))) sz3 rfl rfl rfl rfl h81 h82 hww80) ?_
        refine LE.nil ?_
        refine WE.seq ?_
        refine WE.reg ?_
        refine LE.p (v := (Value.int .i64 (0 : Int))) (Wn.no rfl) rfl (R.assign rfl) ?_
        refine LE.nil ?_
        refine WE.ret ?_
        exact ⟨_, (Res.tmp rfl Res.nil), _, rfl, h⟩
/-- The formula of signpost.signpostlaw25.entry. -/
def F9 (p0_0 : Int) (p0_1 : Int) (p0_2 : Int) (p0_3 : Int) (p0_4 : SV) (p0_5 : Bool) (K : Int → Int → SV → World → Prop) (w0 : World) : Prop :=
M.new (.cells #[(Value.int .i64 p0_0), (Value.int .i64 p0_1), (Value.int .i64 p0_2), (Value.int .u32 p0_3), (SV.v p0_4), (Value.bool p0_5)] 30) w0 fun b2 w1 =>
M.new (.cells #[(Value.int .u32 (0 : Int)), (Value.int .i64 (0 : Int)), (SV.v SV.nil)] 35) w1 fun b4 w3 =>
M.join (fun (w19 : World) => 
M.ld Value.bool (b2.add 5) w19 fun t22 =>
M.ite (!t22) (
M.ld (Value.int .u32) (b2.add 3) w19 fun t25 =>
M.ld (Value.int .i64) (b2.add 2) w19 fun t27 =>
M.ld SV.v (b2.add 4) w19 fun t29 =>
M.stA b4 [(Value.int .u32 t25), (Value.int .i64 t27), (SV.v t29)] w19 fun w31 =>
∃ (t33 : Int) (t34 : Int) (t35 : SV), Cs w31 b4 0 [(Value.int .u32 t33), (Value.int .i64 t34), (SV.v t35)] ∧
K t33 t34 t35 w31) (
M.ld (Value.int .u32) (b2.add 3) w19 fun t37 =>
M.ld (Value.int .i64) (b2.add 2) w19 fun t39 =>
Calls Try.prog 27 #[(Value.int .u32 t37), (Value.int .i64 t39)] w19 (R27 fun r41 r42 w43 =>
M.new (.cells #[(Value.int .u32 (0 : Int)), (Value.int .i64 (0 : Int)), (SV.v SV.nil)] 35) w43 fun b45 w44 =>
M.stA b45 [(Value.int .u32 r41), (Value.int .i64 r42), (SV.v SV.nil)] w44 fun w46 =>
M.join (fun (w61 : World) => 
∃ (t64 : Int) (t65 : Int) (t66 : SV), Cs w61 b45 0 [(Value.int .u32 t64), (Value.int .i64 t65), (SV.v t66)] ∧
M.stA b4 [(Value.int .u32 t64), (Value.int .i64 t65), (SV.v t66)] w61 fun w68 =>
∃ (t70 : Int) (t71 : Int) (t72 : SV), Cs w68 b4 0 [(Value.int .u32 t70), (Value.int .i64 t71), (SV.v t72)] ∧
K t70 t71 t72 w68) fun J48 => 
M.ld (Value.int .i64) (b2.add 1) w46 fun t49 =>
M.ite (decide ((0 : Int) < (Int.tmod t49 (3 : Int)))) (
M.ld (Value.int .i64) (b2.add 1) w46 fun t52 =>
M.new (.cells #[(Value.int .i64 (Int.tmod t52 (3 : Int))), (Value.int .i64 (16 : Int))] 55) w46 fun b56 w54 =>
M.st (b45.add 2) (SV.v (SV.mk (some b56) 1 1)) w54 fun w57 =>
J48 w57) (
J48 w46)))) fun J5 => 
M.ld SV.v (b2.add 4) w3 fun t6 =>
M.ite (decide ((18 : Int) < (t6.len : Int))) (
M.ld SV.v (b2.add 4) w3 fun t9 =>
M.bnd (0 : Int) (18 : Int) t9 <|
M.st (b2.add 4) (SV.v (SV.sub t9 (Int.toNat (0 : Int)) (Int.toNat (18 : Int)) 2)) w3 fun w15 =>
J5 w15) (
J5 w3)
theorem F9_ok {w0 : World} {p0_0 : Int} {p0_1 : Int} {p0_2 : Int} {p0_3 : Int} {p0_4 : SV} {p0_5 : Bool} {K : Int → Int → SV → World → Prop} (h : F9 p0_0 p0_1 p0_2 p0_3 p0_4 p0_5 K w0) : Calls Try.prog 9 #[(Value.agg #[(Value.int .i64 p0_0), (Value.int .i64 p0_1), (Value.int .i64 p0_2), (Value.int .u32 p0_3), (SV.v p0_4), (Value.bool p0_5)])] w0 (R9 K) := by
  refine calls_of_WE (args := [(Value.agg #[(Value.int .i64 p0_0), (Value.int .i64 p0_1), (Value.int .i64 p0_2), (Value.int .u32 p0_3), (SV.v p0_4), (Value.bool p0_5)])]) (rs := [.cell 2 35]) Try.func9 rfl (N := 40) rfl rfl rfl rfl ?_
  refine WE.seq ?_
  refine WE.reg ?_
  obtain ⟨b2, hpb2, w1, hww1, h⟩ := M.new_use h
  refine LE.r (v := (Value.pointer (some b2))) (Wn.no rfl) rfl (R.box (cs := #[(Value.int .i64 p0_0), (Value.int .i64 p0_1), (Value.int .i64 p0_2), (Value.int .u32 p0_3), (SV.v p0_4), (Value.bool p0_5)]) rfl rfl hpb2 hww1) ?_
  obtain ⟨b4, hpb4, w3, hww3, h⟩ := M.new_use h
  refine LE.r (v := (Value.pointer (some b4))) (Wn.no rfl) rfl (R.alloc (cs := #[(Value.int .u32 (0 : Int)), (Value.int .i64 (0 : Int)), (SV.v SV.nil)]) ze35 rfl hpb4 hww3) ?_
  refine LE.nil ?_
  obtain ⟨J5, hJ5, h⟩ := M.join_use h
  refine WE.join (fun e w => J5 w ∧ e 1 = (Value.pointer (some b2)) ∧ e 2 = (Value.pointer (some b4))) ?_ ?_
  · clear hJ5
    refine WE.seq ?_
    refine WE.reg ?_
    refine LE.p (v := (Value.pointer (some (b2.add 4)))) (Wn.no rfl) rfl (R.fld (off := 4) fa30_4 rfl) ?_
    obtain ⟨t6, h7, h⟩ := h
    refine LE.r (v := (SV.v t6)) (Wn.no rfl) rfl (R.ld sc28 rfl h7) ?_
    refine LE.p (v := (Value.int .i64 (t6.len : Int))) (Wn.no rfl) rfl (R.len sl28 rfl) ?_
    refine LE.p (v := (Value.bool (decide ((18 : Int) < (t6.len : Int))))) (Wn.no rfl) rfl (R.gtr rfl rfl) ?_
    refine LE.nil ?_
    refine WE.condT rfl (b := (decide ((18 : Int) < (t6.len : Int)))) rfl ?_ ?_
    · intro hb8
      replace h := M.ite_t h hb8
      refine WE.reg ?_
      refine LE.p (v := (Value.pointer (some (b2.add 4)))) (Wn.no rfl) rfl (R.fld (off := 4) fa30_4 rfl) ?_
      obtain ⟨t9, h10, h⟩ := h
      refine LE.r (v := (SV.v t9)) (Wn.no rfl) rfl (R.ld sc28 rfl h10) ?_
      obtain ⟨h11, h12, h13, h⟩ := h
      refine LE.p (v := (SV.v (SV.sub t9 (Int.toNat (0 : Int)) (Int.toNat (18 : Int)) 2))) (Wn.no rfl) rfl (R.slc (s := t9) (lo := (0 : Int)) (hi := (18 : Int)) _ _ sl28 rfl rfl rfl h11 h12 h13) ?_
      refine LE.p (v := (Value.pointer (some (b2.add 4)))) (Wn.no rfl) rfl (R.fld (off := 4) fa30_4 rfl) ?_
      obtain ⟨w15, hww15, h16, h17, h⟩ := M.st_use h
      refine LE.s (Wn.no rfl) rfl (R.st (a := (b2.add 4)) (v := (SV.v (SV.sub t9 (Int.toNat (0 : Int)) (Int.toNat (18 : Int)) 2))) sz28 rfl rfl rfl rfl h16 h17 hww15) ?_
      refine LE.nil ?_
      exact ⟨h, rfl, rfl⟩
    · intro hb8
      replace h := M.ite_f h hb8
      refine WE.skip ?_
      exact ⟨h, rfl, rfl⟩
  · rintro e18 w19 ⟨h, f20, f21⟩
    subst hJ5
    refine WE.seq ?_
    refine WE.seq ?_
    refine WE.reg ?_
    refine LE.p (v := (Value.pointer (some (b2.add 5)))) (Wn.no rfl) rfl (R.fld (off := 5) fa30_5 f20) ?_
    obtain ⟨t22, h23, h⟩ := h
    refine LE.r (v := (Value.bool t22)) (Wn.no rfl) rfl (R.ld sc4 rfl h23) ?_
    refine LE.p (v := (Value.bool (!t22))) (Wn.no rfl) rfl (R.not rfl) ?_
    refine LE.nil ?_
    refine WE.condT rfl (b := (!t22)) rfl ?_ ?_
    · intro hb24
      replace h := M.ite_t h hb24
      refine WE.seq ?_
      refine WE.reg ?_
      refine LE.p (v := (Value.pointer (some (b2.add 3)))) (Wn.no rfl) rfl (R.fld (off := 3) fa30_3 f20) ?_
      obtain ⟨t25, h26, h⟩ := h
      refine LE.r (v := (Value.int .u32 t25)) (Wn.no rfl) rfl (R.ld sc23 rfl h26) ?_
      refine LE.p (v := (Value.pointer (some (b2.add 2)))) (Wn.no rfl) rfl (R.fld (off := 2) fa30_2 f20) ?_
      obtain ⟨t27, h28, h⟩ := h
      refine LE.r (v := (Value.int .i64 t27)) (Wn.no rfl) rfl (R.ld sc3 rfl h28) ?_
      refine LE.p (v := (Value.agg #[(Value.int .u32 t25), (Value.int .i64 t27)])) (Wn.no rfl) rfl (R.bld (by exact (Ls.cons (R.Pr rfl) (Ls.cons (R.Pr rfl) Ls.nil))) (fun w => bu33_0_1 t25 t27 w)) ?_
      refine LE.p (v := (Value.pointer (some (b2.add 4)))) (Wn.no rfl) rfl (R.fld (off := 4) fa30_4 f20) ?_
      obtain ⟨t29, h30, h⟩ := h
      refine LE.r (v := (SV.v t29)) (Wn.no rfl) rfl (R.ld sc28 rfl h30) ?_
      refine LE.p (v := (Value.agg #[(Value.int .u32 t25), (Value.int .i64 t27), (SV.v t29)])) (Wn.no rfl) rfl (R.bld (by exact (Ls.cons (R.Pr rfl) (Ls.cons (R.Pr rfl) Ls.nil))) (fun w => bu35_0_1 t25 t27 t29 w)) ?_
      obtain ⟨w31, hww31, h32, h⟩ := M.stA_use h
      refine LE.s (Wn.no rfl) rfl (R.stA (a := b4) [(Value.int .u32 t25), (Value.int .i64 t27), (SV.v t29)] sz35 f21 rfl rfl (by simp [Value.oneCell']) h32 hww31) ?_
      refine LE.nil ?_
      refine WE.ret ?_
      obtain ⟨t33, t34, t35, h36, h⟩ := h
      exact ⟨_, (Res.cell f21 (R.ldCellA ag35 sz35 rfl h36) Res.nil), _, _, _, rfl, h⟩
    · intro hb24
      replace h := M.ite_f h hb24
      refine WE.skip ?_
      refine WE.seq ?_
      refine WE.reg ?_
      refine LE.p (v := (Value.pointer (some (b2.add 3)))) (Wn.no rfl) rfl (R.fld (off := 3) fa30_3 f20) ?_
      obtain ⟨t37, h38, h⟩ := h
      refine LE.r (v := (Value.int .u32 t37)) (Wn.no rfl) rfl (R.ld sc23 rfl h38) ?_
      refine LE.p (v := (Value.pointer (some (b2.add 2)))) (Wn.no rfl) rfl (R.fld (off := 2) fa30_2 f20) ?_
      obtain ⟨t39, h40, h⟩ := h
      refine LE.r (v := (Value.int .i64 t39)) (Wn.no rfl) rfl (R.ld sc3 rfl h40) ?_
      refine LE.c (Wn.no rfl) rfl (R.call bd27 (Ls.cons rfl (Ls.cons rfl Ls.nil)) rfl) (Calls.mono h ?_)
      rintro _ w43 ⟨r41, r42, rfl, h⟩
      refine ⟨_, rfl, ?_⟩
      refine LE.p (v := (Value.agg #[(Value.int .u32 r41), (Value.int .i64 r42), (SV.v SV.nil)])) (Wn.no rfl) rfl (R.bld (by exact (Ls.cons (R.Pr rfl) Ls.nil)) (fun w => bu35_0 r41 r42 w)) ?_
      obtain ⟨b45, hpb45, w44, hww44, h⟩ := M.new_use h
      refine LE.r (v := (Value.pointer (some b45))) (Wn.no rfl) rfl (R.alloc (cs := #[(Value.int .u32 (0 : Int)), (Value.int .i64 (0 : Int)), (SV.v SV.nil)]) ze35 rfl hpb45 hww44) ?_
      obtain ⟨w46, hww46, h47, h⟩ := M.stA_use h
      refine LE.s (Wn.no rfl) rfl (R.stA (a := b45) [(Value.int .u32 r41), (Value.int .i64 r42), (SV.v SV.nil)] sz35 rfl rfl rfl (by simp [Value.oneCell']) h47 hww46) ?_
      refine LE.nil ?_
      obtain ⟨J48, hJ48, h⟩ := M.join_use h
      refine WE.join (fun e w => J48 w ∧ e 2 = (Value.pointer (some b4)) ∧ e 3 = (Value.pointer (some b45))) ?_ ?_
      · clear hJ48
        refine WE.seq ?_
        refine WE.reg ?_
        refine LE.p (v := (Value.pointer (some (b2.add 1)))) (Wn.no rfl) rfl (R.fld (off := 1) fa30_1 f20) ?_
        obtain ⟨t49, h50, h⟩ := h
        refine LE.r (v := (Value.int .i64 t49)) (Wn.no rfl) rfl (R.ld sc3 rfl h50) ?_
        refine LE.p (v := (Value.int .i64 (Int.tmod t49 (3 : Int)))) (Wn.no rfl) rfl (R.rem rfl rfl (by decide)) ?_
        refine LE.p (v := (Value.bool (decide ((0 : Int) < (Int.tmod t49 (3 : Int)))))) (Wn.no rfl) rfl (R.gtr rfl rfl) ?_
        refine LE.nil ?_
        refine WE.condT rfl (b := (decide ((0 : Int) < (Int.tmod t49 (3 : Int))))) rfl ?_ ?_
        · intro hb51
          replace h := M.ite_t h hb51
          refine WE.reg ?_
          refine LE.p (v := (Value.pointer (some (b2.add 1)))) (Wn.no rfl) rfl (R.fld (off := 1) fa30_1 f20) ?_
          obtain ⟨t52, h53, h⟩ := h
          refine LE.r (v := (Value.int .i64 t52)) (Wn.no rfl) rfl (R.ld sc3 rfl h53) ?_
          refine LE.p (v := (Value.int .i64 (Int.tmod t52 (3 : Int)))) (Wn.no rfl) rfl (R.rem rfl rfl (by decide)) ?_
          refine LE.p (v := (Value.agg #[(Value.int .i64 (Int.tmod t52 (3 : Int))), (Value.int .i64 (16 : Int))])) (Wn.no rfl) rfl (R.bld (by exact (Ls.cons (R.Pr rfl) (Ls.cons (R.Pr rfl) Ls.nil))) (fun w => bu55_0_1 (Int.tmod t52 (3 : Int)) (16 : Int) w)) ?_
          obtain ⟨b56, hpb56, w54, hww54, h⟩ := M.new_use h
          refine LE.r (v := (SV.v (SV.mk (some b56) 1 1))) (Wn.no rfl) rfl (R.bsl (by exact (Ls.cons (R.Pr rfl) Ls.nil)) (fun w => bs28_1 (Int.tmod t52 (3 : Int)) (16 : Int) w) hpb56 hww54) ?_
          refine LE.p (v := (Value.pointer (some (b45.add 2)))) (Wn.no rfl) rfl (R.fld (off := 2) fa35_1 rfl) ?_
          obtain ⟨w57, hww57, h58, h59, h⟩ := M.st_use h
          refine LE.s (Wn.no rfl) rfl (R.st (a := (b45.add 2)) (v := (SV.v (SV.mk (some b56) 1 1))) sz28 rfl rfl rfl rfl h58 h59 hww57) ?_
          refine LE.nil ?_
          exact ⟨h, f21, rfl⟩
        · intro hb51
          replace h := M.ite_f h hb51
          refine WE.skip ?_
          exact ⟨h, f21, rfl⟩
      · rintro e60 w61 ⟨h, f62, f63⟩
        subst hJ48
        refine WE.seq ?_
        refine WE.reg ?_
        obtain ⟨t64, t65, t66, h67, h⟩ := h
        refine LE.r (v := (Value.agg #[(Value.int .u32 t64), (Value.int .i64 t65), (SV.v t66)])) (Wn.no rfl) rfl (R.ldA ag35 sz35 f63 rfl h67) ?_
        obtain ⟨w68, hww68, h69, h⟩ := M.stA_use h
        refine LE.s (Wn.no rfl) rfl (R.stA (a := b4) [(Value.int .u32 t64), (Value.int .i64 t65), (SV.v t66)] sz35 f62 rfl rfl (by simp [Value.oneCell']) h69 hww68) ?_
        refine LE.nil ?_
        refine WE.ret ?_
        obtain ⟨t70, t71, t72, h73, h⟩ := h
        exact ⟨_, (Res.cell f62 (R.ldCellA ag35 sz35 rfl h73) Res.nil), _, _, _, rfl, h⟩
/-- The formula of (*signpost.fib.Table).Match. -/
def F10 (p0 : Option Addr) (p1 : Int) (K : SV → Bool → World → Prop) (w0 : World) : Prop :=
M.nil p0 fun a1 =>
M.ld Value.pointer (a1.add 1) w0 fun t3 =>
Calls Try.prog 28 #[(Value.pointer t3), (Value.int .u32 p1)] w0 (R28 fun r5 r6 r7 r8 w9 =>
M.new (.cells #[(Value.int .u32 (0 : Int)), (Value.int .i64 (0 : Int))] 33) w9 fun b11 w10 =>
M.stA b11 [(Value.int .u32 r5), (Value.int .i64 r6)] w10 fun w12 =>
M.ite (!r8) (
K SV.nil false w12) (
M.ld (Value.int .u32) b11 w12 fun t15 =>
M.ld (Value.int .i64) (b11.add 1) w12 fun t17 =>
Calls Try.prog 11 #[(Value.pointer p0), (Value.agg #[(Value.int .u32 t15), (Value.int .i64 t17)])] w12 (R11 fun r19 r20 w21 =>
K r19 r20 w21)))
theorem F10_ok {w0 : World} {p0 : Option Addr} {p1 : Int} {K : SV → Bool → World → Prop} (h : F10 p0 p1 K w0) : Calls Try.prog 10 #[(Value.pointer p0), (Value.int .u32 p1)] w0 (R10 K) := by
  refine calls_of_WE (args := [(Value.pointer p0), (Value.int .u32 p1)]) (rs := [.tmp 4, .tmp 5]) Try.func10 rfl (N := 26) rfl rfl rfl rfl ?_
  refine WE.seq ?_
  refine WE.reg ?_
  refine LE.p (v := (SV.v SV.nil)) (Wn.no rfl) rfl (R.assign rfl) ?_
  refine LE.p (v := (Value.bool false)) (Wn.no rfl) rfl (R.assign rfl) ?_
  refine LE.nil ?_
  refine WE.seq ?_
  refine WE.reg ?_
  refine LE.p (v := (Value.pointer p0)) (Wn.no rfl) rfl (R.move rfl) ?_
  obtain ⟨a1, h2, h⟩ := h
  refine LE.p (v := (Value.pointer (some a1))) (Wn.no rfl) rfl (R.nilC (congrArg Value.pointer h2)) ?_
  refine LE.p (v := (Value.pointer (some (a1.add 1)))) (Wn.no rfl) rfl (R.fld (off := 1) fa62_1 rfl) ?_
  obtain ⟨t3, h4, h⟩ := h
  refine LE.r (v := (Value.pointer t3)) (Wn.no rfl) rfl (R.ld sc58 rfl h4) ?_
  refine LE.p (v := (Value.int .u32 p1)) (Wn.no rfl) rfl (R.move rfl) ?_
  refine LE.c (Wn.no rfl) rfl (R.call bd28 (Ls.cons rfl (Ls.cons rfl Ls.nil)) rfl) (Calls.mono h ?_)
  rintro _ w9 ⟨r5, r6, r7, r8, rfl, h⟩
  refine ⟨_, rfl, ?_⟩
  refine LE.p (v := (Value.tuple #[(Value.agg #[(Value.int .u32 r5), (Value.int .i64 r6)]), (Value.int .i64 r7), (Value.bool r8)])) (Wn.no rfl) rfl (R.move rfl) ?_
  refine LE.p (v := (Value.agg #[(Value.int .u32 r5), (Value.int .i64 r6)])) (Wn.no rfl) rfl (R.ext rfl rfl) ?_
  refine LE.p (v := (Value.int .i64 r7)) (Wn.no rfl) rfl (R.ext rfl rfl) ?_
  refine LE.p (v := (Value.bool r8)) (Wn.no rfl) rfl (R.ext rfl rfl) ?_
  obtain ⟨b11, hpb11, w10, hww10, h⟩ := M.new_use h
  refine LE.r (v := (Value.pointer (some b11))) (Wn.no rfl) rfl (R.alloc (cs := #[(Value.int .u32 (0 : Int)), (Value.int .i64 (0 : Int))]) ze33 rfl hpb11 hww10) ?_
  obtain ⟨w12, hww12, h13, h⟩ := M.stA_use h
  refine LE.s (Wn.no rfl) rfl (R.stA (a := b11) [(Value.int .u32 r5), (Value.int .i64 r6)] sz33 rfl rfl rfl (by simp [Value.oneCell']) h13 hww12) ?_
  refine LE.p (v := (Value.int .i64 r7)) (Wn.no rfl) rfl (R.assign rfl) ?_
  refine LE.p (v := (Value.bool r8)) (Wn.no rfl) rfl (R.assign rfl) ?_
  refine LE.nil ?_
  refine WE.seq ?_
  refine WE.seq ?_
  refine WE.reg ?_
  refine LE.p (v := (Value.bool r8)) (Wn.no rfl) rfl (R.move rfl) ?_
  refine LE.p (v := (Value.bool (!r8))) (Wn.no rfl) rfl (R.not rfl) ?_
  refine LE.nil ?_
  refine WE.condT rfl (b := (!r8)) rfl ?_ ?_
  · intro hb14
    replace h := M.ite_t h hb14
    refine WE.seq ?_
    refine WE.reg ?_
    refine LE.p (v := (SV.v SV.nil)) (Wn.no rfl) rfl (R.assign rfl) ?_
    refine LE.p (v := (Value.bool false)) (Wn.no rfl) rfl (R.assign rfl) ?_
    refine LE.nil ?_
    refine WE.ret ?_
    exact ⟨_, (Res.tmp rfl (Res.tmp rfl Res.nil)), _, _, rfl, h⟩
  · intro hb14
    replace h := M.ite_f h hb14
    refine WE.skip ?_
    refine WE.seq ?_
    refine WE.reg ?_
    refine LE.p (v := (Value.pointer p0)) (Wn.no rfl) rfl (R.move rfl) ?_
    obtain ⟨t15, h16, h⟩ := h
    obtain ⟨t17, h18, h⟩ := h
    refine LE.r (v := (Value.agg #[(Value.int .u32 t15), (Value.int .i64 t17)])) (Wn.no rfl) rfl (R.ldA ag33 sz33 rfl rfl (Cs.cons h16 (Cs.cons h18 Cs.nil))) ?_
    refine LE.c (Wn.no rfl) rfl (R.call bd11 (Ls.cons rfl (Ls.cons rfl Ls.nil)) rfl) (Calls.mono h ?_)
    rintro _ w21 ⟨r19, r20, rfl, h⟩
    refine ⟨_, rfl, ?_⟩
    refine LE.p (v := (SV.v r19)) (Wn.no rfl) rfl (R.ext rfl rfl) ?_
    refine LE.p (v := (Value.bool r20)) (Wn.no rfl) rfl (R.ext rfl rfl) ?_
    refine LE.p (v := (SV.v r19)) (Wn.no rfl) rfl (R.assign rfl) ?_
    refine LE.p (v := (Value.bool r20)) (Wn.no rfl) rfl (R.assign rfl) ?_
    refine LE.nil ?_
    refine WE.ret ?_
    exact ⟨_, (Res.tmp rfl (Res.tmp rfl Res.nil)), _, _, rfl, h⟩
/-- The formula of (*signpost.fib.Table).Get. -/
def F11 (p0 : Option Addr) (p1_0 : Int) (p1_1 : Int) (K : SV → Bool → World → Prop) (w0 : World) : Prop :=
M.new (.cells #[(Value.int .u32 p1_0), (Value.int .i64 p1_1)] 33) w0 fun b2 w1 =>
M.drew w1 fun w3 => 
M.nil p0 fun a4 =>
M.ld Value.map (a4.add 2) w3 fun t6 =>
M.ld (Value.int .u32) b2 w3 fun t8 =>
M.ld (Value.int .i64) (b2.add 1) w3 fun t10 =>
∃ (t12 : SV) (t14 : Bool), (Instr.lookup 60 (Value.map t6) (Value.agg #[(Value.int .u32 t8), (Value.int .i64 t10)]) true).run Try.prog w3 = .ok (Value.tuple #[(SV.v t12), (Value.bool t14)]) w3 ∧
Calls Try.prog 26 #[(SV.v t12)] w3 (R26 fun r15 w16 =>
K r15 t14 w16)
theorem F11_ok {w0 : World} {p0 : Option Addr} {p1_0 : Int} {p1_1 : Int} {K : SV → Bool → World → Prop} (h : F11 p0 p1_0 p1_1 K w0) : Calls Try.prog 11 #[(Value.pointer p0), (Value.agg #[(Value.int .u32 p1_0), (Value.int .i64 p1_1)])] w0 (R11 K) := by
  refine calls_of_WE (args := [(Value.pointer p0), (Value.agg #[(Value.int .u32 p1_0), (Value.int .i64 p1_1)])]) (rs := [.tmp 4, .tmp 5]) Try.func11 rfl (N := 20) rfl rfl rfl rfl ?_
  refine WE.seq ?_
  refine WE.reg ?_
  obtain ⟨b2, hpb2, w1, hww1, h⟩ := M.new_use h
  refine LE.r (v := (Value.pointer (some b2))) (Wn.no rfl) rfl (R.box (cs := #[(Value.int .u32 p1_0), (Value.int .i64 p1_1)]) rfl rfl hpb2 hww1) ?_
  refine LE.p (v := (SV.v SV.nil)) (Wn.no rfl) rfl (R.assign rfl) ?_
  refine LE.p (v := (Value.bool false)) (Wn.no rfl) rfl (R.assign rfl) ?_
  refine LE.nil ?_
  refine WE.seq ?_
  refine WE.draw mix ?_
  obtain ⟨w3, hww3, h⟩ := M.drew_use h
  rw [← hww3]
  clear hww3
  refine DE.t 0 (v := (Value.pointer p0)) rfl (by kernel_rfl) (Wn.no rfl) rfl (R.move rfl) ?_
  obtain ⟨a4, h5, h⟩ := h
  refine DE.t 1 (v := (Value.pointer (some a4))) rfl (by kernel_rfl) (Wn.no rfl) rfl (R.nilC (congrArg Value.pointer h5)) ?_
  refine DE.t 2 (v := (Value.pointer (some (a4.add 2)))) rfl (by kernel_rfl) (Wn.no rfl) rfl (R.fld (off := 2) fa62_2 rfl) ?_
  obtain ⟨t6, h7, h⟩ := h
  refine DE.hold 3 (fun w => w.cell? (a4.add 2) = some (Value.map t6)) (v := (Value.map t6)) rfl (by kernel_rfl) (Wn.no rfl) rfl h7 (fun w hs => R.ld sc60 rfl hs) ?_
  obtain ⟨t8, h9, h⟩ := h
  obtain ⟨t10, h11, h⟩ := h
  refine DE.main 4 (by kernel_rfl) ?_
  refine One.r 4 (v := (Value.agg #[(Value.int .u32 t8), (Value.int .i64 t10)])) rfl (Wn.no rfl) rfl (R.ldA ag33 sz33 rfl rfl (Cs.cons h9 (Cs.cons h11 Cs.nil))) (.inl rfl) ?_
  obtain ⟨t12, t14, h13, h⟩ := h
  refine DE.main 5 (by kernel_rfl) ?_
  refine One.r 5 (v := (Value.tuple #[(SV.v t12), (Value.bool t14)])) rfl (Wn.no rfl) rfl (R.look rfl rfl h13) (.inl rfl) ?_
  refine DE.t 6 (v := (Value.tuple #[(SV.v t12), (Value.bool t14)])) rfl (by kernel_rfl) (Wn.no rfl) rfl (R.move rfl) ?_
  refine DE.t 7 (v := (SV.v t12)) rfl (by kernel_rfl) (Wn.no rfl) rfl (R.ext rfl rfl) ?_
  refine DE.t 8 (v := (Value.bool t14)) rfl (by kernel_rfl) (Wn.no rfl) rfl (R.ext rfl rfl) ?_
  refine DE.t 9 (v := (SV.v t12)) rfl (by kernel_rfl) (Wn.no rfl) rfl (R.assign rfl) ?_
  refine DE.t 10 (v := (Value.bool t14)) rfl (by kernel_rfl) (Wn.no rfl) rfl (R.assign rfl) ?_
  refine DE.done (by kernel_rfl) ?_
  refine WE.seq ?_
  refine WE.reg ?_
  refine LE.p (v := (SV.v t12)) (Wn.no rfl) rfl (R.move rfl) ?_
  refine LE.c (Wn.no rfl) rfl (R.call bd26 (Ls.cons rfl Ls.nil) rfl) (Calls.mono h ?_)
  rintro _ w16 ⟨r15, rfl, h⟩
  refine ⟨_, rfl, ?_⟩
  refine LE.p (v := (Value.bool t14)) (Wn.no rfl) rfl (R.move rfl) ?_
  refine LE.p (v := (SV.v r15)) (Wn.no rfl) rfl (R.assign rfl) ?_
  refine LE.p (v := (Value.bool t14)) (Wn.no rfl) rfl (R.assign rfl) ?_
  refine LE.nil ?_
  refine WE.ret ?_
  exact ⟨_, (Res.tmp rfl (Res.tmp rfl Res.nil)), _, _, rfl, h⟩
/-- The formula of signpost.signpostref1.Of. -/
def F12 (p0 : Int) (p1 : Int) (K : Int → Int → World → Prop) (w0 : World) : Prop :=
M.new (.cells #[(Value.int .u32 (0 : Int)), (Value.int .i64 (0 : Int))] 33) w0 fun b2 w1 =>
M.join (fun (x4 : Int) (w7 : World) => 
M.join (fun (x12 : Int) (w15 : World) => 
Calls Try.prog 29 #[(Value.int .i64 x12)] w15 (R29 fun r19 w20 =>
M.stA b2 [(Value.int .u32 (bAnd .u32 p0 r19)), (Value.int .i64 x12)] w20 fun w21 =>
M.ld (Value.int .u32) b2 w21 fun t23 =>
M.ld (Value.int .i64) (b2.add 1) w21 fun t25 =>
K t23 t25 w21)) fun J11 => 
M.ite (decide ((32 : Int) < x4)) (
J11 (32 : Int) w7) (
J11 x4 w7)) fun J3 => 
M.ite (decide (p1 < (0 : Int))) (
J3 (0 : Int) w1) (
J3 p1 w1)
theorem F12_ok {w0 : World} {p0 : Int} {p1 : Int} {K : Int → Int → World → Prop} (h : F12 p0 p1 K w0) : Calls Try.prog 12 #[(Value.int .u32 p0), (Value.int .i64 p1)] w0 (R12 K) := by
  refine calls_of_WE (args := [(Value.int .u32 p0), (Value.int .i64 p1)]) (rs := [.cell 4 33]) Try.func12 rfl (N := 15) rfl rfl rfl rfl ?_
  refine WE.seq ?_
  refine WE.reg ?_
  obtain ⟨b2, hpb2, w1, hww1, h⟩ := M.new_use h
  refine LE.r (v := (Value.pointer (some b2))) (Wn.no rfl) rfl (R.alloc (cs := #[(Value.int .u32 (0 : Int)), (Value.int .i64 (0 : Int))]) ze33 rfl hpb2 hww1) ?_
  refine LE.nil ?_
  obtain ⟨J3, hJ3, h⟩ := M.join_use h
  refine WE.join (fun e w => ∃ (x4 : Int), J3 x4 w ∧ e 0 = (Value.int .u32 p0) ∧ e 1 = (Value.int .i64 x4) ∧ e 4 = (Value.pointer (some b2))) ?_ ?_
  · clear hJ3
    refine WE.seq ?_
    refine WE.reg ?_
    refine LE.p (v := (Value.int .i64 p1)) (Wn.no rfl) rfl (R.move rfl) ?_
    refine LE.p (v := (Value.bool (decide (p1 < (0 : Int))))) (Wn.no rfl) rfl (R.lss rfl rfl) ?_
    refine LE.nil ?_
    refine WE.condT rfl (b := (decide (p1 < (0 : Int)))) rfl ?_ ?_
    · intro hb5
      replace h := M.ite_t h hb5
      refine WE.reg ?_
      refine LE.p (v := (Value.int .i64 (0 : Int))) (Wn.no rfl) rfl (R.assign rfl) ?_
      refine LE.nil ?_
      exact ⟨_, h, rfl, rfl, rfl⟩
    · intro hb5
      replace h := M.ite_f h hb5
      refine WE.skip ?_
      exact ⟨_, h, rfl, rfl, rfl⟩
  · rintro e6 w7 ⟨x4, h, f8, f9, f10⟩
    subst hJ3
    obtain ⟨J11, hJ11, h⟩ := M.join_use h
    refine WE.join (fun e w => ∃ (x12 : Int), J11 x12 w ∧ e 0 = (Value.int .u32 p0) ∧ e 1 = (Value.int .i64 x12) ∧ e 4 = (Value.pointer (some b2))) ?_ ?_
    · clear hJ11
      refine WE.seq ?_
      refine WE.reg ?_
      refine LE.p (v := (Value.int .i64 x4)) (Wn.no rfl) rfl (R.move f9) ?_
      refine LE.p (v := (Value.bool (decide ((32 : Int) < x4)))) (Wn.no rfl) rfl (R.gtr rfl rfl) ?_
      refine LE.nil ?_
      refine WE.condT rfl (b := (decide ((32 : Int) < x4))) rfl ?_ ?_
      · intro hb13
        replace h := M.ite_t h hb13
        refine WE.reg ?_
        refine LE.p (v := (Value.int .i64 (32 : Int))) (Wn.no rfl) rfl (R.assign rfl) ?_
        refine LE.nil ?_
        exact ⟨_, h, f8, rfl, f10⟩
      · intro hb13
        replace h := M.ite_f h hb13
        refine WE.skip ?_
        exact ⟨_, h, f8, f9, f10⟩
    · rintro e14 w15 ⟨x12, h, f16, f17, f18⟩
      subst hJ11
      refine WE.seq ?_
      refine WE.reg ?_
      refine LE.p (v := (Value.int .u32 p0)) (Wn.no rfl) rfl (R.move f16) ?_
      refine LE.p (v := (Value.int .i64 x12)) (Wn.no rfl) rfl (R.move f17) ?_
      refine LE.c (Wn.no rfl) rfl (R.call bd29 (Ls.cons rfl Ls.nil) rfl) (Calls.mono h ?_)
      rintro _ w20 ⟨r19, rfl, h⟩
      refine ⟨_, rfl, ?_⟩
      refine LE.p (v := (Value.int .u32 (bAnd .u32 p0 r19))) (Wn.no rfl) rfl (R.and rfl rfl) ?_
      refine LE.p (v := (Value.int .i64 x12)) (Wn.no rfl) rfl (R.move f17) ?_
      refine LE.p (v := (Value.agg #[(Value.int .u32 (bAnd .u32 p0 r19)), (Value.int .i64 x12)])) (Wn.no rfl) rfl (R.bld (by exact (Ls.cons (R.Pr rfl) (Ls.cons (R.Pr rfl) Ls.nil))) (fun w => bu33_0_1 (bAnd .u32 p0 r19) x12 w)) ?_
      obtain ⟨w21, hww21, h22, h⟩ := M.stA_use h
      refine LE.s (Wn.no rfl) rfl (R.stA (a := b2) [(Value.int .u32 (bAnd .u32 p0 r19)), (Value.int .i64 x12)] sz33 f18 rfl rfl (by simp [Value.oneCell']) h22 hww21) ?_
      refine LE.nil ?_
      refine WE.ret ?_
      obtain ⟨t23, h24, h⟩ := h
      obtain ⟨t25, h26, h⟩ := h
      exact ⟨_, (Res.cell f18 (R.ldCellA ag33 sz33 rfl (Cs.cons h24 (Cs.cons h26 Cs.nil))) Res.nil), _, _, rfl, h⟩
/-- The formula of signpost.signpostref18.Same. -/
def F13 (p0 : SV) (p1 : SV) (K : Bool → World → Prop) (w0 : World) : Prop :=
M.ite ((p0.len : Int) != (p1.len : Int)) (
K false w0) (
M.loop1 (fun (J3 : Int → World → Prop) (x2 : Int) (w4 : World) => 
M.ite (decide (x2 < (p0.len : Int))) (
M.drew w4 fun w15 => 
M.idx p0 x2 2 fun a16 =>
M.idx p1 x2 2 fun a20 =>
M.ld (Value.int .i64) (a16.add (x2.toNat * 2)) w15 fun t24 =>
M.ld (Value.int .i64) ((a16.add (x2.toNat * 2)).add 1) w15 fun t26 =>
M.ld (Value.int .i64) (a20.add (x2.toNat * 2)) w15 fun t28 =>
M.ld (Value.int .i64) ((a20.add (x2.toNat * 2)).add 1) w15 fun t30 =>
M.ite (!((t24 == t28) && (t26 == t30))) (
K false w15) (
J3 (IntKind.i64.wrap (x2 + (1 : Int))) w15)) (
K true w4)) (0 : Int) w0)
theorem F13_ok {w0 : World} {p0 : SV} {p1 : SV} {K : Bool → World → Prop} (h : F13 p0 p1 K w0) : Calls Try.prog 13 #[(SV.v p0), (SV.v p1)] w0 (R13 K) := by
  refine calls_of_WE (args := [(SV.v p0), (SV.v p1)]) (rs := [.tmp 4]) Try.func13 rfl (N := 26) rfl rfl rfl rfl ?_
  refine WE.seq ?_
  refine WE.reg ?_
  refine LE.p (v := (Value.bool false)) (Wn.no rfl) rfl (R.assign rfl) ?_
  refine LE.nil ?_
  refine WE.seq ?_
  refine WE.seq ?_
  refine WE.reg ?_
  refine LE.p (v := (SV.v p0)) (Wn.no rfl) rfl (R.move rfl) ?_
  refine LE.p (v := (Value.int .i64 (p0.len : Int))) (Wn.no rfl) rfl (R.len sl28 rfl) ?_
  refine LE.p (v := (SV.v p1)) (Wn.no rfl) rfl (R.move rfl) ?_
  refine LE.p (v := (Value.int .i64 (p1.len : Int))) (Wn.no rfl) rfl (R.len sl28 rfl) ?_
  refine LE.p (v := (Value.bool ((p0.len : Int) != (p1.len : Int)))) (Wn.no rfl) rfl (R.neq rfl rfl) ?_
  refine LE.nil ?_
  refine WE.condT rfl (b := ((p0.len : Int) != (p1.len : Int))) rfl ?_ ?_
  · intro hb1
    replace h := M.ite_t h hb1
    refine WE.seq ?_
    refine WE.reg ?_
    refine LE.p (v := (Value.bool false)) (Wn.no rfl) rfl (R.assign rfl) ?_
    refine LE.nil ?_
    refine WE.ret ?_
    exact ⟨_, (Res.tmp rfl Res.nil), _, rfl, h⟩
  · intro hb1
    replace h := M.ite_f h hb1
    refine WE.skip ?_
    refine WE.seq ?_
    refine WE.seq ?_
    refine WE.reg ?_
    refine LE.p (v := (Value.int .i64 (0 : Int))) (Wn.no rfl) rfl (R.assign rfl) ?_
    refine LE.nil ?_
    refine WE.block ?_
    obtain ⟨I7, ⟨n6, h⟩, hr8⟩ := h
    refine WE.loop (fun n e w => ∃ (x2 : Int), I7 n x2 w ∧ e 0 = (SV.v p0) ∧ e 1 = (SV.v p1) ∧ e 5 = (Value.int .i64 x2)) n6 ⟨_, h, rfl, rfl, rfl⟩ ?_
    clear h
    rintro n6 e5 w4 ⟨x2, h, f11, f12, f13⟩
    replace h := hr8 n6 x2 w4 h
    refine WE.seq ?_
    refine WE.seq ?_
    refine WE.reg ?_
    refine LE.p (v := (Value.int .i64 x2)) (Wn.no rfl) rfl (R.move f13) ?_
    refine LE.p (v := (SV.v p0)) (Wn.no rfl) rfl (R.move f11) ?_
    refine LE.p (v := (Value.int .i64 (p0.len : Int))) (Wn.no rfl) rfl (R.len sl28 rfl) ?_
    refine LE.p (v := (Value.bool (decide (x2 < (p0.len : Int))))) (Wn.no rfl) rfl (R.lss rfl rfl) ?_
    refine LE.nil ?_
    refine WE.condT rfl (b := (decide (x2 < (p0.len : Int)))) rfl ?_ ?_
    · intro hb14
      replace h := M.ite_t h hb14
      refine WE.skip ?_
      refine WE.seq ?_
      refine WE.block ?_
      refine WE.seq ?_
      refine WE.draw mix ?_
      obtain ⟨w15, hww15, h⟩ := M.drew_use h
      rw [← hww15]
      clear hww15
      refine DE.t 0 (v := (SV.v p0)) rfl (by kernel_rfl) (Wn.no rfl) rfl (R.move f11) ?_
      refine DE.t 1 (v := (Value.int .i64 x2)) rfl (by kernel_rfl) (Wn.no rfl) rfl (R.move f13) ?_
      obtain ⟨a16, h17, h18, h19, h⟩ := h
      refine DE.t 2 (v := (Value.pointer (some (a16.add (x2.toNat * 2))))) rfl (by kernel_rfl) (Wn.no rfl) rfl (R.idx (s := p0) sl28 rfl rfl h17 h18 h19) ?_
      refine DE.t 4 (v := (SV.v p1)) rfl (by kernel_rfl) (Wn.no rfl) rfl (R.move f12) ?_
      refine DE.t 5 (v := (Value.int .i64 x2)) rfl (by kernel_rfl) (Wn.no rfl) rfl (R.move f13) ?_
      obtain ⟨a20, h21, h22, h23, h⟩ := h
      refine DE.t 6 (v := (Value.pointer (some (a20.add (x2.toNat * 2))))) rfl (by kernel_rfl) (Wn.no rfl) rfl (R.idx (s := p1) sl28 rfl rfl h21 h22 h23) ?_
      obtain ⟨t24, h25, h⟩ := h
      obtain ⟨t26, h27, h⟩ := h
      refine DE.hold 3 (fun w => w.cell? (a16.add (x2.toNat * 2)) = some (Value.int .i64 t24) ∧ w.cell? ((a16.add (x2.toNat * 2)).add 1) = some (Value.int .i64 t26)) (v := (Value.agg #[(Value.int .i64 t24), (Value.int .i64 t26)])) rfl (by kernel_rfl) (Wn.no rfl) rfl ⟨h25, h27⟩ (fun w hs => R.ldA ag55 sz55 rfl rfl (Cs.cons hs.1 (Cs.cons hs.2 Cs.nil))) ?_
      obtain ⟨t28, h29, h⟩ := h
      obtain ⟨t30, h31, h⟩ := h
      refine DE.main 7 (by kernel_rfl) ?_
      refine One.r 7 (v := (Value.agg #[(Value.int .i64 t28), (Value.int .i64 t30)])) rfl (Wn.no rfl) rfl (R.ldA ag55 sz55 rfl rfl (Cs.cons h29 (Cs.cons h31 Cs.nil))) (.inl rfl) ?_
      refine DE.t 8 (v := (Value.bool (!((t24 == t28) && (t26 == t30))))) rfl (by kernel_rfl) (Wn.no rfl) rfl (R.neS (fun w => eq55 t24 t28 t26 t30 w) sg55 rfl rfl) ?_
      refine DE.done (by kernel_rfl) ?_
      refine WE.condT rfl (b := (!((t24 == t28) && (t26 == t30)))) rfl ?_ ?_
      · intro hb32
        replace h := M.ite_t h hb32
        refine WE.seq ?_
        refine WE.reg ?_
        refine LE.p (v := (Value.bool false)) (Wn.no rfl) rfl (R.assign rfl) ?_
        refine LE.nil ?_
        refine WE.ret ?_
        exact ⟨_, (Res.tmp rfl Res.nil), _, rfl, h⟩
      · intro hb32
        replace h := M.ite_f h hb32
        refine WE.skip ?_
        refine WE.reg ?_
        refine LE.p (v := (Value.int .i64 x2)) (Wn.no rfl) rfl (R.move f13) ?_
        refine LE.p (v := (Value.int .i64 (IntKind.i64.wrap (x2 + (1 : Int))))) (Wn.no rfl) rfl (R.add rfl rfl) ?_
        refine LE.p (v := (Value.int .i64 (IntKind.i64.wrap (x2 + (1 : Int))))) (Wn.no rfl) rfl (R.assign rfl) ?_
        refine LE.nil ?_
        obtain ⟨m9, hm10, h⟩ := h
        exact ⟨m9, hm10, _, h, f11, f12, rfl⟩
    · intro hb14
      replace h := M.ite_f h hb14
      refine WE.exit ?_
      refine WE.seq ?_
      refine WE.reg ?_
      refine LE.p (v := (Value.bool true)) (Wn.no rfl) rfl (R.assign rfl) ?_
      refine LE.nil ?_
      refine WE.ret ?_
      exact ⟨_, (Res.tmp rfl Res.nil), _, rfl, h⟩
end Go.Proofs.Ytnfmkedblnajlaa
