/-
  Printed by gen.py: the formula of each function, and that it holds of the function.
-/
import Derived.Test.YtflffabmfoldeaaTy
namespace Go.Proofs.Ytflffabmfoldeaa
set_option linter.unusedVariables false
set_option linter.unusedSimpArgs false
open Go.Sp
set_option linter.unusedVariables false
/-- The formula of signpost.signpostlaw6.AspathSets. -/
def F3 (p0 : SV) (p1 : Int) (K : Bool → World → Prop) (w0 : World) : Prop :=
M.loop2 (fun (J3 : SV → Int → World → Prop) (x1 : SV) (x2 : Int) (w4 : World) => 
M.join (fun (x16 : Bool) (w19 : World) => 
M.ite x16 (
M.new (.cells #[(Value.int .i64 (0 : Int)), (SV.v SV.nil)] 27) w19 fun b27 w26 =>
M.stA b27 [(Value.int .i64 (1 : Int)), (SV.v SV.nil)] w26 fun w28 =>
M.idx p0 x2 1 fun a30 =>
M.ld (Value.int .i64) (a30.add (x2.toNat * 1)) w28 fun t34 =>
Calls Try.prog 9 #[(Value.int .i64 t34), (Value.int .i64 (0 : Int)), (Value.int .i64 (30 : Int))] w28 (R9 fun r36 w37 =>
M.loop1 (fun (J39 : Int → World → Prop) (x38 : Int) (w40 : World) => 
M.ite (decide ((0 : Int) ≤ x38)) (
M.ld SV.v (b27.add 1) w40 fun t54 =>
M.new (.cells #[(Value.int .u32 (IntKind.u32.wrap (p1 + (IntKind.u32.wrap x38))))] 23) w40 fun b58 w56 =>
M.app Try.prog 25 25 25 t54 (SV.v (SV.mk (some b58) 1 1)) w56 fun s59 w60 =>
M.st (b27.add 1) (SV.v s59) w60 fun w62 =>
J39 (IntKind.i64.wrap (x38 - (1 : Int))) w62) (
M.ld (Value.int .i64) b27 w40 fun t65 =>
M.ld SV.v (b27.add 1) w40 fun t67 =>
M.new (.cells #[(Value.int .i64 t65), (SV.v t67)] 27) w40 fun b71 w69 =>
M.app Try.prog 24 24 24 x1 (SV.v (SV.mk (some b71) 1 1)) w69 fun s72 w73 =>
J3 s72 (IntKind.i64.wrap (x2 + (1 : Int))) w73)) r36 w37)) (
Calls Try.prog 10 #[(SV.v x1)] w19 (R10 fun r75 r76 w77 =>
Calls Try.prog 11 #[(SV.v x1), (Value.int .u32 p1), (Value.int .i64 (1 : Int))] w77 (R11 fun r78 w79 =>
Calls Try.prog 10 #[(SV.v r78)] w79 (R10 fun r80 r81 w82 =>
M.join (fun (x84 : Bool) (w101 : World) => 
K x84 w101) fun J83 => 
M.ite (!r76) (
Calls Try.prog 12 #[(SV.v x1)] w82 (R12 fun r86 w87 =>
M.ite r86 (
Calls Try.prog 13 #[(SV.v x1)] w87 (R13 fun r89 w90 =>
M.ite (r89 == (x1.len : Int)) (
M.ite r81 (
M.ite (r80 == p1) (
M.ite ((r78.len : Int) == (IntKind.i64.wrap ((x1.len : Int) + (1 : Int)))) (
Calls Try.prog 12 #[(SV.v r78)] w90 (R12 fun r95 w96 =>
M.ite (r95 == (decide ((x1.len : Int) < (16 : Int)))) (
Calls Try.prog 14 #[] w96 (R14 fun r98 w99 =>
J83 r98 w99)) (
J83 false w96))) (
J83 false w90)) (
J83 false w90)) (
J83 false w90)) (
J83 false w90))) (
J83 false w87))) (
J83 false w82)))))) fun J15 => 
M.ite (decide (x2 < (p0.len : Int))) (
J15 (decide (x2 < (16 : Int))) w4) (
J15 false w4)) SV.nil (0 : Int) w0
theorem F3_ok {w0 : World} {p0 : SV} {p1 : Int} {K : Bool → World → Prop} (h : F3 p0 p1 K w0) : Calls Try.prog 3 #[(SV.v p0), (Value.int .u32 p1)] w0 (R3 K) := by
  refine calls_of_WE (args := [(SV.v p0), (Value.int .u32 p1)]) (rs := [.tmp 4]) Try.func3 rfl (N := 100) rfl rfl rfl rfl ?_
  refine WE.seq ?_
  refine WE.reg ?_
  refine LE.p (v := (Value.bool false)) (Wn.no rfl) rfl (R.assign rfl) ?_
  refine LE.nil ?_
  refine WE.seq ?_
  refine WE.reg ?_
  refine LE.p (v := (SV.v SV.nil)) (Wn.no rfl) rfl (R.assign rfl) ?_
  refine LE.nil ?_
  refine WE.seq ?_
  refine WE.seq ?_
  refine WE.reg ?_
  refine LE.p (v := (Value.int .i64 (0 : Int))) (Wn.no rfl) rfl (R.assign rfl) ?_
  refine LE.nil ?_
  refine WE.block ?_
  obtain ⟨I7, ⟨n6, h⟩, hr8⟩ := h
  refine WE.loop (fun n e w => ∃ (x1 : SV) (x2 : Int), I7 n x1 x2 w ∧ e 0 = (SV.v p0) ∧ e 1 = (Value.int .u32 p1) ∧ e 5 = (SV.v x1) ∧ e 6 = (Value.int .i64 x2)) n6 ⟨_, _, h, rfl, rfl, rfl, rfl⟩ ?_
  clear h
  rintro n6 e5 w4 ⟨x1, x2, h, f11, f12, f13, f14⟩
  replace h := hr8 n6 x1 x2 w4 h
  refine WE.seq ?_
  refine WE.seq ?_
  obtain ⟨J15, hJ15, h⟩ := M.join_use h
  refine WE.regJ (fun e w => ∃ (x16 : Bool), J15 x16 w ∧ e 0 = (SV.v p0) ∧ e 1 = (Value.int .u32 p1) ∧ e 5 = (SV.v x1) ∧ e 6 = (Value.int .i64 x2) ∧ e 21 = (Value.bool x16)) ?_ ?_
  · clear hJ15
    refine LE.p (v := (Value.int .i64 x2)) (Wn.no rfl) rfl (R.move f14) ?_
    refine LE.p (v := (SV.v p0)) (Wn.no rfl) rfl (R.move f11) ?_
    refine LE.p (v := (Value.int .i64 (p0.len : Int))) (Wn.no rfl) rfl (R.len sl22 rfl) ?_
    refine LE.p (v := (Value.bool (decide (x2 < (p0.len : Int))))) (Wn.no rfl) rfl (R.lss rfl rfl) ?_
    refine LE.p (v := (Value.bool (decide (x2 < (p0.len : Int))))) (Wn.no rfl) rfl (R.move rfl) ?_
    rcases M.ite_use h with ⟨hb17, h⟩ | ⟨hb17, h⟩
    · refine LE.p (v := (Value.int .i64 x2)) (Wn.yes 4 18 true rfl rfl rfl (congrArg Value.bool hb17)) rfl (R.move f14) ?_
      refine LE.p (v := (Value.bool (decide (x2 < (16 : Int))))) (Wn.yes 4 18 true rfl rfl rfl (congrArg Value.bool hb17)) rfl (R.lss rfl rfl) ?_
      refine LE.p (v := (Value.bool (decide (x2 < (16 : Int))))) (Wn.no rfl) rfl (R.pickT (congrArg Value.bool hb17) rfl) ?_
      refine LE.nil ?_
      exact ⟨_, h, f11, f12, f13, f14, rfl⟩
    · refine LE.u (Un.no 4 18 true rfl rfl rfl (congrArg Value.bool hb17)) ?_
      refine LE.u (Un.no 4 18 true rfl rfl rfl (congrArg Value.bool hb17)) ?_
      refine LE.p (v := (Value.bool false)) (Wn.no rfl) rfl (R.pickF (congrArg Value.bool hb17) rfl) ?_
      refine LE.nil ?_
      exact ⟨_, h, f11, f12, f13, f14, rfl⟩
  · rintro e18 w19 ⟨x16, h, f20, f21, f22, f23, f24⟩
    subst hJ15
    refine WE.condT rfl (b := x16) f24 ?_ ?_
    · intro hb25
      replace h := M.ite_t h hb25
      refine WE.skip ?_
      refine WE.seq ?_
      refine WE.block ?_
      refine WE.seq ?_
      refine WE.reg ?_
      refine LE.p (v := (Value.agg #[(Value.int .i64 (1 : Int)), (SV.v SV.nil)])) (Wn.no rfl) rfl (R.bld (by exact (Ls.cons (R.Pr rfl) Ls.nil)) (fun w => bu27_0 (1 : Int) w)) ?_
      obtain ⟨b27, hpb27, w26, hww26, h⟩ := M.new_use h
      refine LE.r (v := (Value.pointer (some b27))) (Wn.no rfl) rfl (R.alloc (cs := #[(Value.int .i64 (0 : Int)), (SV.v SV.nil)]) ze27 rfl hpb27 hww26) ?_
      obtain ⟨w28, hww28, h29, h⟩ := M.stA_use h
      refine LE.s (Wn.no rfl) rfl (R.stA (a := b27) [(Value.int .i64 (1 : Int)), (SV.v SV.nil)] sz27 rfl rfl rfl (by simp [Value.oneCell']) h29 hww28) ?_
      refine LE.nil ?_
      refine WE.seq ?_
      refine WE.seq ?_
      refine WE.reg ?_
      refine LE.p (v := (SV.v p0)) (Wn.no rfl) rfl (R.move f20) ?_
      refine LE.p (v := (Value.int .i64 x2)) (Wn.no rfl) rfl (R.move f23) ?_
      obtain ⟨a30, h31, h32, h33, h⟩ := h
      refine LE.p (v := (Value.pointer (some (a30.add (x2.toNat * 1))))) (Wn.no rfl) rfl (R.idx (s := p0) sl22 rfl rfl h31 h32 h33) ?_
      obtain ⟨t34, h35, h⟩ := h
      refine LE.r (v := (Value.int .i64 t34)) (Wn.no rfl) rfl (R.ld sc3 rfl h35) ?_
      refine LE.c (Wn.no rfl) rfl (R.call bd9 (Ls.cons rfl (Ls.cons rfl (Ls.cons rfl Ls.nil))) rfl) (Calls.mono h ?_)
      rintro _ w37 ⟨r36, rfl, h⟩
      refine ⟨_, rfl, ?_⟩
      refine LE.p (v := (Value.int .i64 r36)) (Wn.no rfl) rfl (R.assign rfl) ?_
      refine LE.nil ?_
      refine WE.block ?_
      obtain ⟨I43, ⟨n42, h⟩, hr44⟩ := h
      refine WE.loop (fun n e w => ∃ (x38 : Int), I43 n x38 w ∧ e 0 = (SV.v p0) ∧ e 1 = (Value.int .u32 p1) ∧ e 5 = (SV.v x1) ∧ e 6 = (Value.int .i64 x2) ∧ e 7 = (Value.pointer (some b27)) ∧ e 8 = (Value.int .i64 x38)) n42 ⟨_, h, f20, f21, f22, f23, rfl, rfl⟩ ?_
      clear h
      rintro n42 e41 w40 ⟨x38, h, f47, f48, f49, f50, f51, f52⟩
      replace h := hr44 n42 x38 w40 h
      refine WE.seq ?_
      refine WE.seq ?_
      refine WE.reg ?_
      refine LE.p (v := (Value.int .i64 x38)) (Wn.no rfl) rfl (R.move f52) ?_
      refine LE.p (v := (Value.bool (decide ((0 : Int) ≤ x38)))) (Wn.no rfl) rfl (R.geq rfl rfl) ?_
      refine LE.nil ?_
      refine WE.condT rfl (b := (decide ((0 : Int) ≤ x38))) rfl ?_ ?_
      · intro hb53
        replace h := M.ite_t h hb53
        refine WE.skip ?_
        refine WE.seq ?_
        refine WE.block ?_
        refine WE.reg ?_
        refine LE.p (v := (Value.pointer (some (b27.add 1)))) (Wn.no rfl) rfl (R.fld (off := 1) fa27_1 f51) ?_
        obtain ⟨t54, h55, h⟩ := h
        refine LE.r (v := (SV.v t54)) (Wn.no rfl) rfl (R.ld sc25 rfl h55) ?_
        refine LE.p (v := (Value.int .u32 p1)) (Wn.no rfl) rfl (R.move f48) ?_
        refine LE.p (v := (Value.int .i64 x38)) (Wn.no rfl) rfl (R.move f52) ?_
        refine LE.p (v := (Value.int .u32 (IntKind.u32.wrap x38))) (Wn.no rfl) rfl (R.conv in23 in3 rfl) ?_
        refine LE.p (v := (Value.int .u32 (IntKind.u32.wrap (p1 + (IntKind.u32.wrap x38))))) (Wn.no rfl) rfl (R.add rfl rfl) ?_
        obtain ⟨b58, hpb58, w56, hww56, h⟩ := M.new_use h
        refine LE.r (v := (SV.v (SV.mk (some b58) 1 1))) (Wn.no rfl) rfl (R.bsl (by exact (Ls.cons (R.Pr rfl) Ls.nil)) (fun w => bs25_1 (IntKind.u32.wrap (p1 + (IntKind.u32.wrap x38))) w) hpb58 hww56) ?_
        obtain ⟨s59, w60, h61, h⟩ := h
        refine LE.r (v := (SV.v s59)) (Wn.no rfl) rfl (R.app (s := t54) (r := s59) rfl rfl h61) ?_
        refine LE.p (v := (Value.pointer (some (b27.add 1)))) (Wn.no rfl) rfl (R.fld (off := 1) fa27_1 f51) ?_
        obtain ⟨w62, hww62, h63, h64, h⟩ := M.st_use h
        refine LE.s (Wn.no rfl) rfl (R.st (a := (b27.add 1)) (v := (SV.v s59)) sz25 rfl rfl rfl rfl h63 h64 hww62) ?_
        refine LE.nil ?_
        refine WE.reg ?_
        refine LE.p (v := (Value.int .i64 x38)) (Wn.no rfl) rfl (R.move f52) ?_
        refine LE.p (v := (Value.int .i64 (IntKind.i64.wrap (x38 - (1 : Int))))) (Wn.no rfl) rfl (R.sub rfl rfl) ?_
        refine LE.p (v := (Value.int .i64 (IntKind.i64.wrap (x38 - (1 : Int))))) (Wn.no rfl) rfl (R.assign rfl) ?_
        refine LE.nil ?_
        obtain ⟨m45, hm46, h⟩ := h
        exact ⟨m45, hm46, _, h, f47, f48, f49, f50, f51, rfl⟩
      · intro hb53
        replace h := M.ite_f h hb53
        refine WE.exit ?_
        refine WE.reg ?_
        refine LE.p (v := (SV.v x1)) (Wn.no rfl) rfl (R.move f49) ?_
        obtain ⟨t65, h66, h⟩ := h
        obtain ⟨t67, h68, h⟩ := h
        refine LE.r (v := (Value.agg #[(Value.int .i64 t65), (SV.v t67)])) (Wn.no rfl) rfl (R.ldA ag27 sz27 f51 rfl (Cs.cons h66 (Cs.cons h68 Cs.nil))) ?_
        obtain ⟨b71, hpb71, w69, hww69, h⟩ := M.new_use h
        refine LE.r (v := (SV.v (SV.mk (some b71) 1 1))) (Wn.no rfl) rfl (R.bsl (by exact (Ls.cons (R.Pr rfl) Ls.nil)) (fun w => bs24_1 t65 t67 w) hpb71 hww69) ?_
        obtain ⟨s72, w73, h74, h⟩ := h
        refine LE.r (v := (SV.v s72)) (Wn.no rfl) rfl (R.app (s := x1) (r := s72) rfl rfl h74) ?_
        refine LE.p (v := (SV.v s72)) (Wn.no rfl) rfl (R.assign rfl) ?_
        refine LE.nil ?_
        refine WE.reg ?_
        refine LE.p (v := (Value.int .i64 x2)) (Wn.no rfl) rfl (R.move f50) ?_
        refine LE.p (v := (Value.int .i64 (IntKind.i64.wrap (x2 + (1 : Int))))) (Wn.no rfl) rfl (R.add rfl rfl) ?_
        refine LE.p (v := (Value.int .i64 (IntKind.i64.wrap (x2 + (1 : Int))))) (Wn.no rfl) rfl (R.assign rfl) ?_
        refine LE.nil ?_
        obtain ⟨m9, hm10, h⟩ := h
        exact ⟨m9, hm10, _, _, h, f47, f48, rfl, rfl⟩
    · intro hb25
      replace h := M.ite_f h hb25
      refine WE.exit ?_
      refine WE.seq ?_
      refine WE.reg ?_
      refine LE.p (v := (SV.v x1)) (Wn.no rfl) rfl (R.move f22) ?_
      refine LE.c (Wn.no rfl) rfl (R.call bd10 (Ls.cons rfl Ls.nil) rfl) (Calls.mono h ?_)
      rintro _ w77 ⟨r75, r76, rfl, h⟩
      refine ⟨_, rfl, ?_⟩
      refine LE.p (v := (Value.tuple #[(Value.int .u32 r75), (Value.bool r76)])) (Wn.no rfl) rfl (R.move rfl) ?_
      refine LE.p (v := (Value.int .u32 r75)) (Wn.no rfl) rfl (R.ext rfl rfl) ?_
      refine LE.p (v := (Value.bool r76)) (Wn.no rfl) rfl (R.ext rfl rfl) ?_
      refine LE.p (v := (Value.int .u32 r75)) (Wn.no rfl) rfl (R.assign rfl) ?_
      refine LE.p (v := (Value.bool r76)) (Wn.no rfl) rfl (R.assign rfl) ?_
      refine LE.nil ?_
      refine WE.seq ?_
      refine WE.reg ?_
      refine LE.p (v := (SV.v x1)) (Wn.no rfl) rfl (R.move f22) ?_
      refine LE.p (v := (Value.int .u32 p1)) (Wn.no rfl) rfl (R.move f21) ?_
      refine LE.c (Wn.no rfl) rfl (R.call bd11 (Ls.cons rfl (Ls.cons rfl (Ls.cons rfl Ls.nil))) rfl) (Calls.mono h ?_)
      rintro _ w79 ⟨r78, rfl, h⟩
      refine ⟨_, rfl, ?_⟩
      refine LE.p (v := (SV.v r78)) (Wn.no rfl) rfl (R.assign rfl) ?_
      refine LE.nil ?_
      refine WE.seq ?_
      refine WE.reg ?_
      refine LE.p (v := (SV.v r78)) (Wn.no rfl) rfl (R.move rfl) ?_
      refine LE.c (Wn.no rfl) rfl (R.call bd10 (Ls.cons rfl Ls.nil) rfl) (Calls.mono h ?_)
      rintro _ w82 ⟨r80, r81, rfl, h⟩
      refine ⟨_, rfl, ?_⟩
      refine LE.p (v := (Value.tuple #[(Value.int .u32 r80), (Value.bool r81)])) (Wn.no rfl) rfl (R.move rfl) ?_
      refine LE.p (v := (Value.int .u32 r80)) (Wn.no rfl) rfl (R.ext rfl rfl) ?_
      refine LE.p (v := (Value.bool r81)) (Wn.no rfl) rfl (R.ext rfl rfl) ?_
      refine LE.p (v := (Value.int .u32 r80)) (Wn.no rfl) rfl (R.assign rfl) ?_
      refine LE.p (v := (Value.bool r81)) (Wn.no rfl) rfl (R.assign rfl) ?_
      refine LE.nil ?_
      refine WE.seq ?_
      obtain ⟨J83, hJ83, h⟩ := M.join_use h
      refine WE.regJ (fun e w => ∃ (x84 : Bool), J83 x84 w ∧ e 4 = (Value.bool x84)) ?_ ?_
      · clear hJ83
        refine LE.p (v := (Value.bool r76)) (Wn.no rfl) rfl (R.move rfl) ?_
        refine LE.p (v := (Value.bool (!r76))) (Wn.no rfl) rfl (R.not rfl) ?_
        refine LE.p (v := (Value.bool (!r76))) (Wn.no rfl) rfl (R.move rfl) ?_
        rcases M.ite_use h with ⟨hb85, h⟩ | ⟨hb85, h⟩
        · refine LE.p (v := (SV.v x1)) (Wn.yes 2 62 true rfl rfl rfl (congrArg Value.bool hb85)) rfl (R.move f22) ?_
          refine LE.c (Wn.yes 2 62 true rfl rfl rfl (congrArg Value.bool hb85)) rfl (R.call bd12 (Ls.cons rfl Ls.nil) rfl) (Calls.mono h ?_)
          rintro _ w87 ⟨r86, rfl, h⟩
          refine ⟨_, rfl, ?_⟩
          refine LE.p (v := (Value.bool r86)) (Wn.no rfl) rfl (R.pickT (congrArg Value.bool hb85) rfl) ?_
          refine LE.p (v := (Value.bool r86)) (Wn.no rfl) rfl (R.move rfl) ?_
          rcases M.ite_use h with ⟨hb88, h⟩ | ⟨hb88, h⟩
          · refine LE.p (v := (SV.v x1)) (Wn.yes 6 66 true rfl rfl rfl (congrArg Value.bool hb88)) rfl (R.move f22) ?_
            refine LE.c (Wn.yes 6 66 true rfl rfl rfl (congrArg Value.bool hb88)) rfl (R.call bd13 (Ls.cons rfl Ls.nil) rfl) (Calls.mono h ?_)
            rintro _ w90 ⟨r89, rfl, h⟩
            refine ⟨_, rfl, ?_⟩
            refine LE.p (v := (SV.v x1)) (Wn.yes 6 66 true rfl rfl rfl (congrArg Value.bool hb88)) rfl (R.move f22) ?_
            refine LE.p (v := (Value.int .i64 (x1.len : Int))) (Wn.yes 6 66 true rfl rfl rfl (congrArg Value.bool hb88)) rfl (R.len sl24 rfl) ?_
            refine LE.p (v := (Value.bool (r89 == (x1.len : Int)))) (Wn.yes 6 66 true rfl rfl rfl (congrArg Value.bool hb88)) rfl (R.eql rfl rfl) ?_
            refine LE.p (v := (Value.bool (r89 == (x1.len : Int)))) (Wn.no rfl) rfl (R.pickT (congrArg Value.bool hb88) rfl) ?_
            refine LE.p (v := (Value.bool (r89 == (x1.len : Int)))) (Wn.no rfl) rfl (R.move rfl) ?_
            rcases M.ite_use h with ⟨hb91, h⟩ | ⟨hb91, h⟩
            · refine LE.p (v := (Value.bool r81)) (Wn.yes 13 73 true rfl rfl rfl (congrArg Value.bool hb91)) rfl (R.move rfl) ?_
              refine LE.p (v := (Value.bool r81)) (Wn.no rfl) rfl (R.pickT (congrArg Value.bool hb91) rfl) ?_
              refine LE.p (v := (Value.bool r81)) (Wn.no rfl) rfl (R.move rfl) ?_
              rcases M.ite_use h with ⟨hb92, h⟩ | ⟨hb92, h⟩
              · refine LE.p (v := (Value.int .u32 r80)) (Wn.yes 16 76 true rfl rfl rfl (congrArg Value.bool hb92)) rfl (R.move rfl) ?_
                refine LE.p (v := (Value.int .u32 p1)) (Wn.yes 16 76 true rfl rfl rfl (congrArg Value.bool hb92)) rfl (R.move f21) ?_
                refine LE.p (v := (Value.bool (r80 == p1))) (Wn.yes 16 76 true rfl rfl rfl (congrArg Value.bool hb92)) rfl (R.eql rfl rfl) ?_
                refine LE.p (v := (Value.bool (r80 == p1))) (Wn.no rfl) rfl (R.pickT (congrArg Value.bool hb92) rfl) ?_
                refine LE.p (v := (Value.bool (r80 == p1))) (Wn.no rfl) rfl (R.move rfl) ?_
                rcases M.ite_use h with ⟨hb93, h⟩ | ⟨hb93, h⟩
                · refine LE.p (v := (SV.v r78)) (Wn.yes 21 81 true rfl rfl rfl (congrArg Value.bool hb93)) rfl (R.move rfl) ?_
                  refine LE.p (v := (Value.int .i64 (r78.len : Int))) (Wn.yes 21 81 true rfl rfl rfl (congrArg Value.bool hb93)) rfl (R.len sl24 rfl) ?_
                  refine LE.p (v := (SV.v x1)) (Wn.yes 21 81 true rfl rfl rfl (congrArg Value.bool hb93)) rfl (R.move f22) ?_
                  refine LE.p (v := (Value.int .i64 (x1.len : Int))) (Wn.yes 21 81 true rfl rfl rfl (congrArg Value.bool hb93)) rfl (R.len sl24 rfl) ?_
                  refine LE.p (v := (Value.int .i64 (IntKind.i64.wrap ((x1.len : Int) + (1 : Int))))) (Wn.yes 21 81 true rfl rfl rfl (congrArg Value.bool hb93)) rfl (R.add rfl rfl) ?_
                  refine LE.p (v := (Value.bool ((r78.len : Int) == (IntKind.i64.wrap ((x1.len : Int) + (1 : Int)))))) (Wn.yes 21 81 true rfl rfl rfl (congrArg Value.bool hb93)) rfl (R.eql rfl rfl) ?_
                  refine LE.p (v := (Value.bool ((r78.len : Int) == (IntKind.i64.wrap ((x1.len : Int) + (1 : Int)))))) (Wn.no rfl) rfl (R.pickT (congrArg Value.bool hb93) rfl) ?_
                  refine LE.p (v := (Value.bool ((r78.len : Int) == (IntKind.i64.wrap ((x1.len : Int) + (1 : Int)))))) (Wn.no rfl) rfl (R.move rfl) ?_
                  rcases M.ite_use h with ⟨hb94, h⟩ | ⟨hb94, h⟩
                  · refine LE.p (v := (SV.v r78)) (Wn.yes 29 89 true rfl rfl rfl (congrArg Value.bool hb94)) rfl (R.move rfl) ?_
                    refine LE.c (Wn.yes 29 89 true rfl rfl rfl (congrArg Value.bool hb94)) rfl (R.call bd12 (Ls.cons rfl Ls.nil) rfl) (Calls.mono h ?_)
                    rintro _ w96 ⟨r95, rfl, h⟩
                    refine ⟨_, rfl, ?_⟩
                    refine LE.p (v := (SV.v x1)) (Wn.yes 29 89 true rfl rfl rfl (congrArg Value.bool hb94)) rfl (R.move f22) ?_
                    refine LE.p (v := (Value.int .i64 (x1.len : Int))) (Wn.yes 29 89 true rfl rfl rfl (congrArg Value.bool hb94)) rfl (R.len sl24 rfl) ?_
                    refine LE.p (v := (Value.bool (decide ((x1.len : Int) < (16 : Int))))) (Wn.yes 29 89 true rfl rfl rfl (congrArg Value.bool hb94)) rfl (R.lss rfl rfl) ?_
                    refine LE.p (v := (Value.bool (r95 == (decide ((x1.len : Int) < (16 : Int)))))) (Wn.yes 29 89 true rfl rfl rfl (congrArg Value.bool hb94)) rfl (R.beql bo4 rfl rfl) ?_
                    refine LE.p (v := (Value.bool (r95 == (decide ((x1.len : Int) < (16 : Int)))))) (Wn.no rfl) rfl (R.pickT (congrArg Value.bool hb94) rfl) ?_
                    refine LE.p (v := (Value.bool (r95 == (decide ((x1.len : Int) < (16 : Int)))))) (Wn.no rfl) rfl (R.move rfl) ?_
                    rcases M.ite_use h with ⟨hb97, h⟩ | ⟨hb97, h⟩
                    · refine LE.c (Wn.yes 37 97 true rfl rfl rfl (congrArg Value.bool hb97)) rfl (R.call bd14 Ls.nil rfl) (Calls.mono h ?_)
                      rintro _ w99 ⟨r98, rfl, h⟩
                      refine ⟨_, rfl, ?_⟩
                      refine LE.p (v := (Value.bool r98)) (Wn.no rfl) rfl (R.pickT (congrArg Value.bool hb97) rfl) ?_
                      refine LE.p (v := (Value.bool r98)) (Wn.no rfl) rfl (R.assign rfl) ?_
                      refine LE.nil ?_
                      exact ⟨_, h, rfl⟩
                    · refine LE.u (Un.no 37 97 true rfl rfl rfl (congrArg Value.bool hb97)) ?_
                      refine LE.p (v := (Value.bool false)) (Wn.no rfl) rfl (R.pickF (congrArg Value.bool hb97) rfl) ?_
                      refine LE.p (v := (Value.bool false)) (Wn.no rfl) rfl (R.assign rfl) ?_
                      refine LE.nil ?_
                      exact ⟨_, h, rfl⟩
                  · refine LE.u (Un.no 29 89 true rfl rfl rfl (congrArg Value.bool hb94)) ?_
                    refine LE.u (Un.no 29 89 true rfl rfl rfl (congrArg Value.bool hb94)) ?_
                    refine LE.u (Un.no 29 89 true rfl rfl rfl (congrArg Value.bool hb94)) ?_
                    refine LE.u (Un.no 29 89 true rfl rfl rfl (congrArg Value.bool hb94)) ?_
                    refine LE.u (Un.no 29 89 true rfl rfl rfl (congrArg Value.bool hb94)) ?_
                    refine LE.u (Un.no 29 89 true rfl rfl rfl (congrArg Value.bool hb94)) ?_
                    refine LE.p (v := (Value.bool false)) (Wn.no rfl) rfl (R.pickF (congrArg Value.bool hb94) rfl) ?_
                    refine LE.p (v := (Value.bool false)) (Wn.no rfl) rfl (R.move rfl) ?_
                    refine LE.u (Un.no 37 97 true rfl rfl rfl rfl) ?_
                    refine LE.p (v := (Value.bool false)) (Wn.no rfl) rfl (R.pickF rfl rfl) ?_
                    refine LE.p (v := (Value.bool false)) (Wn.no rfl) rfl (R.assign rfl) ?_
                    refine LE.nil ?_
                    exact ⟨_, h, rfl⟩
                · refine LE.u (Un.no 21 81 true rfl rfl rfl (congrArg Value.bool hb93)) ?_
                  refine LE.u (Un.no 21 81 true rfl rfl rfl (congrArg Value.bool hb93)) ?_
                  refine LE.u (Un.no 21 81 true rfl rfl rfl (congrArg Value.bool hb93)) ?_
                  refine LE.u (Un.no 21 81 true rfl rfl rfl (congrArg Value.bool hb93)) ?_
                  refine LE.u (Un.no 21 81 true rfl rfl rfl (congrArg Value.bool hb93)) ?_
                  refine LE.u (Un.no 21 81 true rfl rfl rfl (congrArg Value.bool hb93)) ?_
                  refine LE.p (v := (Value.bool false)) (Wn.no rfl) rfl (R.pickF (congrArg Value.bool hb93) rfl) ?_
                  refine LE.p (v := (Value.bool false)) (Wn.no rfl) rfl (R.move rfl) ?_
                  refine LE.u (Un.no 29 89 true rfl rfl rfl rfl) ?_
                  refine LE.u (Un.no 29 89 true rfl rfl rfl rfl) ?_
                  refine LE.u (Un.no 29 89 true rfl rfl rfl rfl) ?_
                  refine LE.u (Un.no 29 89 true rfl rfl rfl rfl) ?_
                  refine LE.u (Un.no 29 89 true rfl rfl rfl rfl) ?_
                  refine LE.u (Un.no 29 89 true rfl rfl rfl rfl) ?_
                  refine LE.p (v := (Value.bool false)) (Wn.no rfl) rfl (R.pickF rfl rfl) ?_
                  refine LE.p (v := (Value.bool false)) (Wn.no rfl) rfl (R.move rfl) ?_
                  refine LE.u (Un.no 37 97 true rfl rfl rfl rfl) ?_
                  refine LE.p (v := (Value.bool false)) (Wn.no rfl) rfl (R.pickF rfl rfl) ?_
                  refine LE.p (v := (Value.bool false)) (Wn.no rfl) rfl (R.assign rfl) ?_
                  refine LE.nil ?_
                  exact ⟨_, h, rfl⟩
              · refine LE.u (Un.no 16 76 true rfl rfl rfl (congrArg Value.bool hb92)) ?_
                refine LE.u (Un.no 16 76 true rfl rfl rfl (congrArg Value.bool hb92)) ?_
                refine LE.u (Un.no 16 76 true rfl rfl rfl (congrArg Value.bool hb92)) ?_
                refine LE.p (v := (Value.bool false)) (Wn.no rfl) rfl (R.pickF (congrArg Value.bool hb92) rfl) ?_
                refine LE.p (v := (Value.bool false)) (Wn.no rfl) rfl (R.move rfl) ?_
                refine LE.u (Un.no 21 81 true rfl rfl rfl rfl) ?_
                refine LE.u (Un.no 21 81 true rfl rfl rfl rfl) ?_
                refine LE.u (Un.no 21 81 true rfl rfl rfl rfl) ?_
                refine LE.u (Un.no 21 81 true rfl rfl rfl rfl) ?_
                refine LE.u (Un.no 21 81 true rfl rfl rfl rfl) ?_
                refine LE.u (Un.no 21 81 true rfl rfl rfl rfl) ?_
                refine LE.p (v := (Value.bool false)) (Wn.no rfl) rfl (R.pickF rfl rfl) ?_
                refine LE.p (v := (Value.bool false)) (Wn.no rfl) rfl (R.move rfl) ?_
                refine LE.u (Un.no 29 89 true rfl rfl rfl rfl) ?_
                refine LE.u (Un.no 29 89 true rfl rfl rfl rfl) ?_
                refine LE.u (Un.no 29 89 true rfl rfl rfl rfl) ?_
                refine LE.u (Un.no 29 89 true rfl rfl rfl rfl) ?_
                refine LE.u (Un.no 29 89 true rfl rfl rfl rfl) ?_
                refine LE.u (Un.no 29 89 true rfl rfl rfl rfl) ?_
                refine LE.p (v := (Value.bool false)) (Wn.no rfl) rfl (R.pickF rfl rfl) ?_
                refine LE.p (v := (Value.bool false)) (Wn.no rfl) rfl (R.move rfl) ?_
                refine LE.u (Un.no 37 97 true rfl rfl rfl rfl) ?_
                refine LE.p (v := (Value.bool false)) (Wn.no rfl) rfl (R.pickF rfl rfl) ?_
                refine LE.p (v := (Value.bool false)) (Wn.no rfl) rfl (R.assign rfl) ?_
                refine LE.nil ?_
                exact ⟨_, h, rfl⟩
            · refine LE.u (Un.no 13 73 true rfl rfl rfl (congrArg Value.bool hb91)) ?_
              refine LE.p (v := (Value.bool false)) (Wn.no rfl) rfl (R.pickF (congrArg Value.bool hb91) rfl) ?_
              refine LE.p (v := (Value.bool false)) (Wn.no rfl) rfl (R.move rfl) ?_
              refine LE.u (Un.no 16 76 true rfl rfl rfl rfl) ?_
              refine LE.u (Un.no 16 76 true rfl rfl rfl rfl) ?_
              refine LE.u (Un.no 16 76 true rfl rfl rfl rfl) ?_
              refine LE.p (v := (Value.bool false)) (Wn.no rfl) rfl (R.pickF rfl rfl) ?_
              refine LE.p (v := (Value.bool false)) (Wn.no rfl) rfl (R.move rfl) ?_
              refine LE.u (Un.no 21 81 true rfl rfl rfl rfl) ?_
              refine LE.u (Un.no 21 81 true rfl rfl rfl rfl) ?_
              refine LE.u (Un.no 21 81 true rfl rfl rfl rfl) ?_
              refine LE.u (Un.no 21 81 true rfl rfl rfl rfl) ?_
              refine LE.u (Un.no 21 81 true rfl rfl rfl rfl) ?_
              refine LE.u (Un.no 21 81 true rfl rfl rfl rfl) ?_
              refine LE.p (v := (Value.bool false)) (Wn.no rfl) rfl (R.pickF rfl rfl) ?_
              refine LE.p (v := (Value.bool false)) (Wn.no rfl) rfl (R.move rfl) ?_
              refine LE.u (Un.no 29 89 true rfl rfl rfl rfl) ?_
              refine LE.u (Un.no 29 89 true rfl rfl rfl rfl) ?_
              refine LE.u (Un.no 29 89 true rfl rfl rfl rfl) ?_
              refine LE.u (Un.no 29 89 true rfl rfl rfl rfl) ?_
              refine LE.u (Un.no 29 89 true rfl rfl rfl rfl) ?_
              refine LE.u (Un.no 29 89 true rfl rfl rfl rfl) ?_
              refine LE.p (v := (Value.bool false)) (Wn.no rfl) rfl (R.pickF rfl rfl) ?_
              refine LE.p (v := (Value.bool false)) (Wn.no rfl) rfl (R.move rfl) ?_
              refine LE.u (Un.no 37 97 true rfl rfl rfl rfl) ?_
              refine LE.p (v := (Value.bool false)) (Wn.no rfl) rfl (R.pickF rfl rfl) ?_
              refine LE.p (v := (Value.bool false)) (Wn.no rfl) rfl (R.assign rfl) ?_
              refine LE.nil ?_
              exact ⟨_, h, rfl⟩
          · refine LE.u (Un.no 6 66 true rfl rfl rfl (congrArg Value.bool hb88)) ?_
            refine LE.u (Un.no 6 66 true rfl rfl rfl (congrArg Value.bool hb88)) ?_
            refine LE.u (Un.no 6 66 true rfl rfl rfl (congrArg Value.bool hb88)) ?_
            refine LE.u (Un.no 6 66 true rfl rfl rfl (congrArg Value.bool hb88)) ?_
            refine LE.u (Un.no 6 66 true rfl rfl rfl (congrArg Value.bool hb88)) ?_
            refine LE.p (v := (Value.bool false)) (Wn.no rfl) rfl (R.pickF (congrArg Value.bool hb88) rfl) ?_
            refine LE.p (v := (Value.bool false)) (Wn.no rfl) rfl (R.move rfl) ?_
            refine LE.u (Un.no 13 73 true rfl rfl rfl rfl) ?_
            refine LE.p (v := (Value.bool false)) (Wn.no rfl) rfl (R.pickF rfl rfl) ?_
            refine LE.p (v := (Value.bool false)) (Wn.no rfl) rfl (R.move rfl) ?_
            refine LE.u (Un.no 16 76 true rfl rfl rfl rfl) ?_
            refine LE.u (Un.no 16 76 true rfl rfl rfl rfl) ?_
            refine LE.u (Un.no 16 76 true rfl rfl rfl rfl) ?_
            refine LE.p (v := (Value.bool false)) (Wn.no rfl) rfl (R.pickF rfl rfl) ?_
            refine LE.p (v := (Value.bool false)) (Wn.no rfl) rfl (R.move rfl) ?_
            refine LE.u (Un.no 21 81 true rfl rfl rfl rfl) ?_
            refine LE.u (Un.no 21 81 true rfl rfl rfl rfl) ?_
            refine LE.u (Un.no 21 81 true rfl rfl rfl rfl) ?_
            refine LE.u (Un.no 21 81 true rfl rfl rfl rfl) ?_
            refine LE.u (Un.no 21 81 true rfl rfl rfl rfl) ?_
            refine LE.u (Un.no 21 81 true rfl rfl rfl rfl) ?_
            refine LE.p (v := (Value.bool false)) (Wn.no rfl) rfl (R.pickF rfl rfl) ?_
            refine LE.p (v := (Value.bool false)) (Wn.no rfl) rfl (R.move rfl) ?_
            refine LE.u (Un.no 29 89 true rfl rfl rfl rfl) ?_
            refine LE.u (Un.no 29 89 true rfl rfl rfl rfl) ?_
            refine LE.u (Un.no 29 89 true rfl rfl rfl rfl) ?_
            refine LE.u (Un.no 29 89 true rfl rfl rfl rfl) ?_
            refine LE.u (Un.no 29 89 true rfl rfl rfl rfl) ?_
            refine LE.u (Un.no 29 89 true rfl rfl rfl rfl) ?_
            refine LE.p (v := (Value.bool false)) (Wn.no rfl) rfl (R.pickF rfl rfl) ?_
            refine LE.p (v := (Value.bool false)) (Wn.no rfl) rfl (R.move rfl) ?_
            refine LE.u (Un.no 37 97 true rfl rfl rfl rfl) ?_
            refine LE.p (v := (Value.bool false)) (Wn.no rfl) rfl (R.pickF rfl rfl) ?_
            refine LE.p (v := (Value.bool false)) (Wn.no rfl) rfl (R.assign rfl) ?_
            refine LE.nil ?_
            exact ⟨_, h, rfl⟩
        · refine LE.u (Un.no 2 62 true rfl rfl rfl (congrArg Value.bool hb85)) ?_
          refine LE.u (Un.no 2 62 true rfl rfl rfl (congrArg Value.bool hb85)) ?_
          refine LE.p (v := (Value.bool false)) (Wn.no rfl) rfl (R.pickF (congrArg Value.bool hb85) rfl) ?_
          refine LE.p (v := (Value.bool false)) (Wn.no rfl) rfl (R.move rfl) ?_
          refine LE.u (Un.no 6 66 true rfl rfl rfl rfl) ?_
          refine LE.u (Un.no 6 66 true rfl rfl rfl rfl) ?_
          refine LE.u (Un.no 6 66 true rfl rfl rfl rfl) ?_
          refine LE.u (Un.no 6 66 true rfl rfl rfl rfl) ?_
          refine LE.u (Un.no 6 66 true rfl rfl rfl rfl) ?_
          refine LE.p (v := (Value.bool false)) (Wn.no rfl) rfl (R.pickF rfl rfl) ?_
          refine LE.p (v := (Value.bool false)) (Wn.no rfl) rfl (R.move rfl) ?_
          refine LE.u (Un.no 13 73 true rfl rfl rfl rfl) ?_
          refine LE.p (v := (Value.bool false)) (Wn.no rfl) rfl (R.pickF rfl rfl) ?_
          refine LE.p (v := (Value.bool false)) (Wn.no rfl) rfl (R.move rfl) ?_
          refine LE.u (Un.no 16 76 true rfl rfl rfl rfl) ?_
          refine LE.u (Un.no 16 76 true rfl rfl rfl rfl) ?_
          refine LE.u (Un.no 16 76 true rfl rfl rfl rfl) ?_
          refine LE.p (v := (Value.bool false)) (Wn.no rfl) rfl (R.pickF rfl rfl) ?_
          refine LE.p (v := (Value.bool false)) (Wn.no rfl) rfl (R.move rfl) ?_
          refine LE.u (Un.no 21 81 true rfl rfl rfl rfl) ?_
          refine LE.u (Un.no 21 81 true rfl rfl rfl rfl) ?_
          refine LE.u (Un.no 21 81 true rfl rfl rfl rfl) ?_
          refine LE.u (Un.no 21 81 true rfl rfl rfl rfl) ?_
          refine LE.u (Un.no 21 81 true rfl rfl rfl rfl) ?_
          refine LE.u (Un.no 21 81 true rfl rfl rfl rfl) ?_
          refine LE.p (v := (Value.bool false)) (Wn.no rfl) rfl (R.pickF rfl rfl) ?_
          refine LE.p (v := (Value.bool false)) (Wn.no rfl) rfl (R.move rfl) ?_
          refine LE.u (Un.no 29 89 true rfl rfl rfl rfl) ?_
          refine LE.u (Un.no 29 89 true rfl rfl rfl rfl) ?_
          refine LE.u (Un.no 29 89 true rfl rfl rfl rfl) ?_
          refine LE.u (Un.no 29 89 true rfl rfl rfl rfl) ?_
          refine LE.u (Un.no 29 89 true rfl rfl rfl rfl) ?_
          refine LE.u (Un.no 29 89 true rfl rfl rfl rfl) ?_
          refine LE.p (v := (Value.bool false)) (Wn.no rfl) rfl (R.pickF rfl rfl) ?_
          refine LE.p (v := (Value.bool false)) (Wn.no rfl) rfl (R.move rfl) ?_
          refine LE.u (Un.no 37 97 true rfl rfl rfl rfl) ?_
          refine LE.p (v := (Value.bool false)) (Wn.no rfl) rfl (R.pickF rfl rfl) ?_
          refine LE.p (v := (Value.bool false)) (Wn.no rfl) rfl (R.assign rfl) ?_
          refine LE.nil ?_
          exact ⟨_, h, rfl⟩
      · rintro e100 w101 ⟨x84, h, f102⟩
        subst hJ83
        refine WE.ret ?_
        exact ⟨_, (Res.tmp f102 Res.nil), _, rfl, h⟩
/-- The formula of signpost.signpostlaw6.AspathRules. -/
def F4 (p0 : SV) (p1 : SV) (p2 : Int) (p3 : Int) (K : Bool → World → Prop) (w0 : World) : Prop :=
Calls Try.prog 15 #[(SV.v p0)] w0 (R15 fun r1 w2 =>
Calls Try.prog 15 #[(SV.v p1)] w2 (R15 fun r3 w4 =>
Calls Try.prog 9 #[(Value.int .i64 p3), (Value.int .i64 (0 : Int)), (Value.int .i64 (10 : Int))] w4 (R9 fun r5 w6 =>
Calls Try.prog 11 #[(SV.v r1), (Value.int .u32 p2), (Value.int .i64 r5)] w6 (R11 fun r7 w8 =>
Calls Try.prog 13 #[(SV.v r7)] w8 (R13 fun r9 w10 =>
Calls Try.prog 13 #[(SV.v r1)] w10 (R13 fun r11 w12 =>
M.ite (r9 != (IntKind.i64.wrap (r11 + r5))) (
K false w12) (
M.join (fun (w40 : World) => 
M.loop1 (fun (J46 : Int → World → Prop) (x45 : Int) (w47 : World) => 
M.ite (decide (x45 < (r1.len : Int))) (
M.loop1 (fun (J61 : Int → World → Prop) (x60 : Int) (w62 : World) => 
M.idx r1 x45 2 fun a75 =>
M.ld SV.v ((a75.add (x45.toNat * 2)).add 1) w62 fun t79 =>
M.ite (decide (x60 < (t79.len : Int))) (
M.idx r1 x45 2 fun a82 =>
M.ld SV.v ((a82.add (x45.toNat * 2)).add 1) w62 fun t86 =>
M.idx t86 x60 1 fun a88 =>
M.ld (Value.int .u32) (a88.add (x60.toNat * 1)) w62 fun t92 =>
Calls Try.prog 16 #[(SV.v r7), (Value.int .u32 t92)] w62 (R16 fun r94 w95 =>
M.ite (!r94) (
K false w95) (
J61 (IntKind.i64.wrap (x60 + (1 : Int))) w95))) (
J46 (IntKind.i64.wrap (x45 + (1 : Int))) w62)) (0 : Int) w47) (
Calls Try.prog 18 #[(SV.v r1), (SV.v r3)] w47 (R18 fun r97 w98 =>
M.join (fun (x100 : Bool) (w151 : World) => 
K x100 w151) fun J99 => 
Calls Try.prog 17 #[(SV.v r1), (SV.v r3)] w98 (R17 fun r101 w102 =>
M.ite r101 (
M.ite (!(r97 == true)) (
Calls Try.prog 17 #[(SV.v r1), (SV.v r3)] w102 (R17 fun r105 w106 =>
M.ite r105 (
Calls Try.prog 17 #[(SV.v r3), (SV.v r1)] w106 (R17 fun r108 w109 =>
M.ite (!r108) (
Calls Try.prog 11 #[(SV.v r1), (Value.int .u32 p2), (Value.int .i64 (0 : Int))] w109 (R11 fun r111 w112 =>
Calls Try.prog 18 #[(SV.v r1), (SV.v r111)] w112 (R18 fun r113 w114 =>
M.ite r113 (
Calls Try.prog 14 #[] w114 (R14 fun r116 w117 =>
J99 r116 w117)) (
J99 false w114)))) (
J99 false w109))) (
M.ite (!false) (
Calls Try.prog 11 #[(SV.v r1), (Value.int .u32 p2), (Value.int .i64 (0 : Int))] w106 (R11 fun r119 w120 =>
Calls Try.prog 18 #[(SV.v r1), (SV.v r119)] w120 (R18 fun r121 w122 =>
M.ite r121 (
Calls Try.prog 14 #[] w122 (R14 fun r124 w125 =>
J99 r124 w125)) (
J99 false w122)))) (
J99 false w106)))) (
J99 false w102)) (
Calls Try.prog 17 #[(SV.v r3), (SV.v r1)] w102 (R17 fun r126 w127 =>
M.ite (!(r97 == r126)) (
Calls Try.prog 17 #[(SV.v r1), (SV.v r3)] w127 (R17 fun r129 w130 =>
M.ite r129 (
Calls Try.prog 17 #[(SV.v r3), (SV.v r1)] w130 (R17 fun r132 w133 =>
M.ite (!r132) (
Calls Try.prog 11 #[(SV.v r1), (Value.int .u32 p2), (Value.int .i64 (0 : Int))] w133 (R11 fun r135 w136 =>
Calls Try.prog 18 #[(SV.v r1), (SV.v r135)] w136 (R18 fun r137 w138 =>
M.ite r137 (
Calls Try.prog 14 #[] w138 (R14 fun r140 w141 =>
J99 r140 w141)) (
J99 false w138)))) (
J99 false w133))) (
M.ite (!false) (
Calls Try.prog 11 #[(SV.v r1), (Value.int .u32 p2), (Value.int .i64 (0 : Int))] w130 (R11 fun r143 w144 =>
Calls Try.prog 18 #[(SV.v r1), (SV.v r143)] w144 (R18 fun r145 w146 =>
M.ite r145 (
Calls Try.prog 14 #[] w146 (R14 fun r148 w149 =>
J99 r148 w149)) (
J99 false w146)))) (
J99 false w130)))) (
J99 false w127))))))) (0 : Int) w40) fun J14 => 
M.ite (decide ((0 : Int) < r5)) (
Calls Try.prog 10 #[(SV.v r7)] w12 (R10 fun r16 r17 w18 =>
M.join (fun (x20 : Bool) (w32 : World) => 
M.ite x20 (
K false w32) (
J14 w32)) fun J19 => 
M.ite (!r17) (
J19 true w18) (
M.ite (r16 != p2) (
J19 true w18) (
Calls Try.prog 16 #[(SV.v r7), (Value.int .u32 p2)] w18 (R16 fun r23 w24 =>
M.ite (!r23) (
J19 true w24) (
Calls Try.prog 17 #[(SV.v r1), (SV.v r7)] w24 (R17 fun r26 w27 =>
M.ite (!r26) (
Calls Try.prog 17 #[(SV.v r7), (SV.v r1)] w27 (R17 fun r29 w30 =>
J19 (!r29) w30)) (
J19 false w27)))))))) (
J14 w12))))))))
theorem F4_ok {w0 : World} {p0 : SV} {p1 : SV} {p2 : Int} {p3 : Int} {K : Bool → World → Prop} (h : F4 p0 p1 p2 p3 K w0) : Calls Try.prog 4 #[(SV.v p0), (SV.v p1), (Value.int .u32 p2), (Value.int .i64 p3)] w0 (R4 K) := by
  refine calls_of_WE (args := [(SV.v p0), (SV.v p1), (Value.int .u32 p2), (Value.int .i64 p3)]) (rs := [.tmp 8]) Try.func4 rfl (N := 126) rfl rfl rfl rfl ?_
  refine WE.seq ?_
  refine WE.reg ?_
  refine LE.p (v := (Value.bool false)) (Wn.no rfl) rfl (R.assign rfl) ?_
  refine LE.nil ?_
  refine WE.seq ?_
  refine WE.reg ?_
  refine LE.p (v := (SV.v p0)) (Wn.no rfl) rfl (R.move rfl) ?_
  refine LE.c (Wn.no rfl) rfl (R.call bd15 (Ls.cons rfl Ls.nil) rfl) (Calls.mono h ?_)
  rintro _ w2 ⟨r1, rfl, h⟩
  refine ⟨_, rfl, ?_⟩
  refine LE.p (v := (SV.v p1)) (Wn.no rfl) rfl (R.move rfl) ?_
  refine LE.c (Wn.no rfl) rfl (R.call bd15 (Ls.cons rfl Ls.nil) rfl) (Calls.mono h ?_)
  rintro _ w4 ⟨r3, rfl, h⟩
  refine ⟨_, rfl, ?_⟩
  refine LE.p (v := (SV.v r1)) (Wn.no rfl) rfl (R.assign rfl) ?_
  refine LE.p (v := (SV.v r3)) (Wn.no rfl) rfl (R.assign rfl) ?_
  refine LE.nil ?_
  refine WE.seq ?_
  refine WE.reg ?_
  refine LE.p (v := (Value.int .i64 p3)) (Wn.no rfl) rfl (R.move rfl) ?_
  refine LE.c (Wn.no rfl) rfl (R.call bd9 (Ls.cons rfl (Ls.cons rfl (Ls.cons rfl Ls.nil))) rfl) (Calls.mono h ?_)
  rintro _ w6 ⟨r5, rfl, h⟩
  refine ⟨_, rfl, ?_⟩
  refine LE.p (v := (Value.int .i64 r5)) (Wn.no rfl) rfl (R.assign rfl) ?_
  refine LE.nil ?_
  refine WE.seq ?_
  refine WE.reg ?_
  refine LE.p (v := (SV.v r1)) (Wn.no rfl) rfl (R.move rfl) ?_
  refine LE.p (v := (Value.int .u32 p2)) (Wn.no rfl) rfl (R.move rfl) ?_
  refine LE.p (v := (Value.int .i64 r5)) (Wn.no rfl) rfl (R.move rfl) ?_
  refine LE.c (Wn.no rfl) rfl (R.call bd11 (Ls.cons rfl (Ls.cons rfl (Ls.cons rfl Ls.nil))) rfl) (Calls.mono h ?_)
  rintro _ w8 ⟨r7, rfl, h⟩
  refine ⟨_, rfl, ?_⟩
  refine LE.p (v := (SV.v r7)) (Wn.no rfl) rfl (R.assign rfl) ?_
  refine LE.nil ?_
  refine WE.seq ?_
  refine WE.seq ?_
  refine WE.reg ?_
  refine LE.p (v := (SV.v r7)) (Wn.no rfl) rfl (R.move rfl) ?_
  refine LE.c (Wn.no rfl) rfl (R.call bd13 (Ls.cons rfl Ls.nil) rfl) (Calls.mono h ?_)
  rintro _ w10 ⟨r9, rfl, h⟩
  refine ⟨_, rfl, ?_⟩
  refine LE.p (v := (SV.v r1)) (Wn.no rfl) rfl (R.move rfl) ?_
  refine LE.c (Wn.no rfl) rfl (R.call bd13 (Ls.cons rfl Ls.nil) rfl) (Calls.mono h ?_)
  rintro _ w12 ⟨r11, rfl, h⟩
  refine ⟨_, rfl, ?_⟩
  refine LE.p (v := (Value.int .i64 r5)) (Wn.no rfl) rfl (R.move rfl) ?_
  refine LE.p (v := (Value.int .i64 (IntKind.i64.wrap (r11 + r5)))) (Wn.no rfl) rfl (R.add rfl rfl) ?_
  refine LE.p (v := (Value.bool (r9 != (IntKind.i64.wrap (r11 + r5))))) (Wn.no rfl) rfl (R.neq rfl rfl) ?_
  refine LE.nil ?_
  refine WE.condT rfl (b := (r9 != (IntKind.i64.wrap (r11 + r5)))) rfl ?_ ?_
  · intro hb13
    replace h := M.ite_t h hb13
    refine WE.seq ?_
    refine WE.reg ?_
    refine LE.p (v := (Value.bool false)) (Wn.no rfl) rfl (R.assign rfl) ?_
    refine LE.nil ?_
    refine WE.ret ?_
    exact ⟨_, (Res.tmp rfl Res.nil), _, rfl, h⟩
  · intro hb13
    replace h := M.ite_f h hb13
    refine WE.skip ?_
    obtain ⟨J14, hJ14, h⟩ := M.join_use h
    refine WE.join (fun e w => J14 w ∧ e 0 = (SV.v r1) ∧ e 1 = (SV.v r3) ∧ e 2 = (Value.int .u32 p2) ∧ e 10 = (SV.v r7)) ?_ ?_
    · clear hJ14
      refine WE.seq ?_
      refine WE.reg ?_
      refine LE.p (v := (Value.int .i64 r5)) (Wn.no rfl) rfl (R.move rfl) ?_
      refine LE.p (v := (Value.bool (decide ((0 : Int) < r5)))) (Wn.no rfl) rfl (R.gtr rfl rfl) ?_
      refine LE.nil ?_
      refine WE.condT rfl (b := (decide ((0 : Int) < r5))) rfl ?_ ?_
      · intro hb15
        replace h := M.ite_t h hb15
        refine WE.seq ?_
        refine WE.reg ?_
        refine LE.p (v := (SV.v r7)) (Wn.no rfl) rfl (R.move rfl) ?_
        refine LE.c (Wn.no rfl) rfl (R.call bd10 (Ls.cons rfl Ls.nil) rfl) (Calls.mono h ?_)
        rintro _ w18 ⟨r16, r17, rfl, h⟩
        refine ⟨_, rfl, ?_⟩
        refine LE.p (v := (Value.tuple #[(Value.int .u32 r16), (Value.bool r17)])) (Wn.no rfl) rfl (R.move rfl) ?_
        refine LE.p (v := (Value.int .u32 r16)) (Wn.no rfl) rfl (R.ext rfl rfl) ?_
        refine LE.p (v := (Value.bool r17)) (Wn.no rfl) rfl (R.ext rfl rfl) ?_
        refine LE.p (v := (Value.int .u32 r16)) (Wn.no rfl) rfl (R.assign rfl) ?_
        refine LE.p (v := (Value.bool r17)) (Wn.no rfl) rfl (R.assign rfl) ?_
        refine LE.nil ?_
        refine WE.seq ?_
        obtain ⟨J19, hJ19, h⟩ := M.join_use h
        refine WE.regJ (fun e w => ∃ (x20 : Bool), J19 x20 w ∧ e 0 = (SV.v r1) ∧ e 1 = (SV.v r3) ∧ e 2 = (Value.int .u32 p2) ∧ e 10 = (SV.v r7) ∧ e 64 = (Value.bool x20)) ?_ ?_
        · clear hJ19
          refine LE.p (v := (Value.bool r17)) (Wn.no rfl) rfl (R.move rfl) ?_
          refine LE.p (v := (Value.bool (!r17))) (Wn.no rfl) rfl (R.not rfl) ?_
          refine LE.p (v := (Value.bool (!r17))) (Wn.no rfl) rfl (R.move rfl) ?_
          rcases M.ite_use h with ⟨hb21, h⟩ | ⟨hb21, h⟩
          · refine LE.u (Un.no 2 42 false rfl rfl rfl (congrArg Value.bool hb21)) ?_
            refine LE.u (Un.no 2 42 false rfl rfl rfl (congrArg Value.bool hb21)) ?_
            refine LE.u (Un.no 2 42 false rfl rfl rfl (congrArg Value.bool hb21)) ?_
            refine LE.p (v := (Value.bool true)) (Wn.no rfl) rfl (R.pickT (congrArg Value.bool hb21) rfl) ?_
            refine LE.p (v := (Value.bool true)) (Wn.no rfl) rfl (R.move rfl) ?_
            refine LE.u (Un.no 7 47 false rfl rfl rfl rfl) ?_
            refine LE.u (Un.no 7 47 false rfl rfl rfl rfl) ?_
            refine LE.u (Un.no 7 47 false rfl rfl rfl rfl) ?_
            refine LE.u (Un.no 7 47 false rfl rfl rfl rfl) ?_
            refine LE.p (v := (Value.bool true)) (Wn.no rfl) rfl (R.pickT rfl rfl) ?_
            refine LE.p (v := (Value.bool true)) (Wn.no rfl) rfl (R.move rfl) ?_
            refine LE.u (Un.no 13 53 false rfl rfl rfl rfl) ?_
            refine LE.u (Un.no 13 53 false rfl rfl rfl rfl) ?_
            refine LE.u (Un.no 13 53 false rfl rfl rfl rfl) ?_
            refine LE.u (Un.no 13 53 false rfl rfl rfl rfl) ?_
            refine LE.u (Un.no 13 53 false rfl rfl rfl rfl) ?_
            refine LE.u (Un.un 18 58 true rfl rfl rfl rfl) ?_
            refine LE.u (Un.un 18 58 true rfl rfl rfl rfl) ?_
            refine LE.u (Un.un 18 58 true rfl rfl rfl rfl) ?_
            refine LE.u (Un.un 18 58 true rfl rfl rfl rfl) ?_
            refine LE.u (Un.no 13 53 false rfl rfl rfl rfl) ?_
            refine LE.p (v := (Value.bool true)) (Wn.no rfl) rfl (R.pickT rfl rfl) ?_
            refine LE.nil ?_
            exact ⟨_, h, rfl, rfl, rfl, rfl, rfl⟩
          · refine LE.p (v := (Value.int .u32 r16)) (Wn.yes 2 42 false rfl rfl rfl (congrArg Value.bool hb21)) rfl (R.move rfl) ?_
            refine LE.p (v := (Value.int .u32 p2)) (Wn.yes 2 42 false rfl rfl rfl (congrArg Value.bool hb21)) rfl (R.move rfl) ?_
            refine LE.p (v := (Value.bool (r16 != p2))) (Wn.yes 2 42 false rfl rfl rfl (congrArg Value.bool hb21)) rfl (R.neq rfl rfl) ?_
            refine LE.p (v := (Value.bool (r16 != p2))) (Wn.no rfl) rfl (R.pickF (congrArg Value.bool hb21) rfl) ?_
            refine LE.p (v := (Value.bool (r16 != p2))) (Wn.no rfl) rfl (R.move rfl) ?_
            rcases M.ite_use h with ⟨hb22, h⟩ | ⟨hb22, h⟩
            · refine LE.u (Un.no 7 47 false rfl rfl rfl (congrArg Value.bool hb22)) ?_
              refine LE.u (Un.no 7 47 false rfl rfl rfl (congrArg Value.bool hb22)) ?_
              refine LE.u (Un.no 7 47 false rfl rfl rfl (congrArg Value.bool hb22)) ?_
              refine LE.u (Un.no 7 47 false rfl rfl rfl (congrArg Value.bool hb22)) ?_
              refine LE.p (v := (Value.bool true)) (Wn.no rfl) rfl (R.pickT (congrArg Value.bool hb22) rfl) ?_
              refine LE.p (v := (Value.bool true)) (Wn.no rfl) rfl (R.move rfl) ?_
              refine LE.u (Un.no 13 53 false rfl rfl rfl rfl) ?_
              refine LE.u (Un.no 13 53 false rfl rfl rfl rfl) ?_
              refine LE.u (Un.no 13 53 false rfl rfl rfl rfl) ?_
              refine LE.u (Un.no 13 53 false rfl rfl rfl rfl) ?_
              refine LE.u (Un.no 13 53 false rfl rfl rfl rfl) ?_
              refine LE.u (Un.un 18 58 true rfl rfl rfl rfl) ?_
              refine LE.u (Un.un 18 58 true rfl rfl rfl rfl) ?_
              refine LE.u (Un.un 18 58 true rfl rfl rfl rfl) ?_
              refine LE.u (Un.un 18 58 true rfl rfl rfl rfl) ?_
              refine LE.u (Un.no 13 53 false rfl rfl rfl rfl) ?_
              refine LE.p (v := (Value.bool true)) (Wn.no rfl) rfl (R.pickT rfl rfl) ?_
              refine LE.nil ?_
              exact ⟨_, h, rfl, rfl, rfl, rfl, rfl⟩
            · refine LE.p (v := (SV.v r7)) (Wn.yes 7 47 false rfl rfl rfl (congrArg Value.bool hb22)) rfl (R.move rfl) ?_
              refine LE.p (v := (Value.int .u32 p2)) (Wn.yes 7 47 false rfl rfl rfl (congrArg Value.bool hb22)) rfl (R.move rfl) ?_
              refine LE.c (Wn.yes 7 47 false rfl rfl rfl (congrArg Value.bool hb22)) rfl (R.call bd16 (Ls.cons rfl (Ls.cons rfl Ls.nil)) rfl) (Calls.mono h ?_)
              rintro _ w24 ⟨r23, rfl, h⟩
              refine ⟨_, rfl, ?_⟩
              refine LE.p (v := (Value.bool (!r23))) (Wn.yes 7 47 false rfl rfl rfl (congrArg Value.bool hb22)) rfl (R.not rfl) ?_
              refine LE.p (v := (Value.bool (!r23))) (Wn.no rfl) rfl (R.pickF (congrArg Value.bool hb22) rfl) ?_
              refine LE.p (v := (Value.bool (!r23))) (Wn.no rfl) rfl (R.move rfl) ?_
              rcases M.ite_use h with ⟨hb25, h⟩ | ⟨hb25, h⟩
              · refine LE.u (Un.no 13 53 false rfl rfl rfl (congrArg Value.bool hb25)) ?_
                refine LE.u (Un.no 13 53 false rfl rfl rfl (congrArg Value.bool hb25)) ?_
                refine LE.u (Un.no 13 53 false rfl rfl rfl (congrArg Value.bool hb25)) ?_
                refine LE.u (Un.no 13 53 false rfl rfl rfl (congrArg Value.bool hb25)) ?_
                refine LE.u (Un.no 13 53 false rfl rfl rfl (congrArg Value.bool hb25)) ?_
                refine LE.u (Un.un 18 58 true rfl rfl rfl rfl) ?_
                refine LE.u (Un.un 18 58 true rfl rfl rfl rfl) ?_
                refine LE.u (Un.un 18 58 true rfl rfl rfl rfl) ?_
                refine LE.u (Un.un 18 58 true rfl rfl rfl rfl) ?_
                refine LE.u (Un.no 13 53 false rfl rfl rfl (congrArg Value.bool hb25)) ?_
                refine LE.p (v := (Value.bool true)) (Wn.no rfl) rfl (R.pickT (congrArg Value.bool hb25) rfl) ?_
                refine LE.nil ?_
                exact ⟨_, h, rfl, rfl, rfl, rfl, rfl⟩
              · refine LE.p (v := (SV.v r1)) (Wn.yes 13 53 false rfl rfl rfl (congrArg Value.bool hb25)) rfl (R.move rfl) ?_
                refine LE.p (v := (SV.v r7)) (Wn.yes 13 53 false rfl rfl rfl (congrArg Value.bool hb25)) rfl (R.move rfl) ?_
                refine LE.c (Wn.yes 13 53 false rfl rfl rfl (congrArg Value.bool hb25)) rfl (R.call bd17 (Ls.cons rfl (Ls.cons rfl Ls.nil)) rfl) (Calls.mono h ?_)
                rintro _ w27 ⟨r26, rfl, h⟩
                refine ⟨_, rfl, ?_⟩
                refine LE.p (v := (Value.bool (!r26))) (Wn.yes 13 53 false rfl rfl rfl (congrArg Value.bool hb25)) rfl (R.not rfl) ?_
                refine LE.p (v := (Value.bool (!r26))) (Wn.yes 13 53 false rfl rfl rfl (congrArg Value.bool hb25)) rfl (R.move rfl) ?_
                rcases M.ite_use h with ⟨hb28, h⟩ | ⟨hb28, h⟩
                · refine LE.p (v := (SV.v r7)) (Wn.yes 18 58 true rfl rfl rfl (congrArg Value.bool hb28)) rfl (R.move rfl) ?_
                  refine LE.p (v := (SV.v r1)) (Wn.yes 18 58 true rfl rfl rfl (congrArg Value.bool hb28)) rfl (R.move rfl) ?_
                  refine LE.c (Wn.yes 18 58 true rfl rfl rfl (congrArg Value.bool hb28)) rfl (R.call bd17 (Ls.cons rfl (Ls.cons rfl Ls.nil)) rfl) (Calls.mono h ?_)
                  rintro _ w30 ⟨r29, rfl, h⟩
                  refine ⟨_, rfl, ?_⟩
                  refine LE.p (v := (Value.bool (!r29))) (Wn.yes 18 58 true rfl rfl rfl (congrArg Value.bool hb28)) rfl (R.not rfl) ?_
                  refine LE.p (v := (Value.bool (!r29))) (Wn.yes 13 53 false rfl rfl rfl (congrArg Value.bool hb25)) rfl (R.pickT (congrArg Value.bool hb28) rfl) ?_
                  refine LE.p (v := (Value.bool (!r29))) (Wn.no rfl) rfl (R.pickF (congrArg Value.bool hb25) rfl) ?_
                  refine LE.nil ?_
                  exact ⟨_, h, rfl, rfl, rfl, rfl, rfl⟩
                · refine LE.u (Un.no 18 58 true rfl rfl rfl (congrArg Value.bool hb28)) ?_
                  refine LE.u (Un.no 18 58 true rfl rfl rfl (congrArg Value.bool hb28)) ?_
                  refine LE.u (Un.no 18 58 true rfl rfl rfl (congrArg Value.bool hb28)) ?_
                  refine LE.u (Un.no 18 58 true rfl rfl rfl (congrArg Value.bool hb28)) ?_
                  refine LE.p (v := (Value.bool false)) (Wn.yes 13 53 false rfl rfl rfl (congrArg Value.bool hb25)) rfl (R.pickF (congrArg Value.bool hb28) rfl) ?_
                  refine LE.p (v := (Value.bool false)) (Wn.no rfl) rfl (R.pickF (congrArg Value.bool hb25) rfl) ?_
                  refine LE.nil ?_
                  exact ⟨_, h, rfl, rfl, rfl, rfl, rfl⟩
        · rintro e31 w32 ⟨x20, h, f33, f34, f35, f36, f37⟩
          subst hJ19
          refine WE.condT rfl (b := x20) f37 ?_ ?_
          · intro hb38
            replace h := M.ite_t h hb38
            refine WE.seq ?_
            refine WE.reg ?_
            refine LE.p (v := (Value.bool false)) (Wn.no rfl) rfl (R.assign rfl) ?_
            refine LE.nil ?_
            refine WE.ret ?_
            exact ⟨_, (Res.tmp rfl Res.nil), _, rfl, h⟩
          · intro hb38
            replace h := M.ite_f h hb38
            refine WE.skip ?_
            exact ⟨h, f33, f34, f35, f36⟩
      · intro hb15
        replace h := M.ite_f h hb15
        refine WE.skip ?_
        exact ⟨h, rfl, rfl, rfl, rfl⟩
    · rintro e39 w40 ⟨h, f41, f42, f43, f44⟩
      subst hJ14
      refine WE.seq ?_
      refine WE.seq ?_
      refine WE.reg ?_
      refine LE.p (v := (Value.int .i64 (0 : Int))) (Wn.no rfl) rfl (R.assign rfl) ?_
      refine LE.nil ?_
      refine WE.block ?_
      obtain ⟨I50, ⟨n49, h⟩, hr51⟩ := h
      refine WE.loop (fun n e w => ∃ (x45 : Int), I50 n x45 w ∧ e 0 = (SV.v r1) ∧ e 1 = (SV.v r3) ∧ e 2 = (Value.int .u32 p2) ∧ e 10 = (SV.v r7) ∧ e 13 = (Value.int .i64 x45)) n49 ⟨_, h, f41, f42, f43, f44, rfl⟩ ?_
      clear h
      rintro n49 e48 w47 ⟨x45, h, f54, f55, f56, f57, f58⟩
      replace h := hr51 n49 x45 w47 h
      refine WE.seq ?_
      refine WE.seq ?_
      refine WE.reg ?_
      refine LE.p (v := (Value.int .i64 x45)) (Wn.no rfl) rfl (R.move f58) ?_
      refine LE.p (v := (SV.v r1)) (Wn.no rfl) rfl (R.move f54) ?_
      refine LE.p (v := (Value.int .i64 (r1.len : Int))) (Wn.no rfl) rfl (R.len sl24 rfl) ?_
      refine LE.p (v := (Value.bool (decide (x45 < (r1.len : Int))))) (Wn.no rfl) rfl (R.lss rfl rfl) ?_
      refine LE.nil ?_
      refine WE.condT rfl (b := (decide (x45 < (r1.len : Int)))) rfl ?_ ?_
      · intro hb59
        replace h := M.ite_t h hb59
        refine WE.skip ?_
        refine WE.seq ?_
        refine WE.block ?_
        refine WE.seq ?_
        refine WE.reg ?_
        refine LE.p (v := (Value.int .i64 (0 : Int))) (Wn.no rfl) rfl (R.assign rfl) ?_
        refine LE.nil ?_
        refine WE.block ?_
        obtain ⟨I65, ⟨n64, h⟩, hr66⟩ := h
        refine WE.loop (fun n e w => ∃ (x60 : Int), I65 n x60 w ∧ e 0 = (SV.v r1) ∧ e 1 = (SV.v r3) ∧ e 2 = (Value.int .u32 p2) ∧ e 10 = (SV.v r7) ∧ e 13 = (Value.int .i64 x45) ∧ e 14 = (Value.int .i64 x60)) n64 ⟨_, h, f54, f55, f56, f57, f58, rfl⟩ ?_
        clear h
        rintro n64 e63 w62 ⟨x60, h, f69, f70, f71, f72, f73, f74⟩
        replace h := hr66 n64 x60 w62 h
        refine WE.seq ?_
        refine WE.seq ?_
        refine WE.reg ?_
        refine LE.p (v := (Value.int .i64 x60)) (Wn.no rfl) rfl (R.move f74) ?_
        refine LE.p (v := (SV.v r1)) (Wn.no rfl) rfl (R.move f69) ?_
        refine LE.p (v := (Value.int .i64 x45)) (Wn.no rfl) rfl (R.move f73) ?_
        obtain ⟨a75, h76, h77, h78, h⟩ := h
        refine LE.p (v := (Value.pointer (some (a75.add (x45.toNat * 2))))) (Wn.no rfl) rfl (R.idx (s := r1) sl24 rfl rfl h76 h77 h78) ?_
        refine LE.p (v := (Value.pointer (some ((a75.add (x45.toNat * 2)).add 1)))) (Wn.no rfl) rfl (R.fld (off := 1) fa27_1 rfl) ?_
        obtain ⟨t79, h80, h⟩ := h
        refine LE.r (v := (SV.v t79)) (Wn.no rfl) rfl (R.ld sc25 rfl h80) ?_
        refine LE.p (v := (Value.int .i64 (t79.len : Int))) (Wn.no rfl) rfl (R.len sl25 rfl) ?_
        refine LE.p (v := (Value.bool (decide (x60 < (t79.len : Int))))) (Wn.no rfl) rfl (R.lss rfl rfl) ?_
        refine LE.nil ?_
        refine WE.condT rfl (b := (decide (x60 < (t79.len : Int)))) rfl ?_ ?_
        · intro hb81
          replace h := M.ite_t h hb81
          refine WE.skip ?_
          refine WE.seq ?_
          refine WE.block ?_
          refine WE.seq ?_
          refine WE.reg ?_
          refine LE.p (v := (SV.v r7)) (Wn.no rfl) rfl (R.move f72) ?_
          refine LE.p (v := (SV.v r1)) (Wn.no rfl) rfl (R.move f69) ?_
          refine LE.p (v := (Value.int .i64 x45)) (Wn.no rfl) rfl (R.move f73) ?_
          obtain ⟨a82, h83, h84, h85, h⟩ := h
          refine LE.p (v := (Value.pointer (some (a82.add (x45.toNat * 2))))) (Wn.no rfl) rfl (R.idx (s := r1) sl24 rfl rfl h83 h84 h85) ?_
          refine LE.p (v := (Value.pointer (some ((a82.add (x45.toNat * 2)).add 1)))) (Wn.no rfl) rfl (R.fld (off := 1) fa27_1 rfl) ?_
          obtain ⟨t86, h87, h⟩ := h
          refine LE.r (v := (SV.v t86)) (Wn.no rfl) rfl (R.ld sc25 rfl h87) ?_
          refine LE.p (v := (Value.int .i64 x60)) (Wn.no rfl) rfl (R.move f74) ?_
          obtain ⟨a88, h89, h90, h91, h⟩ := h
          refine LE.p (v := (Value.pointer (some (a88.add (x60.toNat * 1))))) (Wn.no rfl) rfl (R.idx (s := t86) sl25 rfl rfl h89 h90 h91) ?_
          obtain ⟨t92, h93, h⟩ := h
          refine LE.r (v := (Value.int .u32 t92)) (Wn.no rfl) rfl (R.ld sc23 rfl h93) ?_
          refine LE.c (Wn.no rfl) rfl (R.call bd16 (Ls.cons rfl (Ls.cons rfl Ls.nil)) rfl) (Calls.mono h ?_)
          rintro _ w95 ⟨r94, rfl, h⟩
          refine ⟨_, rfl, ?_⟩
          refine LE.p (v := (Value.bool (!r94))) (Wn.no rfl) rfl (R.not rfl) ?_
          refine LE.nil ?_
          refine WE.condT rfl (b := (!r94)) rfl ?_ ?_
          · intro hb96
            replace h := M.ite_t h hb96
            refine WE.seq ?_
            refine WE.reg ?_
            refine LE.p (v := (Value.bool false)) (Wn.no rfl) rfl (R.assign rfl) ?_
            refine LE.nil ?_
            refine WE.ret ?_
            exact ⟨_, (Res.tmp rfl Res.nil), _, rfl, h⟩
          · intro hb96
            replace h := M.ite_f h hb96
            refine WE.skip ?_
            refine WE.reg ?_
            refine LE.p (v := (Value.int .i64 x60)) (Wn.no rfl) rfl (R.move f74) ?_
            refine LE.p (v := (Value.int .i64 (IntKind.i64.wrap (x60 + (1 : Int))))) (Wn.no rfl) rfl (R.add rfl rfl) ?_
            refine LE.p (v := (Value.int .i64 (IntKind.i64.wrap (x60 + (1 : Int))))) (Wn.no rfl) rfl (R.assign rfl) ?_
            refine LE.nil ?_
            obtain ⟨m67, hm68, h⟩ := h
            exact ⟨m67, hm68, _, h, f69, f70, f71, f72, f73, rfl⟩
        · intro hb81
          replace h := M.ite_f h hb81
          refine WE.exit ?_
          refine WE.reg ?_
          refine LE.p (v := (Value.int .i64 x45)) (Wn.no rfl) rfl (R.move f73) ?_
          refine LE.p (v := (Value.int .i64 (IntKind.i64.wrap (x45 + (1 : Int))))) (Wn.no rfl) rfl (R.add rfl rfl) ?_
          refine LE.p (v := (Value.int .i64 (IntKind.i64.wrap (x45 + (1 : Int))))) (Wn.no rfl) rfl (R.assign rfl) ?_
          refine LE.nil ?_
          obtain ⟨m52, hm53, h⟩ := h
          exact ⟨m52, hm53, _, h, f69, f70, f71, f72, rfl⟩
      · intro hb59
        replace h := M.ite_f h hb59
        refine WE.exit ?_
        refine WE.seq ?_
        refine WE.reg ?_
        refine LE.p (v := (SV.v r1)) (Wn.no rfl) rfl (R.move f54) ?_
        refine LE.p (v := (SV.v r3)) (Wn.no rfl) rfl (R.move f55) ?_
        refine LE.c (Wn.no rfl) rfl (R.call bd18 (Ls.cons rfl (Ls.cons rfl Ls.nil)) rfl) (Calls.mono h ?_)
        rintro _ w98 ⟨r97, rfl, h⟩
        refine ⟨_, rfl, ?_⟩
        refine LE.p (v := (Value.bool r97)) (Wn.no rfl) rfl (R.assign rfl) ?_
        refine LE.nil ?_
        refine WE.seq ?_
        obtain ⟨J99, hJ99, h⟩ := M.join_use h
        refine WE.regJ (fun e w => ∃ (x100 : Bool), J99 x100 w ∧ e 8 = (Value.bool x100)) ?_ ?_
        · clear hJ99
          refine LE.p (v := (Value.bool r97)) (Wn.no rfl) rfl (R.move rfl) ?_
          refine LE.p (v := (SV.v r1)) (Wn.no rfl) rfl (R.move f54) ?_
          refine LE.p (v := (SV.v r3)) (Wn.no rfl) rfl (R.move f55) ?_
          refine LE.c (Wn.no rfl) rfl (R.call bd17 (Ls.cons rfl (Ls.cons rfl Ls.nil)) rfl) (Calls.mono h ?_)
          rintro _ w102 ⟨r101, rfl, h⟩
          refine ⟨_, rfl, ?_⟩
          refine LE.p (v := (Value.bool r101)) (Wn.no rfl) rfl (R.move rfl) ?_
          rcases M.ite_use h with ⟨hb103, h⟩ | ⟨hb103, h⟩
          · refine LE.u (Un.no 4 99 false rfl rfl rfl (congrArg Value.bool hb103)) ?_
            refine LE.u (Un.no 4 99 false rfl rfl rfl (congrArg Value.bool hb103)) ?_
            refine LE.u (Un.no 4 99 false rfl rfl rfl (congrArg Value.bool hb103)) ?_
            refine LE.p (v := (Value.bool true)) (Wn.no rfl) rfl (R.pickT (congrArg Value.bool hb103) rfl) ?_
            refine LE.p (v := (Value.bool (!(r97 == true)))) (Wn.no rfl) rfl (R.bneq bo4 rfl rfl) ?_
            refine LE.p (v := (Value.bool (!(r97 == true)))) (Wn.no rfl) rfl (R.move rfl) ?_
            rcases M.ite_use h with ⟨hb104, h⟩ | ⟨hb104, h⟩
            · refine LE.p (v := (SV.v r1)) (Wn.yes 10 105 true rfl rfl rfl (congrArg Value.bool hb104)) rfl (R.move f54) ?_
              refine LE.p (v := (SV.v r3)) (Wn.yes 10 105 true rfl rfl rfl (congrArg Value.bool hb104)) rfl (R.move f55) ?_
              refine LE.c (Wn.yes 10 105 true rfl rfl rfl (congrArg Value.bool hb104)) rfl (R.call bd17 (Ls.cons rfl (Ls.cons rfl Ls.nil)) rfl) (Calls.mono h ?_)
              rintro _ w106 ⟨r105, rfl, h⟩
              refine ⟨_, rfl, ?_⟩
              refine LE.p (v := (Value.bool r105)) (Wn.yes 10 105 true rfl rfl rfl (congrArg Value.bool hb104)) rfl (R.move rfl) ?_
              rcases M.ite_use h with ⟨hb107, h⟩ | ⟨hb107, h⟩
              · refine LE.p (v := (SV.v r3)) (Wn.yes 14 109 true rfl rfl rfl (congrArg Value.bool hb107)) rfl (R.move f55) ?_
                refine LE.p (v := (SV.v r1)) (Wn.yes 14 109 true rfl rfl rfl (congrArg Value.bool hb107)) rfl (R.move f54) ?_
                refine LE.c (Wn.yes 14 109 true rfl rfl rfl (congrArg Value.bool hb107)) rfl (R.call bd17 (Ls.cons rfl (Ls.cons rfl Ls.nil)) rfl) (Calls.mono h ?_)
                rintro _ w109 ⟨r108, rfl, h⟩
                refine ⟨_, rfl, ?_⟩
                refine LE.p (v := (Value.bool r108)) (Wn.yes 10 105 true rfl rfl rfl (congrArg Value.bool hb104)) rfl (R.pickT (congrArg Value.bool hb107) rfl) ?_
                refine LE.p (v := (Value.bool (!r108))) (Wn.yes 10 105 true rfl rfl rfl (congrArg Value.bool hb104)) rfl (R.not rfl) ?_
                refine LE.p (v := (Value.bool (!r108))) (Wn.no rfl) rfl (R.pickT (congrArg Value.bool hb104) rfl) ?_
                refine LE.p (v := (Value.bool (!r108))) (Wn.no rfl) rfl (R.move rfl) ?_
                rcases M.ite_use h with ⟨hb110, h⟩ | ⟨hb110, h⟩
                · refine LE.p (v := (SV.v r1)) (Wn.yes 21 116 true rfl rfl rfl (congrArg Value.bool hb110)) rfl (R.move f54) ?_
                  refine LE.p (v := (SV.v r1)) (Wn.yes 21 116 true rfl rfl rfl (congrArg Value.bool hb110)) rfl (R.move f54) ?_
                  refine LE.p (v := (Value.int .u32 p2)) (Wn.yes 21 116 true rfl rfl rfl (congrArg Value.bool hb110)) rfl (R.move f56) ?_
                  refine LE.c (Wn.yes 21 116 true rfl rfl rfl (congrArg Value.bool hb110)) rfl (R.call bd11 (Ls.cons rfl (Ls.cons rfl (Ls.cons rfl Ls.nil))) rfl) (Calls.mono h ?_)
                  rintro _ w112 ⟨r111, rfl, h⟩
                  refine ⟨_, rfl, ?_⟩
                  refine LE.c (Wn.yes 21 116 true rfl rfl rfl (congrArg Value.bool hb110)) rfl (R.call bd18 (Ls.cons rfl (Ls.cons rfl Ls.nil)) rfl) (Calls.mono h ?_)
                  rintro _ w114 ⟨r113, rfl, h⟩
                  refine ⟨_, rfl, ?_⟩
                  refine LE.p (v := (Value.bool r113)) (Wn.no rfl) rfl (R.pickT (congrArg Value.bool hb110) rfl) ?_
                  refine LE.p (v := (Value.bool r113)) (Wn.no rfl) rfl (R.move rfl) ?_
                  rcases M.ite_use h with ⟨hb115, h⟩ | ⟨hb115, h⟩
                  · refine LE.c (Wn.yes 28 123 true rfl rfl rfl (congrArg Value.bool hb115)) rfl (R.call bd14 Ls.nil rfl) (Calls.mono h ?_)
                    rintro _ w117 ⟨r116, rfl, h⟩
                    refine ⟨_, rfl, ?_⟩
                    refine LE.p (v := (Value.bool r116)) (Wn.no rfl) rfl (R.pickT (congrArg Value.bool hb115) rfl) ?_
                    refine LE.p (v := (Value.bool r116)) (Wn.no rfl) rfl (R.assign rfl) ?_
                    refine LE.nil ?_
                    exact ⟨_, h, rfl⟩
                  · refine LE.u (Un.no 28 123 true rfl rfl rfl (congrArg Value.bool hb115)) ?_
                    refine LE.p (v := (Value.bool false)) (Wn.no rfl) rfl (R.pickF (congrArg Value.bool hb115) rfl) ?_
                    refine LE.p (v := (Value.bool false)) (Wn.no rfl) rfl (R.assign rfl) ?_
                    refine LE.nil ?_
                    exact ⟨_, h, rfl⟩
                · refine LE.u (Un.no 21 116 true rfl rfl rfl (congrArg Value.bool hb110)) ?_
                  refine LE.u (Un.no 21 116 true rfl rfl rfl (congrArg Value.bool hb110)) ?_
                  refine LE.u (Un.no 21 116 true rfl rfl rfl (congrArg Value.bool hb110)) ?_
                  refine LE.u (Un.no 21 116 true rfl rfl rfl (congrArg Value.bool hb110)) ?_
                  refine LE.u (Un.no 21 116 true rfl rfl rfl (congrArg Value.bool hb110)) ?_
                  refine LE.p (v := (Value.bool false)) (Wn.no rfl) rfl (R.pickF (congrArg Value.bool hb110) rfl) ?_
                  refine LE.p (v := (Value.bool false)) (Wn.no rfl) rfl (R.move rfl) ?_
                  refine LE.u (Un.no 28 123 true rfl rfl rfl rfl) ?_
                  refine LE.p (v := (Value.bool false)) (Wn.no rfl) rfl (R.pickF rfl rfl) ?_
                  refine LE.p (v := (Value.bool false)) (Wn.no rfl) rfl (R.assign rfl) ?_
                  refine LE.nil ?_
                  exact ⟨_, h, rfl⟩
              · refine LE.u (Un.no 14 109 true rfl rfl rfl (congrArg Value.bool hb107)) ?_
                refine LE.u (Un.no 14 109 true rfl rfl rfl (congrArg Value.bool hb107)) ?_
                refine LE.u (Un.no 14 109 true rfl rfl rfl (congrArg Value.bool hb107)) ?_
                refine LE.p (v := (Value.bool false)) (Wn.yes 10 105 true rfl rfl rfl (congrArg Value.bool hb104)) rfl (R.pickF (congrArg Value.bool hb107) rfl) ?_
                refine LE.p (v := (Value.bool (!false))) (Wn.yes 10 105 true rfl rfl rfl (congrArg Value.bool hb104)) rfl (R.not rfl) ?_
                refine LE.p (v := (Value.bool (!false))) (Wn.no rfl) rfl (R.pickT (congrArg Value.bool hb104) rfl) ?_
                refine LE.p (v := (Value.bool (!false))) (Wn.no rfl) rfl (R.move rfl) ?_
                rcases M.ite_use h with ⟨hb118, h⟩ | ⟨hb118, h⟩
                · refine LE.p (v := (SV.v r1)) (Wn.yes 21 116 true rfl rfl rfl (congrArg Value.bool hb118)) rfl (R.move f54) ?_
                  refine LE.p (v := (SV.v r1)) (Wn.yes 21 116 true rfl rfl rfl (congrArg Value.bool hb118)) rfl (R.move f54) ?_
                  refine LE.p (v := (Value.int .u32 p2)) (Wn.yes 21 116 true rfl rfl rfl (congrArg Value.bool hb118)) rfl (R.move f56) ?_
                  refine LE.c (Wn.yes 21 116 true rfl rfl rfl (congrArg Value.bool hb118)) rfl (R.call bd11 (Ls.cons rfl (Ls.cons rfl (Ls.cons rfl Ls.nil))) rfl) (Calls.mono h ?_)
                  rintro _ w120 ⟨r119, rfl, h⟩
                  refine ⟨_, rfl, ?_⟩
                  refine LE.c (Wn.yes 21 116 true rfl rfl rfl (congrArg Value.bool hb118)) rfl (R.call bd18 (Ls.cons rfl (Ls.cons rfl Ls.nil)) rfl) (Calls.mono h ?_)
                  rintro _ w122 ⟨r121, rfl, h⟩
                  refine ⟨_, rfl, ?_⟩
                  refine LE.p (v := (Value.bool r121)) (Wn.no rfl) rfl (R.pickT (congrArg Value.bool hb118) rfl) ?_
                  refine LE.p (v := (Value.bool r121)) (Wn.no rfl) rfl (R.move rfl) ?_
                  rcases M.ite_use h with ⟨hb123, h⟩ | ⟨hb123, h⟩
                  · refine LE.c (Wn.yes 28 123 true rfl rfl rfl (congrArg Value.bool hb123)) rfl (R.call bd14 Ls.nil rfl) (Calls.mono h ?_)
                    rintro _ w125 ⟨r124, rfl, h⟩
                    refine ⟨_, rfl, ?_⟩
                    refine LE.p (v := (Value.bool r124)) (Wn.no rfl) rfl (R.pickT (congrArg Value.bool hb123) rfl) ?_
                    refine LE.p (v := (Value.bool r124)) (Wn.no rfl) rfl (R.assign rfl) ?_
                    refine LE.nil ?_
                    exact ⟨_, h, rfl⟩
                  · refine LE.u (Un.no 28 123 true rfl rfl rfl (congrArg Value.bool hb123)) ?_
                    refine LE.p (v := (Value.bool false)) (Wn.no rfl) rfl (R.pickF (congrArg Value.bool hb123) rfl) ?_
                    refine LE.p (v := (Value.bool false)) (Wn.no rfl) rfl (R.assign rfl) ?_
                    refine LE.nil ?_
                    exact ⟨_, h, rfl⟩
                · refine LE.u (Un.no 21 116 true rfl rfl rfl (congrArg Value.bool hb118)) ?_
                  refine LE.u (Un.no 21 116 true rfl rfl rfl (congrArg Value.bool hb118)) ?_
                  refine LE.u (Un.no 21 116 true rfl rfl rfl (congrArg Value.bool hb118)) ?_
                  refine LE.u (Un.no 21 116 true rfl rfl rfl (congrArg Value.bool hb118)) ?_
                  refine LE.u (Un.no 21 116 true rfl rfl rfl (congrArg Value.bool hb118)) ?_
                  refine LE.p (v := (Value.bool false)) (Wn.no rfl) rfl (R.pickF (congrArg Value.bool hb118) rfl) ?_
                  refine LE.p (v := (Value.bool false)) (Wn.no rfl) rfl (R.move rfl) ?_
                  refine LE.u (Un.no 28 123 true rfl rfl rfl rfl) ?_
                  refine LE.p (v := (Value.bool false)) (Wn.no rfl) rfl (R.pickF rfl rfl) ?_
                  refine LE.p (v := (Value.bool false)) (Wn.no rfl) rfl (R.assign rfl) ?_
                  refine LE.nil ?_
                  exact ⟨_, h, rfl⟩
            · refine LE.u (Un.no 10 105 true rfl rfl rfl (congrArg Value.bool hb104)) ?_
              refine LE.u (Un.no 10 105 true rfl rfl rfl (congrArg Value.bool hb104)) ?_
              refine LE.u (Un.no 10 105 true rfl rfl rfl (congrArg Value.bool hb104)) ?_
              refine LE.u (Un.no 10 105 true rfl rfl rfl (congrArg Value.bool hb104)) ?_
              refine LE.u (Un.un 14 109 true rfl rfl rfl rfl) ?_
              refine LE.u (Un.un 14 109 true rfl rfl rfl rfl) ?_
              refine LE.u (Un.un 14 109 true rfl rfl rfl rfl) ?_
              refine LE.u (Un.no 10 105 true rfl rfl rfl (congrArg Value.bool hb104)) ?_
              refine LE.u (Un.no 10 105 true rfl rfl rfl (congrArg Value.bool hb104)) ?_
              refine LE.p (v := (Value.bool false)) (Wn.no rfl) rfl (R.pickF (congrArg Value.bool hb104) rfl) ?_
              refine LE.p (v := (Value.bool false)) (Wn.no rfl) rfl (R.move rfl) ?_
              refine LE.u (Un.no 21 116 true rfl rfl rfl rfl) ?_
              refine LE.u (Un.no 21 116 true rfl rfl rfl rfl) ?_
              refine LE.u (Un.no 21 116 true rfl rfl rfl rfl) ?_
              refine LE.u (Un.no 21 116 true rfl rfl rfl rfl) ?_
              refine LE.u (Un.no 21 116 true rfl rfl rfl rfl) ?_
              refine LE.p (v := (Value.bool false)) (Wn.no rfl) rfl (R.pickF rfl rfl) ?_
              refine LE.p (v := (Value.bool false)) (Wn.no rfl) rfl (R.move rfl) ?_
              refine LE.u (Un.no 28 123 true rfl rfl rfl rfl) ?_
              refine LE.p (v := (Value.bool false)) (Wn.no rfl) rfl (R.pickF rfl rfl) ?_
              refine LE.p (v := (Value.bool false)) (Wn.no rfl) rfl (R.assign rfl) ?_
              refine LE.nil ?_
              exact ⟨_, h, rfl⟩
          · refine LE.p (v := (SV.v r3)) (Wn.yes 4 99 false rfl rfl rfl (congrArg Value.bool hb103)) rfl (R.move f55) ?_
            refine LE.p (v := (SV.v r1)) (Wn.yes 4 99 false rfl rfl rfl (congrArg Value.bool hb103)) rfl (R.move f54) ?_
            refine LE.c (Wn.yes 4 99 false rfl rfl rfl (congrArg Value.bool hb103)) rfl (R.call bd17 (Ls.cons rfl (Ls.cons rfl Ls.nil)) rfl) (Calls.mono h ?_)
            rintro _ w127 ⟨r126, rfl, h⟩
            refine ⟨_, rfl, ?_⟩
            refine LE.p (v := (Value.bool r126)) (Wn.no rfl) rfl (R.pickF (congrArg Value.bool hb103) rfl) ?_
            refine LE.p (v := (Value.bool (!(r97 == r126)))) (Wn.no rfl) rfl (R.bneq bo4 rfl rfl) ?_
            refine LE.p (v := (Value.bool (!(r97 == r126)))) (Wn.no rfl) rfl (R.move rfl) ?_
            rcases M.ite_use h with ⟨hb128, h⟩ | ⟨hb128, h⟩
            · refine LE.p (v := (SV.v r1)) (Wn.yes 10 105 true rfl rfl rfl (congrArg Value.bool hb128)) rfl (R.move f54) ?_
              refine LE.p (v := (SV.v r3)) (Wn.yes 10 105 true rfl rfl rfl (congrArg Value.bool hb128)) rfl (R.move f55) ?_
              refine LE.c (Wn.yes 10 105 true rfl rfl rfl (congrArg Value.bool hb128)) rfl (R.call bd17 (Ls.cons rfl (Ls.cons rfl Ls.nil)) rfl) (Calls.mono h ?_)
              rintro _ w130 ⟨r129, rfl, h⟩
              refine ⟨_, rfl, ?_⟩
              refine LE.p (v := (Value.bool r129)) (Wn.yes 10 105 true rfl rfl rfl (congrArg Value.bool hb128)) rfl (R.move rfl) ?_
              rcases M.ite_use h with ⟨hb131, h⟩ | ⟨hb131, h⟩
              · refine LE.p (v := (SV.v r3)) (Wn.yes 14 109 true rfl rfl rfl (congrArg Value.bool hb131)) rfl (R.move f55) ?_
                refine LE.p (v := (SV.v r1)) (Wn.yes 14 109 true rfl rfl rfl (congrArg Value.bool hb131)) rfl (R.move f54) ?_
                refine LE.c (Wn.yes 14 109 true rfl rfl rfl (congrArg Value.bool hb131)) rfl (R.call bd17 (Ls.cons rfl (Ls.cons rfl Ls.nil)) rfl) (Calls.mono h ?_)
                rintro _ w133 ⟨r132, rfl, h⟩
                refine ⟨_, rfl, ?_⟩
                refine LE.p (v := (Value.bool r132)) (Wn.yes 10 105 true rfl rfl rfl (congrArg Value.bool hb128)) rfl (R.pickT (congrArg Value.bool hb131) rfl) ?_
                refine LE.p (v := (Value.bool (!r132))) (Wn.yes 10 105 true rfl rfl rfl (congrArg Value.bool hb128)) rfl (R.not rfl) ?_
                refine LE.p (v := (Value.bool (!r132))) (Wn.no rfl) rfl (R.pickT (congrArg Value.bool hb128) rfl) ?_
                refine LE.p (v := (Value.bool (!r132))) (Wn.no rfl) rfl (R.move rfl) ?_
                rcases M.ite_use h with ⟨hb134, h⟩ | ⟨hb134, h⟩
                · refine LE.p (v := (SV.v r1)) (Wn.yes 21 116 true rfl rfl rfl (congrArg Value.bool hb134)) rfl (R.move f54) ?_
                  refine LE.p (v := (SV.v r1)) (Wn.yes 21 116 true rfl rfl rfl (congrArg Value.bool hb134)) rfl (R.move f54) ?_
                  refine LE.p (v := (Value.int .u32 p2)) (Wn.yes 21 116 true rfl rfl rfl (congrArg Value.bool hb134)) rfl (R.move f56) ?_
                  refine LE.c (Wn.yes 21 116 true rfl rfl rfl (congrArg Value.bool hb134)) rfl (R.call bd11 (Ls.cons rfl (Ls.cons rfl (Ls.cons rfl Ls.nil))) rfl) (Calls.mono h ?_)
                  rintro _ w136 ⟨r135, rfl, h⟩
                  refine ⟨_, rfl, ?_⟩
                  refine LE.c (Wn.yes 21 116 true rfl rfl rfl (congrArg Value.bool hb134)) rfl (R.call bd18 (Ls.cons rfl (Ls.cons rfl Ls.nil)) rfl) (Calls.mono h ?_)
                  rintro _ w138 ⟨r137, rfl, h⟩
                  refine ⟨_, rfl, ?_⟩
                  refine LE.p (v := (Value.bool r137)) (Wn.no rfl) rfl (R.pickT (congrArg Value.bool hb134) rfl) ?_
                  refine LE.p (v := (Value.bool r137)) (Wn.no rfl) rfl (R.move rfl) ?_
                  rcases M.ite_use h with ⟨hb139, h⟩ | ⟨hb139, h⟩
                  · refine LE.c (Wn.yes 28 123 true rfl rfl rfl (congrArg Value.bool hb139)) rfl (R.call bd14 Ls.nil rfl) (Calls.mono h ?_)
                    rintro _ w141 ⟨r140, rfl, h⟩
                    refine ⟨_, rfl, ?_⟩
                    refine LE.p (v := (Value.bool r140)) (Wn.no rfl) rfl (R.pickT (congrArg Value.bool hb139) rfl) ?_
                    refine LE.p (v := (Value.bool r140)) (Wn.no rfl) rfl (R.assign rfl) ?_
                    refine LE.nil ?_
                    exact ⟨_, h, rfl⟩
                  · refine LE.u (Un.no 28 123 true rfl rfl rfl (congrArg Value.bool hb139)) ?_
                    refine LE.p (v := (Value.bool false)) (Wn.no rfl) rfl (R.pickF (congrArg Value.bool hb139) rfl) ?_
                    refine LE.p (v := (Value.bool false)) (Wn.no rfl) rfl (R.assign rfl) ?_
                    refine LE.nil ?_
                    exact ⟨_, h, rfl⟩
                · refine LE.u (Un.no 21 116 true rfl rfl rfl (congrArg Value.bool hb134)) ?_
                  refine LE.u (Un.no 21 116 true rfl rfl rfl (congrArg Value.bool hb134)) ?_
                  refine LE.u (Un.no 21 116 true rfl rfl rfl (congrArg Value.bool hb134)) ?_
                  refine LE.u (Un.no 21 116 true rfl rfl rfl (congrArg Value.bool hb134)) ?_
                  refine LE.u (Un.no 21 116 true rfl rfl rfl (congrArg Value.bool hb134)) ?_
                  refine LE.p (v := (Value.bool false)) (Wn.no rfl) rfl (R.pickF (congrArg Value.bool hb134) rfl) ?_
                  refine LE.p (v := (Value.bool false)) (Wn.no rfl) rfl (R.move rfl) ?_
                  refine LE.u (Un.no 28 123 true rfl rfl rfl rfl) ?_
                  refine LE.p (v := (Value.bool false)) (Wn.no rfl) rfl (R.pickF rfl rfl) ?_
                  refine LE.p (v := (Value.bool false)) (Wn.no rfl) rfl (R.assign rfl) ?_
                  refine LE.nil ?_
                  exact ⟨_, h, rfl⟩
              · refine LE.u (Un.no 14 109 true rfl rfl rfl (congrArg Value.bool hb131)) ?_
                refine LE.u (Un.no 14 109 true rfl rfl rfl (congrArg Value.bool hb131)) ?_
                refine LE.u (Un.no 14 109 true rfl rfl rfl (congrArg Value.bool hb131)) ?_
                refine LE.p (v := (Value.bool false)) (Wn.yes 10 105 true rfl rfl rfl (congrArg Value.bool hb128)) rfl (R.pickF (congrArg Value.bool hb131) rfl) ?_
                refine LE.p (v := (Value.bool (!false))) (Wn.yes 10 105 true rfl rfl rfl (congrArg Value.bool hb128)) rfl (R.not rfl) ?_
                refine LE.p (v := (Value.bool (!false))) (Wn.no rfl) rfl (R.pickT (congrArg Value.bool hb128) rfl) ?_
                refine LE.p (v := (Value.bool (!false))) (Wn.no rfl) rfl (R.move rfl) ?_
                rcases M.ite_use h with ⟨hb142, h⟩ | ⟨hb142, h⟩
                · refine LE.p (v := (SV.v r1)) (Wn.yes 21 116 true rfl rfl rfl (congrArg Value.bool hb142)) rfl (R.move f54) ?_
                  refine LE.p (v := (SV.v r1)) (Wn.yes 21 116 true rfl rfl rfl (congrArg Value.bool hb142)) rfl (R.move f54) ?_
                  refine LE.p (v := (Value.int .u32 p2)) (Wn.yes 21 116 true rfl rfl rfl (congrArg Value.bool hb142)) rfl (R.move f56) ?_
                  refine LE.c (Wn.yes 21 116 true rfl rfl rfl (congrArg Value.bool hb142)) rfl (R.call bd11 (Ls.cons rfl (Ls.cons rfl (Ls.cons rfl Ls.nil))) rfl) (Calls.mono h ?_)
                  rintro _ w144 ⟨r143, rfl, h⟩
                  refine ⟨_, rfl, ?_⟩
                  refine LE.c (Wn.yes 21 116 true rfl rfl rfl (congrArg Value.bool hb142)) rfl (R.call bd18 (Ls.cons rfl (Ls.cons rfl Ls.nil)) rfl) (Calls.mono h ?_)
                  rintro _ w146 ⟨r145, rfl, h⟩
                  refine ⟨_, rfl, ?_⟩
                  refine LE.p (v := (Value.bool r145)) (Wn.no rfl) rfl (R.pickT (congrArg Value.bool hb142) rfl) ?_
                  refine LE.p (v := (Value.bool r145)) (Wn.no rfl) rfl (R.move rfl) ?_
                  rcases M.ite_use h with ⟨hb147, h⟩ | ⟨hb147, h⟩
                  · refine LE.c (Wn.yes 28 123 true rfl rfl rfl (congrArg Value.bool hb147)) rfl (R.call bd14 Ls.nil rfl) (Calls.mono h ?_)
                    rintro _ w149 ⟨r148, rfl, h⟩
                    refine ⟨_, rfl, ?_⟩
                    refine LE.p (v := (Value.bool r148)) (Wn.no rfl) rfl (R.pickT (congrArg Value.bool hb147) rfl) ?_
                    refine LE.p (v := (Value.bool r148)) (Wn.no rfl) rfl (R.assign rfl) ?_
                    refine LE.nil ?_
                    exact ⟨_, h, rfl⟩
                  · refine LE.u (Un.no 28 123 true rfl rfl rfl (congrArg Value.bool hb147)) ?_
                    refine LE.p (v := (Value.bool false)) (Wn.no rfl) rfl (R.pickF (congrArg Value.bool hb147) rfl) ?_
                    refine LE.p (v := (Value.bool false)) (Wn.no rfl) rfl (R.assign rfl) ?_
                    refine LE.nil ?_
                    exact ⟨_, h, rfl⟩
                · refine LE.u (Un.no 21 116 true rfl rfl rfl (congrArg Value.bool hb142)) ?_
                  refine LE.u (Un.no 21 116 true rfl rfl rfl (congrArg Value.bool hb142)) ?_
                  refine LE.u (Un.no 21 116 true rfl rfl rfl (congrArg Value.bool hb142)) ?_
                  refine LE.u (Un.no 21 116 true rfl rfl rfl (congrArg Value.bool hb142)) ?_
                  refine LE.u (Un.no 21 116 true rfl rfl rfl (congrArg Value.bool hb142)) ?_
                  refine LE.p (v := (Value.bool false)) (Wn.no rfl) rfl (R.pickF (congrArg Value.bool hb142) rfl) ?_
                  refine LE.p (v := (Value.bool false)) (Wn.no rfl) rfl (R.move rfl) ?_
                  refine LE.u (Un.no 28 123 true rfl rfl rfl rfl) ?_
                  refine LE.p (v := (Value.bool false)) (Wn.no rfl) rfl (R.pickF rfl rfl) ?_
                  refine LE.p (v := (Value.bool false)) (Wn.no rfl) rfl (R.assign rfl) ?_
                  refine LE.nil ?_
                  exact ⟨_, h, rfl⟩
            · refine LE.u (Un.no 10 105 true rfl rfl rfl (congrArg Value.bool hb128)) ?_
              refine LE.u (Un.no 10 105 true rfl rfl rfl (congrArg Value.bool hb128)) ?_
              refine LE.u (Un.no 10 105 true rfl rfl rfl (congrArg Value.bool hb128)) ?_
              refine LE.u (Un.no 10 105 true rfl rfl rfl (congrArg Value.bool hb128)) ?_
              refine LE.u (Un.un 14 109 true rfl rfl rfl rfl) ?_
              refine LE.u (Un.un 14 109 true rfl rfl rfl rfl) ?_
              refine LE.u (Un.un 14 109 true rfl rfl rfl rfl) ?_
              refine LE.u (Un.no 10 105 true rfl rfl rfl (congrArg Value.bool hb128)) ?_
              refine LE.u (Un.no 10 105 true rfl rfl rfl (congrArg Value.bool hb128)) ?_
              refine LE.p (v := (Value.bool false)) (Wn.no rfl) rfl (R.pickF (congrArg Value.bool hb128) rfl) ?_
              refine LE.p (v := (Value.bool false)) (Wn.no rfl) rfl (R.move rfl) ?_
              refine LE.u (Un.no 21 116 true rfl rfl rfl rfl) ?_
              refine LE.u (Un.no 21 116 true rfl rfl rfl rfl) ?_
              refine LE.u (Un.no 21 116 true rfl rfl rfl rfl) ?_
              refine LE.u (Un.no 21 116 true rfl rfl rfl rfl) ?_
              refine LE.u (Un.no 21 116 true rfl rfl rfl rfl) ?_
              refine LE.p (v := (Value.bool false)) (Wn.no rfl) rfl (R.pickF rfl rfl) ?_
              refine LE.p (v := (Value.bool false)) (Wn.no rfl) rfl (R.move rfl) ?_
              refine LE.u (Un.no 28 123 true rfl rfl rfl rfl) ?_
              refine LE.p (v := (Value.bool false)) (Wn.no rfl) rfl (R.pickF rfl rfl) ?_
              refine LE.p (v := (Value.bool false)) (Wn.no rfl) rfl (R.assign rfl) ?_
              refine LE.nil ?_
              exact ⟨_, h, rfl⟩
        · rintro e150 w151 ⟨x100, h, f152⟩
          subst hJ99
          refine WE.ret ?_
          exact ⟨_, (Res.tmp f152 Res.nil), _, rfl, h⟩
/-- The formula of signpost.signpostlaw6.AspathJoins. -/
def F5 (p0 : SV) (p1 : SV) (p2 : Int) (K : Bool → World → Prop) (w0 : World) : Prop :=
Calls Try.prog 15 #[(SV.v p0)] w0 (R15 fun r1 w2 =>
Calls Try.prog 15 #[(SV.v p1)] w2 (R15 fun r3 w4 =>
Calls Try.prog 19 #[(SV.v r1)] w4 (R19 fun r5 r6 w7 =>
Calls Try.prog 19 #[(SV.v r3)] w7 (R19 fun r8 r9 w10 =>
M.new (.cells #[] 5) w10 fun b13 w11 =>
M.app Try.prog 40 40 40 (SV.mk (some b13) 0 0) (SV.v r5) w11 fun s14 w15 =>
M.app Try.prog 40 40 40 s14 (SV.v r8) w15 fun s17 w18 =>
Calls Try.prog 20 #[(SV.v s17)] w18 (R20 fun r20 r21 w22 =>
M.new (.cells #[] 27) w22 fun b25 w23 =>
M.app Try.prog 24 24 24 (SV.mk (some b25) 0 0) (SV.v r1) w23 fun s26 w27 =>
M.app Try.prog 24 24 24 s26 (SV.v r3) w27 fun s29 w30 =>
M.join (fun (x33 : Bool) (w61 : World) => 
K x33 w61) fun J32 => 
M.ite (r6 == (0 : Int)) (
M.ite (r9 == (0 : Int)) (
M.ite r21 (
Calls Try.prog 21 #[(SV.v r20), (SV.v s29)] w30 (R21 fun r37 w38 =>
M.ite r37 (
Calls Try.prog 13 #[(SV.v r20)] w38 (R13 fun r40 w41 =>
Calls Try.prog 13 #[(SV.v r1)] w41 (R13 fun r42 w43 =>
Calls Try.prog 13 #[(SV.v r3)] w43 (R13 fun r44 w45 =>
M.ite (r40 == (IntKind.i64.wrap (r42 + r44))) (
Calls Try.prog 16 #[(SV.v r20), (Value.int .u32 p2)] w45 (R16 fun r47 w48 =>
Calls Try.prog 16 #[(SV.v r1), (Value.int .u32 p2)] w48 (R16 fun r49 w50 =>
M.ite r49 (
M.ite (r47 == true) (
Calls Try.prog 14 #[] w50 (R14 fun r53 w54 =>
J32 r53 w54)) (
J32 false w50)) (
Calls Try.prog 16 #[(SV.v r3), (Value.int .u32 p2)] w50 (R16 fun r55 w56 =>
M.ite (r47 == r55) (
Calls Try.prog 14 #[] w56 (R14 fun r58 w59 =>
J32 r58 w59)) (
J32 false w56)))))) (
J32 false w45))))) (
J32 false w38))) (
J32 false w30)) (
J32 false w30)) (
J32 false w30))))))
theorem F5_ok {w0 : World} {p0 : SV} {p1 : SV} {p2 : Int} {K : Bool → World → Prop} (h : F5 p0 p1 p2 K w0) : Calls Try.prog 5 #[(SV.v p0), (SV.v p1), (Value.int .u32 p2)] w0 (R5 K) := by
  refine calls_of_WE (args := [(SV.v p0), (SV.v p1), (Value.int .u32 p2)]) (rs := [.tmp 6]) Try.func5 rfl (N := 83) rfl rfl rfl rfl ?_
  refine WE.seq ?_
  refine WE.reg ?_
  refine LE.p (v := (Value.bool false)) (Wn.no rfl) rfl (R.assign rfl) ?_
  refine LE.nil ?_
  refine WE.seq ?_
  refine WE.reg ?_
  refine LE.p (v := (SV.v p0)) (Wn.no rfl) rfl (R.move rfl) ?_
  refine LE.c (Wn.no rfl) rfl (R.call bd15 (Ls.cons rfl Ls.nil) rfl) (Calls.mono h ?_)
  rintro _ w2 ⟨r1, rfl, h⟩
  refine ⟨_, rfl, ?_⟩
  refine LE.p (v := (SV.v p1)) (Wn.no rfl) rfl (R.move rfl) ?_
  refine LE.c (Wn.no rfl) rfl (R.call bd15 (Ls.cons rfl Ls.nil) rfl) (Calls.mono h ?_)
  rintro _ w4 ⟨r3, rfl, h⟩
  refine ⟨_, rfl, ?_⟩
  refine LE.p (v := (SV.v r1)) (Wn.no rfl) rfl (R.assign rfl) ?_
  refine LE.p (v := (SV.v r3)) (Wn.no rfl) rfl (R.assign rfl) ?_
  refine LE.nil ?_
  refine WE.seq ?_
  refine WE.reg ?_
  refine LE.p (v := (SV.v r1)) (Wn.no rfl) rfl (R.move rfl) ?_
  refine LE.c (Wn.no rfl) rfl (R.call bd19 (Ls.cons rfl Ls.nil) rfl) (Calls.mono h ?_)
  rintro _ w7 ⟨r5, r6, rfl, h⟩
  refine ⟨_, rfl, ?_⟩
  refine LE.p (v := (Value.tuple #[(SV.v r5), (Value.int .i64 r6)])) (Wn.no rfl) rfl (R.move rfl) ?_
  refine LE.p (v := (SV.v r5)) (Wn.no rfl) rfl (R.ext rfl rfl) ?_
  refine LE.p (v := (Value.int .i64 r6)) (Wn.no rfl) rfl (R.ext rfl rfl) ?_
  refine LE.p (v := (SV.v r5)) (Wn.no rfl) rfl (R.assign rfl) ?_
  refine LE.p (v := (Value.int .i64 r6)) (Wn.no rfl) rfl (R.assign rfl) ?_
  refine LE.nil ?_
  refine WE.seq ?_
  refine WE.reg ?_
  refine LE.p (v := (SV.v r3)) (Wn.no rfl) rfl (R.move rfl) ?_
  refine LE.c (Wn.no rfl) rfl (R.call bd19 (Ls.cons rfl Ls.nil) rfl) (Calls.mono h ?_)
  rintro _ w10 ⟨r8, r9, rfl, h⟩
  refine ⟨_, rfl, ?_⟩
  refine LE.p (v := (Value.tuple #[(SV.v r8), (Value.int .i64 r9)])) (Wn.no rfl) rfl (R.move rfl) ?_
  refine LE.p (v := (SV.v r8)) (Wn.no rfl) rfl (R.ext rfl rfl) ?_
  refine LE.p (v := (Value.int .i64 r9)) (Wn.no rfl) rfl (R.ext rfl rfl) ?_
  refine LE.p (v := (SV.v r8)) (Wn.no rfl) rfl (R.assign rfl) ?_
  refine LE.p (v := (Value.int .i64 r9)) (Wn.no rfl) rfl (R.assign rfl) ?_
  refine LE.nil ?_
  refine WE.seq ?_
  refine WE.reg ?_
  obtain ⟨b13, hpb13, w11, hww11, h⟩ := M.new_use h
  refine LE.r (v := (SV.v (SV.mk (some b13) 0 0))) (Wn.no rfl) rfl (R.bsl (by exact Ls.nil) (fun w => bs40_0  w) hpb13 hww11) ?_
  refine LE.p (v := (SV.v r5)) (Wn.no rfl) rfl (R.move rfl) ?_
  obtain ⟨s14, w15, h16, h⟩ := h
  refine LE.r (v := (SV.v s14)) (Wn.no rfl) rfl (R.app (s := (SV.mk (some b13) 0 0)) (r := s14) rfl rfl h16) ?_
  refine LE.p (v := (SV.v r8)) (Wn.no rfl) rfl (R.move rfl) ?_
  obtain ⟨s17, w18, h19, h⟩ := h
  refine LE.r (v := (SV.v s17)) (Wn.no rfl) rfl (R.app (s := s14) (r := s17) rfl rfl h19) ?_
  refine LE.c (Wn.no rfl) rfl (R.call bd20 (Ls.cons rfl Ls.nil) rfl) (Calls.mono h ?_)
  rintro _ w22 ⟨r20, r21, rfl, h⟩
  refine ⟨_, rfl, ?_⟩
  refine LE.p (v := (Value.tuple #[(SV.v r20), (Value.bool r21)])) (Wn.no rfl) rfl (R.move rfl) ?_
  refine LE.p (v := (SV.v r20)) (Wn.no rfl) rfl (R.ext rfl rfl) ?_
  refine LE.p (v := (Value.bool r21)) (Wn.no rfl) rfl (R.ext rfl rfl) ?_
  refine LE.p (v := (SV.v r20)) (Wn.no rfl) rfl (R.assign rfl) ?_
  refine LE.p (v := (Value.bool r21)) (Wn.no rfl) rfl (R.assign rfl) ?_
  refine LE.nil ?_
  refine WE.seq ?_
  refine WE.reg ?_
  obtain ⟨b25, hpb25, w23, hww23, h⟩ := M.new_use h
  refine LE.r (v := (SV.v (SV.mk (some b25) 0 0))) (Wn.no rfl) rfl (R.bsl (by exact Ls.nil) (fun w => bs24_0  w) hpb25 hww23) ?_
  refine LE.p (v := (SV.v r1)) (Wn.no rfl) rfl (R.move rfl) ?_
  obtain ⟨s26, w27, h28, h⟩ := h
  refine LE.r (v := (SV.v s26)) (Wn.no rfl) rfl (R.app (s := (SV.mk (some b25) 0 0)) (r := s26) rfl rfl h28) ?_
  refine LE.p (v := (SV.v r3)) (Wn.no rfl) rfl (R.move rfl) ?_
  obtain ⟨s29, w30, h31, h⟩ := h
  refine LE.r (v := (SV.v s29)) (Wn.no rfl) rfl (R.app (s := s26) (r := s29) rfl rfl h31) ?_
  refine LE.p (v := (SV.v s29)) (Wn.no rfl) rfl (R.assign rfl) ?_
  refine LE.nil ?_
  refine WE.seq ?_
  obtain ⟨J32, hJ32, h⟩ := M.join_use h
  refine WE.regJ (fun e w => ∃ (x33 : Bool), J32 x33 w ∧ e 6 = (Value.bool x33)) ?_ ?_
  · clear hJ32
    refine LE.p (v := (Value.int .i64 r6)) (Wn.no rfl) rfl (R.move rfl) ?_
    refine LE.p (v := (Value.bool (r6 == (0 : Int)))) (Wn.no rfl) rfl (R.eql rfl rfl) ?_
    refine LE.p (v := (Value.bool (r6 == (0 : Int)))) (Wn.no rfl) rfl (R.move rfl) ?_
    rcases M.ite_use h with ⟨hb34, h⟩ | ⟨hb34, h⟩
    · refine LE.p (v := (Value.int .i64 r9)) (Wn.yes 2 44 true rfl rfl rfl (congrArg Value.bool hb34)) rfl (R.move rfl) ?_
      refine LE.p (v := (Value.bool (r9 == (0 : Int)))) (Wn.yes 2 44 true rfl rfl rfl (congrArg Value.bool hb34)) rfl (R.eql rfl rfl) ?_
      refine LE.p (v := (Value.bool (r9 == (0 : Int)))) (Wn.no rfl) rfl (R.pickT (congrArg Value.bool hb34) rfl) ?_
      refine LE.p (v := (Value.bool (r9 == (0 : Int)))) (Wn.no rfl) rfl (R.move rfl) ?_
      rcases M.ite_use h with ⟨hb35, h⟩ | ⟨hb35, h⟩
      · refine LE.p (v := (Value.bool r21)) (Wn.yes 6 48 true rfl rfl rfl (congrArg Value.bool hb35)) rfl (R.move rfl) ?_
        refine LE.p (v := (Value.bool r21)) (Wn.no rfl) rfl (R.pickT (congrArg Value.bool hb35) rfl) ?_
        refine LE.p (v := (Value.bool r21)) (Wn.no rfl) rfl (R.move rfl) ?_
        rcases M.ite_use h with ⟨hb36, h⟩ | ⟨hb36, h⟩
        · refine LE.p (v := (SV.v r20)) (Wn.yes 9 51 true rfl rfl rfl (congrArg Value.bool hb36)) rfl (R.move rfl) ?_
          refine LE.p (v := (SV.v s29)) (Wn.yes 9 51 true rfl rfl rfl (congrArg Value.bool hb36)) rfl (R.move rfl) ?_
          refine LE.c (Wn.yes 9 51 true rfl rfl rfl (congrArg Value.bool hb36)) rfl (R.call bd21 (Ls.cons rfl (Ls.cons rfl Ls.nil)) rfl) (Calls.mono h ?_)
          rintro _ w38 ⟨r37, rfl, h⟩
          refine ⟨_, rfl, ?_⟩
          refine LE.p (v := (Value.bool r37)) (Wn.no rfl) rfl (R.pickT (congrArg Value.bool hb36) rfl) ?_
          refine LE.p (v := (Value.bool r37)) (Wn.no rfl) rfl (R.move rfl) ?_
          rcases M.ite_use h with ⟨hb39, h⟩ | ⟨hb39, h⟩
          · refine LE.p (v := (SV.v r20)) (Wn.yes 14 56 true rfl rfl rfl (congrArg Value.bool hb39)) rfl (R.move rfl) ?_
            refine LE.c (Wn.yes 14 56 true rfl rfl rfl (congrArg Value.bool hb39)) rfl (R.call bd13 (Ls.cons rfl Ls.nil) rfl) (Calls.mono h ?_)
            rintro _ w41 ⟨r40, rfl, h⟩
            refine ⟨_, rfl, ?_⟩
            refine LE.p (v := (SV.v r1)) (Wn.yes 14 56 true rfl rfl rfl (congrArg Value.bool hb39)) rfl (R.move rfl) ?_
            refine LE.c (Wn.yes 14 56 true rfl rfl rfl (congrArg Value.bool hb39)) rfl (R.call bd13 (Ls.cons rfl Ls.nil) rfl) (Calls.mono h ?_)
            rintro _ w43 ⟨r42, rfl, h⟩
            refine ⟨_, rfl, ?_⟩
            refine LE.p (v := (SV.v r3)) (Wn.yes 14 56 true rfl rfl rfl (congrArg Value.bool hb39)) rfl (R.move rfl) ?_
            refine LE.c (Wn.yes 14 56 true rfl rfl rfl (congrArg Value.bool hb39)) rfl (R.call bd13 (Ls.cons rfl Ls.nil) rfl) (Calls.mono h ?_)
            rintro _ w45 ⟨r44, rfl, h⟩
            refine ⟨_, rfl, ?_⟩
            refine LE.p (v := (Value.int .i64 (IntKind.i64.wrap (r42 + r44)))) (Wn.yes 14 56 true rfl rfl rfl (congrArg Value.bool hb39)) rfl (R.add rfl rfl) ?_
            refine LE.p (v := (Value.bool (r40 == (IntKind.i64.wrap (r42 + r44))))) (Wn.yes 14 56 true rfl rfl rfl (congrArg Value.bool hb39)) rfl (R.eql rfl rfl) ?_
            refine LE.p (v := (Value.bool (r40 == (IntKind.i64.wrap (r42 + r44))))) (Wn.no rfl) rfl (R.pickT (congrArg Value.bool hb39) rfl) ?_
            refine LE.p (v := (Value.bool (r40 == (IntKind.i64.wrap (r42 + r44))))) (Wn.no rfl) rfl (R.move rfl) ?_
            rcases M.ite_use h with ⟨hb46, h⟩ | ⟨hb46, h⟩
            · refine LE.p (v := (SV.v r20)) (Wn.yes 24 66 true rfl rfl rfl (congrArg Value.bool hb46)) rfl (R.move rfl) ?_
              refine LE.p (v := (Value.int .u32 p2)) (Wn.yes 24 66 true rfl rfl rfl (congrArg Value.bool hb46)) rfl (R.move rfl) ?_
              refine LE.c (Wn.yes 24 66 true rfl rfl rfl (congrArg Value.bool hb46)) rfl (R.call bd16 (Ls.cons rfl (Ls.cons rfl Ls.nil)) rfl) (Calls.mono h ?_)
              rintro _ w48 ⟨r47, rfl, h⟩
              refine ⟨_, rfl, ?_⟩
              refine LE.p (v := (SV.v r1)) (Wn.yes 24 66 true rfl rfl rfl (congrArg Value.bool hb46)) rfl (R.move rfl) ?_
              refine LE.p (v := (Value.int .u32 p2)) (Wn.yes 24 66 true rfl rfl rfl (congrArg Value.bool hb46)) rfl (R.move rfl) ?_
              refine LE.c (Wn.yes 24 66 true rfl rfl rfl (congrArg Value.bool hb46)) rfl (R.call bd16 (Ls.cons rfl (Ls.cons rfl Ls.nil)) rfl) (Calls.mono h ?_)
              rintro _ w50 ⟨r49, rfl, h⟩
              refine ⟨_, rfl, ?_⟩
              refine LE.p (v := (Value.bool r49)) (Wn.yes 24 66 true rfl rfl rfl (congrArg Value.bool hb46)) rfl (R.move rfl) ?_
              rcases M.ite_use h with ⟨hb51, h⟩ | ⟨hb51, h⟩
              · refine LE.u (Un.no 31 73 false rfl rfl rfl (congrArg Value.bool hb51)) ?_
                refine LE.u (Un.no 31 73 false rfl rfl rfl (congrArg Value.bool hb51)) ?_
                refine LE.u (Un.no 31 73 false rfl rfl rfl (congrArg Value.bool hb51)) ?_
                refine LE.p (v := (Value.bool true)) (Wn.yes 24 66 true rfl rfl rfl (congrArg Value.bool hb46)) rfl (R.pickT (congrArg Value.bool hb51) rfl) ?_
                refine LE.p (v := (Value.bool (r47 == true))) (Wn.yes 24 66 true rfl rfl rfl (congrArg Value.bool hb46)) rfl (R.beql bo4 rfl rfl) ?_
                refine LE.p (v := (Value.bool (r47 == true))) (Wn.no rfl) rfl (R.pickT (congrArg Value.bool hb46) rfl) ?_
                refine LE.p (v := (Value.bool (r47 == true))) (Wn.no rfl) rfl (R.move rfl) ?_
                rcases M.ite_use h with ⟨hb52, h⟩ | ⟨hb52, h⟩
                · refine LE.c (Wn.yes 38 80 true rfl rfl rfl (congrArg Value.bool hb52)) rfl (R.call bd14 Ls.nil rfl) (Calls.mono h ?_)
                  rintro _ w54 ⟨r53, rfl, h⟩
                  refine ⟨_, rfl, ?_⟩
                  refine LE.p (v := (Value.bool r53)) (Wn.no rfl) rfl (R.pickT (congrArg Value.bool hb52) rfl) ?_
                  refine LE.p (v := (Value.bool r53)) (Wn.no rfl) rfl (R.assign rfl) ?_
                  refine LE.nil ?_
                  exact ⟨_, h, rfl⟩
                · refine LE.u (Un.no 38 80 true rfl rfl rfl (congrArg Value.bool hb52)) ?_
                  refine LE.p (v := (Value.bool false)) (Wn.no rfl) rfl (R.pickF (congrArg Value.bool hb52) rfl) ?_
                  refine LE.p (v := (Value.bool false)) (Wn.no rfl) rfl (R.assign rfl) ?_
                  refine LE.nil ?_
                  exact ⟨_, h, rfl⟩
              · refine LE.p (v := (SV.v r3)) (Wn.yes 31 73 false rfl rfl rfl (congrArg Value.bool hb51)) rfl (R.move rfl) ?_
                refine LE.p (v := (Value.int .u32 p2)) (Wn.yes 31 73 false rfl rfl rfl (congrArg Value.bool hb51)) rfl (R.move rfl) ?_
                refine LE.c (Wn.yes 31 73 false rfl rfl rfl (congrArg Value.bool hb51)) rfl (R.call bd16 (Ls.cons rfl (Ls.cons rfl Ls.nil)) rfl) (Calls.mono h ?_)
                rintro _ w56 ⟨r55, rfl, h⟩
                refine ⟨_, rfl, ?_⟩
                refine LE.p (v := (Value.bool r55)) (Wn.yes 24 66 true rfl rfl rfl (congrArg Value.bool hb46)) rfl (R.pickF (congrArg Value.bool hb51) rfl) ?_
                refine LE.p (v := (Value.bool (r47 == r55))) (Wn.yes 24 66 true rfl rfl rfl (congrArg Value.bool hb46)) rfl (R.beql bo4 rfl rfl) ?_
                refine LE.p (v := (Value.bool (r47 == r55))) (Wn.no rfl) rfl (R.pickT (congrArg Value.bool hb46) rfl) ?_
                refine LE.p (v := (Value.bool (r47 == r55))) (Wn.no rfl) rfl (R.move rfl) ?_
                rcases M.ite_use h with ⟨hb57, h⟩ | ⟨hb57, h⟩
                · refine LE.c (Wn.yes 38 80 true rfl rfl rfl (congrArg Value.bool hb57)) rfl (R.call bd14 Ls.nil rfl) (Calls.mono h ?_)
                  rintro _ w59 ⟨r58, rfl, h⟩
                  refine ⟨_, rfl, ?_⟩
                  refine LE.p (v := (Value.bool r58)) (Wn.no rfl) rfl (R.pickT (congrArg Value.bool hb57) rfl) ?_
                  refine LE.p (v := (Value.bool r58)) (Wn.no rfl) rfl (R.assign rfl) ?_
                  refine LE.nil ?_
                  exact ⟨_, h, rfl⟩
                · refine LE.u (Un.no 38 80 true rfl rfl rfl (congrArg Value.bool hb57)) ?_
                  refine LE.p (v := (Value.bool false)) (Wn.no rfl) rfl (R.pickF (congrArg Value.bool hb57) rfl) ?_
                  refine LE.p (v := (Value.bool false)) (Wn.no rfl) rfl (R.assign rfl) ?_
                  refine LE.nil ?_
                  exact ⟨_, h, rfl⟩
            · refine LE.u (Un.no 24 66 true rfl rfl rfl (congrArg Value.bool hb46)) ?_
              refine LE.u (Un.no 24 66 true rfl rfl rfl (congrArg Value.bool hb46)) ?_
              refine LE.u (Un.no 24 66 true rfl rfl rfl (congrArg Value.bool hb46)) ?_
              refine LE.u (Un.no 24 66 true rfl rfl rfl (congrArg Value.bool hb46)) ?_
              refine LE.u (Un.no 24 66 true rfl rfl rfl (congrArg Value.bool hb46)) ?_
              refine LE.u (Un.no 24 66 true rfl rfl rfl (congrArg Value.bool hb46)) ?_
              refine LE.u (Un.no 24 66 true rfl rfl rfl (congrArg Value.bool hb46)) ?_
              refine LE.u (Un.un 31 73 false rfl rfl rfl rfl) ?_
              refine LE.u (Un.un 31 73 false rfl rfl rfl rfl) ?_
              refine LE.u (Un.un 31 73 false rfl rfl rfl rfl) ?_
              refine LE.u (Un.no 24 66 true rfl rfl rfl (congrArg Value.bool hb46)) ?_
              refine LE.u (Un.no 24 66 true rfl rfl rfl (congrArg Value.bool hb46)) ?_
              refine LE.p (v := (Value.bool false)) (Wn.no rfl) rfl (R.pickF (congrArg Value.bool hb46) rfl) ?_
              refine LE.p (v := (Value.bool false)) (Wn.no rfl) rfl (R.move rfl) ?_
              refine LE.u (Un.no 38 80 true rfl rfl rfl rfl) ?_
              refine LE.p (v := (Value.bool false)) (Wn.no rfl) rfl (R.pickF rfl rfl) ?_
              refine LE.p (v := (Value.bool false)) (Wn.no rfl) rfl (R.assign rfl) ?_
              refine LE.nil ?_
              exact ⟨_, h, rfl⟩
          · refine LE.u (Un.no 14 56 true rfl rfl rfl (congrArg Value.bool hb39)) ?_
            refine LE.u (Un.no 14 56 true rfl rfl rfl (congrArg Value.bool hb39)) ?_
            refine LE.u (Un.no 14 56 true rfl rfl rfl (congrArg Value.bool hb39)) ?_
            refine LE.u (Un.no 14 56 true rfl rfl rfl (congrArg Value.bool hb39)) ?_
            refine LE.u (Un.no 14 56 true rfl rfl rfl (congrArg Value.bool hb39)) ?_
            refine LE.u (Un.no 14 56 true rfl rfl rfl (congrArg Value.bool hb39)) ?_
            refine LE.u (Un.no 14 56 true rfl rfl rfl (congrArg Value.bool hb39)) ?_
            refine LE.u (Un.no 14 56 true rfl rfl rfl (congrArg Value.bool hb39)) ?_
            refine LE.p (v := (Value.bool false)) (Wn.no rfl) rfl (R.pickF (congrArg Value.bool hb39) rfl) ?_
            refine LE.p (v := (Value.bool false)) (Wn.no rfl) rfl (R.move rfl) ?_
            refine LE.u (Un.no 24 66 true rfl rfl rfl rfl) ?_
            refine LE.u (Un.no 24 66 true rfl rfl rfl rfl) ?_
            refine LE.u (Un.no 24 66 true rfl rfl rfl rfl) ?_
            refine LE.u (Un.no 24 66 true rfl rfl rfl rfl) ?_
            refine LE.u (Un.no 24 66 true rfl rfl rfl rfl) ?_
            refine LE.u (Un.no 24 66 true rfl rfl rfl rfl) ?_
            refine LE.u (Un.no 24 66 true rfl rfl rfl rfl) ?_
            refine LE.u (Un.un 31 73 false rfl rfl rfl rfl) ?_
            refine LE.u (Un.un 31 73 false rfl rfl rfl rfl) ?_
            refine LE.u (Un.un 31 73 false rfl rfl rfl rfl) ?_
            refine LE.u (Un.no 24 66 true rfl rfl rfl rfl) ?_
            refine LE.u (Un.no 24 66 true rfl rfl rfl rfl) ?_
            refine LE.p (v := (Value.bool false)) (Wn.no rfl) rfl (R.pickF rfl rfl) ?_
            refine LE.p (v := (Value.bool false)) (Wn.no rfl) rfl (R.move rfl) ?_
            refine LE.u (Un.no 38 80 true rfl rfl rfl rfl) ?_
            refine LE.p (v := (Value.bool false)) (Wn.no rfl) rfl (R.pickF rfl rfl) ?_
            refine LE.p (v := (Value.bool false)) (Wn.no rfl) rfl (R.assign rfl) ?_
            refine LE.nil ?_
            exact ⟨_, h, rfl⟩
        · refine LE.u (Un.no 9 51 true rfl rfl rfl (congrArg Value.bool hb36)) ?_
          refine LE.u (Un.no 9 51 true rfl rfl rfl (congrArg Value.bool hb36)) ?_
          refine LE.u (Un.no 9 51 true rfl rfl rfl (congrArg Value.bool hb36)) ?_
          refine LE.p (v := (Value.bool false)) (Wn.no rfl) rfl (R.pickF (congrArg Value.bool hb36) rfl) ?_
          refine LE.p (v := (Value.bool false)) (Wn.no rfl) rfl (R.move rfl) ?_
          refine LE.u (Un.no 14 56 true rfl rfl rfl rfl) ?_
          refine LE.u (Un.no 14 56 true rfl rfl rfl rfl) ?_
          refine LE.u (Un.no 14 56 true rfl rfl rfl rfl) ?_
          refine LE.u (Un.no 14 56 true rfl rfl rfl rfl) ?_
          refine LE.u (Un.no 14 56 true rfl rfl rfl rfl) ?_
          refine LE.u (Un.no 14 56 true rfl rfl rfl rfl) ?_
          refine LE.u (Un.no 14 56 true rfl rfl rfl rfl) ?_
          refine LE.u (Un.no 14 56 true rfl rfl rfl rfl) ?_
          refine LE.p (v := (Value.bool false)) (Wn.no rfl) rfl (R.pickF rfl rfl) ?_
          refine LE.p (v := (Value.bool false)) (Wn.no rfl) rfl (R.move rfl) ?_
          refine LE.u (Un.no 24 66 true rfl rfl rfl rfl) ?_
          refine LE.u (Un.no 24 66 true rfl rfl rfl rfl) ?_
          refine LE.u (Un.no 24 66 true rfl rfl rfl rfl) ?_
          refine LE.u (Un.no 24 66 true rfl rfl rfl rfl) ?_
          refine LE.u (Un.no 24 66 true rfl rfl rfl rfl) ?_
          refine LE.u (Un.no 24 66 true rfl rfl rfl rfl) ?_
          refine LE.u (Un.no 24 66 true rfl rfl rfl rfl) ?_
          refine LE.u (Un.un 31 73 false rfl rfl rfl rfl) ?_
          refine LE.u (Un.un 31 73 false rfl rfl rfl rfl) ?_
          refine LE.u (Un.un 31 73 false rfl rfl rfl rfl) ?_
          refine LE.u (Un.no 24 66 true rfl rfl rfl rfl) ?_
          refine LE.u (Un.no 24 66 true rfl rfl rfl rfl) ?_
          refine LE.p (v := (Value.bool false)) (Wn.no rfl) rfl (R.pickF rfl rfl) ?_
          refine LE.p (v := (Value.bool false)) (Wn.no rfl) rfl (R.move rfl) ?_
          refine LE.u (Un.no 38 80 true rfl rfl rfl rfl) ?_
          refine LE.p (v := (Value.bool false)) (Wn.no rfl) rfl (R.pickF rfl rfl) ?_
          refine LE.p (v := (Value.bool false)) (Wn.no rfl) rfl (R.assign rfl) ?_
          refine LE.nil ?_
          exact ⟨_, h, rfl⟩
      · refine LE.u (Un.no 6 48 true rfl rfl rfl (congrArg Value.bool hb35)) ?_
        refine LE.p (v := (Value.bool false)) (Wn.no rfl) rfl (R.pickF (congrArg Value.bool hb35) rfl) ?_
        refine LE.p (v := (Value.bool false)) (Wn.no rfl) rfl (R.move rfl) ?_
        refine LE.u (Un.no 9 51 true rfl rfl rfl rfl) ?_
        refine LE.u (Un.no 9 51 true rfl rfl rfl rfl) ?_
        refine LE.u (Un.no 9 51 true rfl rfl rfl rfl) ?_
        refine LE.p (v := (Value.bool false)) (Wn.no rfl) rfl (R.pickF rfl rfl) ?_
        refine LE.p (v := (Value.bool false)) (Wn.no rfl) rfl (R.move rfl) ?_
        refine LE.u (Un.no 14 56 true rfl rfl rfl rfl) ?_
        refine LE.u (Un.no 14 56 true rfl rfl rfl rfl) ?_
        refine LE.u (Un.no 14 56 true rfl rfl rfl rfl) ?_
        refine LE.u (Un.no 14 56 true rfl rfl rfl rfl) ?_
        refine LE.u (Un.no 14 56 true rfl rfl rfl rfl) ?_
        refine LE.u (Un.no 14 56 true rfl rfl rfl rfl) ?_
        refine LE.u (Un.no 14 56 true rfl rfl rfl rfl) ?_
        refine LE.u (Un.no 14 56 true rfl rfl rfl rfl) ?_
        refine LE.p (v := (Value.bool false)) (Wn.no rfl) rfl (R.pickF rfl rfl) ?_
        refine LE.p (v := (Value.bool false)) (Wn.no rfl) rfl (R.move rfl) ?_
        refine LE.u (Un.no 24 66 true rfl rfl rfl rfl) ?_
        refine LE.u (Un.no 24 66 true rfl rfl rfl rfl) ?_
        refine LE.u (Un.no 24 66 true rfl rfl rfl rfl) ?_
        refine LE.u (Un.no 24 66 true rfl rfl rfl rfl) ?_
        refine LE.u (Un.no 24 66 true rfl rfl rfl rfl) ?_
        refine LE.u (Un.no 24 66 true rfl rfl rfl rfl) ?_
        refine LE.u (Un.no 24 66 true rfl rfl rfl rfl) ?_
        refine LE.u (Un.un 31 73 false rfl rfl rfl rfl) ?_
        refine LE.u (Un.un 31 73 false rfl rfl rfl rfl) ?_
        refine LE.u (Un.un 31 73 false rfl rfl rfl rfl) ?_
        refine LE.u (Un.no 24 66 true rfl rfl rfl rfl) ?_
        refine LE.u (Un.no 24 66 true rfl rfl rfl rfl) ?_
        refine LE.p (v := (Value.bool false)) (Wn.no rfl) rfl (R.pickF rfl rfl) ?_
        refine LE.p (v := (Value.bool false)) (Wn.no rfl) rfl (R.move rfl) ?_
        refine LE.u (Un.no 38 80 true rfl rfl rfl rfl) ?_
        refine LE.p (v := (Value.bool false)) (Wn.no rfl) rfl (R.pickF rfl rfl) ?_
        refine LE.p (v := (Value.bool false)) (Wn.no rfl) rfl (R.assign rfl) ?_
        refine LE.nil ?_
        exact ⟨_, h, rfl⟩
    · refine LE.u (Un.no 2 44 true rfl rfl rfl (congrArg Value.bool hb34)) ?_
      refine LE.u (Un.no 2 44 true rfl rfl rfl (congrArg Value.bool hb34)) ?_
      refine LE.p (v := (Value.bool false)) (Wn.no rfl) rfl (R.pickF (congrArg Value.bool hb34) rfl) ?_
      refine LE.p (v := (Value.bool false)) (Wn.no rfl) rfl (R.move rfl) ?_
      refine LE.u (Un.no 6 48 true rfl rfl rfl rfl) ?_
      refine LE.p (v := (Value.bool false)) (Wn.no rfl) rfl (R.pickF rfl rfl) ?_
      refine LE.p (v := (Value.bool false)) (Wn.no rfl) rfl (R.move rfl) ?_
      refine LE.u (Un.no 9 51 true rfl rfl rfl rfl) ?_
      refine LE.u (Un.no 9 51 true rfl rfl rfl rfl) ?_
      refine LE.u (Un.no 9 51 true rfl rfl rfl rfl) ?_
      refine LE.p (v := (Value.bool false)) (Wn.no rfl) rfl (R.pickF rfl rfl) ?_
      refine LE.p (v := (Value.bool false)) (Wn.no rfl) rfl (R.move rfl) ?_
      refine LE.u (Un.no 14 56 true rfl rfl rfl rfl) ?_
      refine LE.u (Un.no 14 56 true rfl rfl rfl rfl) ?_
      refine LE.u (Un.no 14 56 true rfl rfl rfl rfl) ?_
      refine LE.u (Un.no 14 56 true rfl rfl rfl rfl) ?_
      refine LE.u (Un.no 14 56 true rfl rfl rfl rfl) ?_
      refine LE.u (Un.no 14 56 true rfl rfl rfl rfl) ?_
      refine LE.u (Un.no 14 56 true rfl rfl rfl rfl) ?_
      refine LE.u (Un.no 14 56 true rfl rfl rfl rfl) ?_
      refine LE.p (v := (Value.bool false)) (Wn.no rfl) rfl (R.pickF rfl rfl) ?_
      refine LE.p (v := (Value.bool false)) (Wn.no rfl) rfl (R.move rfl) ?_
      refine LE.u (Un.no 24 66 true rfl rfl rfl rfl) ?_
      refine LE.u (Un.no 24 66 true rfl rfl rfl rfl) ?_
      refine LE.u (Un.no 24 66 true rfl rfl rfl rfl) ?_
      refine LE.u (Un.no 24 66 true rfl rfl rfl rfl) ?_
      refine LE.u (Un.no 24 66 true rfl rfl rfl rfl) ?_
      refine LE.u (Un.no 24 66 true rfl rfl rfl rfl) ?_
      refine LE.u (Un.no 24 66 true rfl rfl rfl rfl) ?_
      refine LE.u (Un.un 31 73 false rfl rfl rfl rfl) ?_
      refine LE.u (Un.un 31 73 false rfl rfl rfl rfl) ?_
      refine LE.u (Un.un 31 73 false rfl rfl rfl rfl) ?_
      refine LE.u (Un.no 24 66 true rfl rfl rfl rfl) ?_
      refine LE.u (Un.no 24 66 true rfl rfl rfl rfl) ?_
      refine LE.p (v := (Value.bool false)) (Wn.no rfl) rfl (R.pickF rfl rfl) ?_
      refine LE.p (v := (Value.bool false)) (Wn.no rfl) rfl (R.move rfl) ?_
      refine LE.u (Un.no 38 80 true rfl rfl rfl rfl) ?_
      refine LE.p (v := (Value.bool false)) (Wn.no rfl) rfl (R.pickF rfl rfl) ?_
      refine LE.p (v := (Value.bool false)) (Wn.no rfl) rfl (R.assign rfl) ?_
      refine LE.nil ?_
      exact ⟨_, h, rfl⟩
  · rintro e60 w61 ⟨x33, h, f62⟩
    subst hJ32
    refine WE.ret ?_
    exact ⟨_, (Res.tmp f62 Res.nil), _, rfl, h⟩
/-- The formula of signpost.signpostlaw6.AspathBack. -/
def F6 (p0 : SV) (p1 : SV) (p2 : SV) (K : Bool → World → Prop) (w0 : World) : Prop :=
Calls Try.prog 15 #[(SV.v p0)] w0 (R15 fun r1 w2 =>
Calls Try.prog 15 #[(SV.v p1)] w2 (R15 fun r3 w4 =>
Calls Try.prog 19 #[(SV.v r1)] w4 (R19 fun r5 r6 w7 =>
Calls Try.prog 19 #[(SV.v r3)] w7 (R19 fun r8 r9 w10 =>
Calls Try.prog 20 #[(SV.v r5)] w10 (R20 fun r11 r12 w13 =>
M.join (fun (x15 : Bool) (w32 : World) => 
M.ite x15 (
K false w32) (
Calls Try.prog 22 #[(SV.v p2), (Value.int .i64 (300 : Int))] w32 (R22 fun r36 w37 =>
Calls Try.prog 20 #[(SV.v r36)] w37 (R20 fun r38 r39 w40 =>
M.ite r39 (
Calls Try.prog 19 #[(SV.v r38)] w40 (R19 fun r42 r43 w44 =>
M.join (fun (x46 : Bool) (w59 : World) => 
K x46 w59) fun J45 => 
M.ite (r43 == (0 : Int)) (
M.b2s Try.prog 40 9 r42 w44 fun t48 =>
M.b2s Try.prog 40 9 r36 w44 fun t50 =>
M.ite (t48.toList == t50.toList) (
Calls Try.prog 12 #[(SV.v r38)] w44 (R12 fun r53 w54 =>
M.ite r53 (
Calls Try.prog 14 #[] w54 (R14 fun r56 w57 =>
J45 r56 w57)) (
J45 false w54))) (
J45 false w44)) (
J45 false w44))) (
M.join (fun (x62 : Bool) (w67 : World) => 
K x62 w67) fun J61 => 
M.ite ((r38.len : Int) == (0 : Int)) (
Calls Try.prog 14 #[] w40 (R14 fun r64 w65 =>
J61 r64 w65)) (
J61 false w40)))))) fun J14 => 
M.drew w13 fun w16 => 
M.ite (r6 != (0 : Int)) (
J14 true w16) (
M.ite (r9 != (0 : Int)) (
J14 true w16) (
M.ite (!r12) (
J14 true w16) (
Calls Try.prog 18 #[(SV.v r11), (SV.v r1)] w16 (R18 fun r20 w21 =>
M.ite (!r20) (
J14 true w21) (
M.b2s Try.prog 40 9 r5 w21 fun t23 =>
M.b2s Try.prog 40 9 r8 w21 fun t25 =>
Calls Try.prog 18 #[(SV.v r1), (SV.v r3)] w21 (R18 fun r27 w28 =>
M.keep ((convert 40 9 (SV.v r8)).run Try.prog w28 = .ok (.string t25) w28) <|
M.keep ((convert 40 9 (SV.v r5)).run Try.prog w28 = .ok (.string t23) w28) <|
J14 (!((t23.toList == t25.toList) == r27)) w28)))))))))))
theorem F6_ok {w0 : World} {p0 : SV} {p1 : SV} {p2 : SV} {K : Bool → World → Prop} (h : F6 p0 p1 p2 K w0) : Calls Try.prog 6 #[(SV.v p0), (SV.v p1), (SV.v p2)] w0 (R6 K) := by
  refine calls_of_WE (args := [(SV.v p0), (SV.v p1), (SV.v p2)]) (rs := [.tmp 6]) Try.func6 rfl (N := 98) rfl rfl rfl rfl ?_
  refine WE.seq ?_
  refine WE.reg ?_
  refine LE.p (v := (Value.bool false)) (Wn.no rfl) rfl (R.assign rfl) ?_
  refine LE.nil ?_
  refine WE.seq ?_
  refine WE.reg ?_
  refine LE.p (v := (SV.v p0)) (Wn.no rfl) rfl (R.move rfl) ?_
  refine LE.c (Wn.no rfl) rfl (R.call bd15 (Ls.cons rfl Ls.nil) rfl) (Calls.mono h ?_)
  rintro _ w2 ⟨r1, rfl, h⟩
  refine ⟨_, rfl, ?_⟩
  refine LE.p (v := (SV.v p1)) (Wn.no rfl) rfl (R.move rfl) ?_
  refine LE.c (Wn.no rfl) rfl (R.call bd15 (Ls.cons rfl Ls.nil) rfl) (Calls.mono h ?_)
  rintro _ w4 ⟨r3, rfl, h⟩
  refine ⟨_, rfl, ?_⟩
  refine LE.p (v := (SV.v r1)) (Wn.no rfl) rfl (R.assign rfl) ?_
  refine LE.p (v := (SV.v r3)) (Wn.no rfl) rfl (R.assign rfl) ?_
  refine LE.nil ?_
  refine WE.seq ?_
  refine WE.reg ?_
  refine LE.p (v := (SV.v r1)) (Wn.no rfl) rfl (R.move rfl) ?_
  refine LE.c (Wn.no rfl) rfl (R.call bd19 (Ls.cons rfl Ls.nil) rfl) (Calls.mono h ?_)
  rintro _ w7 ⟨r5, r6, rfl, h⟩
  refine ⟨_, rfl, ?_⟩
  refine LE.p (v := (Value.tuple #[(SV.v r5), (Value.int .i64 r6)])) (Wn.no rfl) rfl (R.move rfl) ?_
  refine LE.p (v := (SV.v r5)) (Wn.no rfl) rfl (R.ext rfl rfl) ?_
  refine LE.p (v := (Value.int .i64 r6)) (Wn.no rfl) rfl (R.ext rfl rfl) ?_
  refine LE.p (v := (SV.v r5)) (Wn.no rfl) rfl (R.assign rfl) ?_
  refine LE.p (v := (Value.int .i64 r6)) (Wn.no rfl) rfl (R.assign rfl) ?_
  refine LE.nil ?_
  refine WE.seq ?_
  refine WE.reg ?_
  refine LE.p (v := (SV.v r3)) (Wn.no rfl) rfl (R.move rfl) ?_
  refine LE.c (Wn.no rfl) rfl (R.call bd19 (Ls.cons rfl Ls.nil) rfl) (Calls.mono h ?_)
  rintro _ w10 ⟨r8, r9, rfl, h⟩
  refine ⟨_, rfl, ?_⟩
  refine LE.p (v := (Value.tuple #[(SV.v r8), (Value.int .i64 r9)])) (Wn.no rfl) rfl (R.move rfl) ?_
  refine LE.p (v := (SV.v r8)) (Wn.no rfl) rfl (R.ext rfl rfl) ?_
  refine LE.p (v := (Value.int .i64 r9)) (Wn.no rfl) rfl (R.ext rfl rfl) ?_
  refine LE.p (v := (SV.v r8)) (Wn.no rfl) rfl (R.assign rfl) ?_
  refine LE.p (v := (Value.int .i64 r9)) (Wn.no rfl) rfl (R.assign rfl) ?_
  refine LE.nil ?_
  refine WE.seq ?_
  refine WE.reg ?_
  refine LE.p (v := (SV.v r5)) (Wn.no rfl) rfl (R.move rfl) ?_
  refine LE.c (Wn.no rfl) rfl (R.call bd20 (Ls.cons rfl Ls.nil) rfl) (Calls.mono h ?_)
  rintro _ w13 ⟨r11, r12, rfl, h⟩
  refine ⟨_, rfl, ?_⟩
  refine LE.p (v := (Value.tuple #[(SV.v r11), (Value.bool r12)])) (Wn.no rfl) rfl (R.move rfl) ?_
  refine LE.p (v := (SV.v r11)) (Wn.no rfl) rfl (R.ext rfl rfl) ?_
  refine LE.p (v := (Value.bool r12)) (Wn.no rfl) rfl (R.ext rfl rfl) ?_
  refine LE.p (v := (SV.v r11)) (Wn.no rfl) rfl (R.assign rfl) ?_
  refine LE.p (v := (Value.bool r12)) (Wn.no rfl) rfl (R.assign rfl) ?_
  refine LE.nil ?_
  refine WE.seq ?_
  refine WE.seq ?_
  obtain ⟨J14, hJ14, h⟩ := M.join_use h
  refine WE.drawJ (fun e w => ∃ (x15 : Bool), J14 x15 w ∧ e 2 = (SV.v p2) ∧ e 62 = (Value.bool x15)) mix ?_ ?_
  · clear hJ14
    obtain ⟨w16, hww16, h⟩ := M.drew_use h
    rw [← hww16]
    clear hww16
    refine DE.t 0 (v := (Value.int .i64 r6)) rfl (by kernel_rfl) (Wn.no rfl) rfl (R.move rfl) ?_
    refine DE.t 1 (v := (Value.bool (r6 != (0 : Int)))) rfl (by kernel_rfl) (Wn.no rfl) rfl (R.neq rfl rfl) ?_
    refine DE.t 2 (v := (Value.bool (r6 != (0 : Int)))) rfl (by kernel_rfl) (Wn.no rfl) rfl (R.move rfl) ?_
    rcases M.ite_use h with ⟨hb17, h⟩ | ⟨hb17, h⟩
    · refine DE.u 3 rfl (by kernel_rfl) (Un.no 2 38 false rfl rfl rfl (congrArg Value.bool hb17)) ?_
      refine DE.u 4 rfl (by kernel_rfl) (Un.no 2 38 false rfl rfl rfl (congrArg Value.bool hb17)) ?_
      refine DE.t 5 (v := (Value.bool true)) rfl (by kernel_rfl) (Wn.no rfl) rfl (R.pickT (congrArg Value.bool hb17) rfl) ?_
      refine DE.t 6 (v := (Value.bool true)) rfl (by kernel_rfl) (Wn.no rfl) rfl (R.move rfl) ?_
      refine DE.u 7 rfl (by kernel_rfl) (Un.no 6 42 false rfl rfl rfl rfl) ?_
      refine DE.u 8 rfl (by kernel_rfl) (Un.no 6 42 false rfl rfl rfl rfl) ?_
      refine DE.t 9 (v := (Value.bool true)) rfl (by kernel_rfl) (Wn.no rfl) rfl (R.pickT rfl rfl) ?_
      refine DE.t 10 (v := (Value.bool true)) rfl (by kernel_rfl) (Wn.no rfl) rfl (R.move rfl) ?_
      refine DE.u 11 rfl (by kernel_rfl) (Un.no 10 46 false rfl rfl rfl rfl) ?_
      refine DE.u 12 rfl (by kernel_rfl) (Un.no 10 46 false rfl rfl rfl rfl) ?_
      refine DE.u 13 rfl (by kernel_rfl) (Un.no 10 46 false rfl rfl rfl rfl) ?_
      refine DE.u 14 rfl (by kernel_rfl) (Un.no 10 46 false rfl rfl rfl rfl) ?_
      refine DE.t 15 (v := (Value.bool true)) rfl (by kernel_rfl) (Wn.no rfl) rfl (R.pickT rfl rfl) ?_
      refine DE.t 16 (v := (Value.bool true)) rfl (by kernel_rfl) (Wn.no rfl) rfl (R.move rfl) ?_
      refine DE.u 17 rfl (by kernel_rfl) (Un.no 16 52 false rfl rfl rfl rfl) ?_
      refine DE.u 18 rfl (by kernel_rfl) (Un.no 16 52 false rfl rfl rfl rfl) ?_
      refine DE.u 19 rfl (by kernel_rfl) (Un.no 16 52 false rfl rfl rfl rfl) ?_
      refine DE.u 20 rfl (by kernel_rfl) (Un.no 16 52 false rfl rfl rfl rfl) ?_
      refine DE.u 21 rfl (by kernel_rfl) (Un.no 16 52 false rfl rfl rfl rfl) ?_
      refine DE.u 22 rfl (by kernel_rfl) (Un.no 16 52 false rfl rfl rfl rfl) ?_
      refine DE.u 23 rfl (by kernel_rfl) (Un.no 16 52 false rfl rfl rfl rfl) ?_
      refine DE.u 24 rfl (by kernel_rfl) (Un.no 16 52 false rfl rfl rfl rfl) ?_
      refine DE.u 25 rfl (by kernel_rfl) (Un.no 16 52 false rfl rfl rfl rfl) ?_
      refine DE.t 26 (v := (Value.bool true)) rfl (by kernel_rfl) (Wn.no rfl) rfl (R.pickT rfl rfl) ?_
      refine DE.done (by kernel_rfl) ?_
      exact ⟨_, h, rfl, rfl⟩
    · refine DE.t 3 (v := (Value.int .i64 r9)) rfl (by kernel_rfl) (Wn.yes 2 38 false rfl rfl rfl (congrArg Value.bool hb17)) rfl (R.move rfl) ?_
      refine DE.t 4 (v := (Value.bool (r9 != (0 : Int)))) rfl (by kernel_rfl) (Wn.yes 2 38 false rfl rfl rfl (congrArg Value.bool hb17)) rfl (R.neq rfl rfl) ?_
      refine DE.t 5 (v := (Value.bool (r9 != (0 : Int)))) rfl (by kernel_rfl) (Wn.no rfl) rfl (R.pickF (congrArg Value.bool hb17) rfl) ?_
      refine DE.t 6 (v := (Value.bool (r9 != (0 : Int)))) rfl (by kernel_rfl) (Wn.no rfl) rfl (R.move rfl) ?_
      rcases M.ite_use h with ⟨hb18, h⟩ | ⟨hb18, h⟩
      · refine DE.u 7 rfl (by kernel_rfl) (Un.no 6 42 false rfl rfl rfl (congrArg Value.bool hb18)) ?_
        refine DE.u 8 rfl (by kernel_rfl) (Un.no 6 42 false rfl rfl rfl (congrArg Value.bool hb18)) ?_
        refine DE.t 9 (v := (Value.bool true)) rfl (by kernel_rfl) (Wn.no rfl) rfl (R.pickT (congrArg Value.bool hb18) rfl) ?_
        refine DE.t 10 (v := (Value.bool true)) rfl (by kernel_rfl) (Wn.no rfl) rfl (R.move rfl) ?_
        refine DE.u 11 rfl (by kernel_rfl) (Un.no 10 46 false rfl rfl rfl rfl) ?_
        refine DE.u 12 rfl (by kernel_rfl) (Un.no 10 46 false rfl rfl rfl rfl) ?_
        refine DE.u 13 rfl (by kernel_rfl) (Un.no 10 46 false rfl rfl rfl rfl) ?_
        refine DE.u 14 rfl (by kernel_rfl) (Un.no 10 46 false rfl rfl rfl rfl) ?_
        refine DE.t 15 (v := (Value.bool true)) rfl (by kernel_rfl) (Wn.no rfl) rfl (R.pickT rfl rfl) ?_
        refine DE.t 16 (v := (Value.bool true)) rfl (by kernel_rfl) (Wn.no rfl) rfl (R.move rfl) ?_
        refine DE.u 17 rfl (by kernel_rfl) (Un.no 16 52 false rfl rfl rfl rfl) ?_
        refine DE.u 18 rfl (by kernel_rfl) (Un.no 16 52 false rfl rfl rfl rfl) ?_
        refine DE.u 19 rfl (by kernel_rfl) (Un.no 16 52 false rfl rfl rfl rfl) ?_
        refine DE.u 20 rfl (by kernel_rfl) (Un.no 16 52 false rfl rfl rfl rfl) ?_
        refine DE.u 21 rfl (by kernel_rfl) (Un.no 16 52 false rfl rfl rfl rfl) ?_
        refine DE.u 22 rfl (by kernel_rfl) (Un.no 16 52 false rfl rfl rfl rfl) ?_
        refine DE.u 23 rfl (by kernel_rfl) (Un.no 16 52 false rfl rfl rfl rfl) ?_
        refine DE.u 24 rfl (by kernel_rfl) (Un.no 16 52 false rfl rfl rfl rfl) ?_
        refine DE.u 25 rfl (by kernel_rfl) (Un.no 16 52 false rfl rfl rfl rfl) ?_
        refine DE.t 26 (v := (Value.bool true)) rfl (by kernel_rfl) (Wn.no rfl) rfl (R.pickT rfl rfl) ?_
        refine DE.done (by kernel_rfl) ?_
        exact ⟨_, h, rfl, rfl⟩
      · refine DE.t 7 (v := (Value.bool r12)) rfl (by kernel_rfl) (Wn.yes 6 42 false rfl rfl rfl (congrArg Value.bool hb18)) rfl (R.move rfl) ?_
        refine DE.t 8 (v := (Value.bool (!r12))) rfl (by kernel_rfl) (Wn.yes 6 42 false rfl rfl rfl (congrArg Value.bool hb18)) rfl (R.not rfl) ?_
        refine DE.t 9 (v := (Value.bool (!r12))) rfl (by kernel_rfl) (Wn.no rfl) rfl (R.pickF (congrArg Value.bool hb18) rfl) ?_
        refine DE.t 10 (v := (Value.bool (!r12))) rfl (by kernel_rfl) (Wn.no rfl) rfl (R.move rfl) ?_
        rcases M.ite_use h with ⟨hb19, h⟩ | ⟨hb19, h⟩
        · refine DE.u 11 rfl (by kernel_rfl) (Un.no 10 46 false rfl rfl rfl (congrArg Value.bool hb19)) ?_
          refine DE.u 12 rfl (by kernel_rfl) (Un.no 10 46 false rfl rfl rfl (congrArg Value.bool hb19)) ?_
          refine DE.u 13 rfl (by kernel_rfl) (Un.no 10 46 false rfl rfl rfl (congrArg Value.bool hb19)) ?_
          refine DE.u 14 rfl (by kernel_rfl) (Un.no 10 46 false rfl rfl rfl (congrArg Value.bool hb19)) ?_
          refine DE.t 15 (v := (Value.bool true)) rfl (by kernel_rfl) (Wn.no rfl) rfl (R.pickT (congrArg Value.bool hb19) rfl) ?_
          refine DE.t 16 (v := (Value.bool true)) rfl (by kernel_rfl) (Wn.no rfl) rfl (R.move rfl) ?_
          refine DE.u 17 rfl (by kernel_rfl) (Un.no 16 52 false rfl rfl rfl rfl) ?_
          refine DE.u 18 rfl (by kernel_rfl) (Un.no 16 52 false rfl rfl rfl rfl) ?_
          refine DE.u 19 rfl (by kernel_rfl) (Un.no 16 52 false rfl rfl rfl rfl) ?_
          refine DE.u 20 rfl (by kernel_rfl) (Un.no 16 52 false rfl rfl rfl rfl) ?_
          refine DE.u 21 rfl (by kernel_rfl) (Un.no 16 52 false rfl rfl rfl rfl) ?_
          refine DE.u 22 rfl (by kernel_rfl) (Un.no 16 52 false rfl rfl rfl rfl) ?_
          refine DE.u 23 rfl (by kernel_rfl) (Un.no 16 52 false rfl rfl rfl rfl) ?_
          refine DE.u 24 rfl (by kernel_rfl) (Un.no 16 52 false rfl rfl rfl rfl) ?_
          refine DE.u 25 rfl (by kernel_rfl) (Un.no 16 52 false rfl rfl rfl rfl) ?_
          refine DE.t 26 (v := (Value.bool true)) rfl (by kernel_rfl) (Wn.no rfl) rfl (R.pickT rfl rfl) ?_
          refine DE.done (by kernel_rfl) ?_
          exact ⟨_, h, rfl, rfl⟩
        · refine DE.t 11 (v := (SV.v r11)) rfl (by kernel_rfl) (Wn.yes 10 46 false rfl rfl rfl (congrArg Value.bool hb19)) rfl (R.move rfl) ?_
          refine DE.t 12 (v := (SV.v r1)) rfl (by kernel_rfl) (Wn.yes 10 46 false rfl rfl rfl (congrArg Value.bool hb19)) rfl (R.move rfl) ?_
          refine DE.main 13 (by kernel_rfl) ?_
          refine One.c 13 rfl (Wn.yes 10 46 false rfl rfl rfl (congrArg Value.bool hb19)) rfl (R.call bd18 (Ls.cons rfl (Ls.cons rfl Ls.nil)) rfl) (Calls.mono h ?_)
          rintro _ w21 ⟨r20, rfl, h⟩
          refine ⟨_, rfl, trivial, ?_⟩
          refine DE.t 14 (v := (Value.bool (!r20))) rfl (by kernel_rfl) (Wn.yes 10 46 false rfl rfl rfl (congrArg Value.bool hb19)) rfl (R.not rfl) ?_
          refine DE.t 15 (v := (Value.bool (!r20))) rfl (by kernel_rfl) (Wn.no rfl) rfl (R.pickF (congrArg Value.bool hb19) rfl) ?_
          refine DE.t 16 (v := (Value.bool (!r20))) rfl (by kernel_rfl) (Wn.no rfl) rfl (R.move rfl) ?_
          rcases M.ite_use h with ⟨hb22, h⟩ | ⟨hb22, h⟩
          · refine DE.u 17 rfl (by kernel_rfl) (Un.no 16 52 false rfl rfl rfl (congrArg Value.bool hb22)) ?_
            refine DE.u 18 rfl (by kernel_rfl) (Un.no 16 52 false rfl rfl rfl (congrArg Value.bool hb22)) ?_
            refine DE.u 19 rfl (by kernel_rfl) (Un.no 16 52 false rfl rfl rfl (congrArg Value.bool hb22)) ?_
            refine DE.u 20 rfl (by kernel_rfl) (Un.no 16 52 false rfl rfl rfl (congrArg Value.bool hb22)) ?_
            refine DE.u 21 rfl (by kernel_rfl) (Un.no 16 52 false rfl rfl rfl (congrArg Value.bool hb22)) ?_
            refine DE.u 22 rfl (by kernel_rfl) (Un.no 16 52 false rfl rfl rfl (congrArg Value.bool hb22)) ?_
            refine DE.u 23 rfl (by kernel_rfl) (Un.no 16 52 false rfl rfl rfl (congrArg Value.bool hb22)) ?_
            refine DE.u 24 rfl (by kernel_rfl) (Un.no 16 52 false rfl rfl rfl (congrArg Value.bool hb22)) ?_
            refine DE.u 25 rfl (by kernel_rfl) (Un.no 16 52 false rfl rfl rfl (congrArg Value.bool hb22)) ?_
            refine DE.t 26 (v := (Value.bool true)) rfl (by kernel_rfl) (Wn.no rfl) rfl (R.pickT (congrArg Value.bool hb22) rfl) ?_
            refine DE.done (by kernel_rfl) ?_
            exact ⟨_, h, rfl, rfl⟩
          · refine DE.t 17 (v := (SV.v r5)) rfl (by kernel_rfl) (Wn.yes 16 52 false rfl rfl rfl (congrArg Value.bool hb22)) rfl (R.move rfl) ?_
            refine DE.t 19 (v := (SV.v r8)) rfl (by kernel_rfl) (Wn.yes 16 52 false rfl rfl rfl (congrArg Value.bool hb22)) rfl (R.move rfl) ?_
            refine DE.t 22 (v := (SV.v r1)) rfl (by kernel_rfl) (Wn.yes 16 52 false rfl rfl rfl (congrArg Value.bool hb22)) rfl (R.move rfl) ?_
            refine DE.t 23 (v := (SV.v r3)) rfl (by kernel_rfl) (Wn.yes 16 52 false rfl rfl rfl (congrArg Value.bool hb22)) rfl (R.move rfl) ?_
            obtain ⟨t23, h24, h⟩ := h
            refine DE.hold 18 (fun w => (convert 40 9 (SV.v r5)).run Try.prog w = .ok (.string t23) w) (v := (Value.string t23)) rfl (by kernel_rfl) (Wn.yes 16 52 false rfl rfl rfl (congrArg Value.bool hb22)) rfl h24 (fun w hs => R.b2s (s := r5) hs rfl) ?_
            obtain ⟨t25, h26, h⟩ := h
            refine DE.hold 20 (fun w => (convert 40 9 (SV.v r8)).run Try.prog w = .ok (.string t25) w) (v := (Value.string t25)) rfl (by kernel_rfl) (Wn.yes 16 52 false rfl rfl rfl (congrArg Value.bool hb22)) rfl h26 (fun w hs => R.b2s (s := r8) hs rfl) ?_
            refine DE.t 21 (v := (Value.bool (t23.toList == t25.toList))) rfl (by kernel_rfl) (Wn.yes 16 52 false rfl rfl rfl (congrArg Value.bool hb22)) rfl (R.seql rfl rfl) ?_
            refine DE.main 24 (by kernel_rfl) ?_
            refine One.c 24 rfl (Wn.yes 16 52 false rfl rfl rfl (congrArg Value.bool hb22)) rfl (R.call bd18 (Ls.cons rfl (Ls.cons rfl Ls.nil)) rfl) (Calls.mono h ?_)
            rintro _ w28 ⟨r27, rfl, h⟩
            obtain ⟨k29, h⟩ := h
            obtain ⟨k30, h⟩ := h
            refine ⟨_, rfl, ⟨fun _ => k29, fun _ => k30, trivial⟩, ?_⟩
            refine DE.t 25 (v := (Value.bool (!((t23.toList == t25.toList) == r27)))) rfl (by kernel_rfl) (Wn.yes 16 52 false rfl rfl rfl (congrArg Value.bool hb22)) rfl (R.bneq bo4 rfl rfl) ?_
            refine DE.t 26 (v := (Value.bool (!((t23.toList == t25.toList) == r27)))) rfl (by kernel_rfl) (Wn.no rfl) rfl (R.pickF (congrArg Value.bool hb22) rfl) ?_
            refine DE.done (by kernel_rfl) ?_
            exact ⟨_, h, rfl, rfl⟩
  · rintro e31 w32 ⟨x15, h, f33, f34⟩
    subst hJ14
    refine WE.condT rfl (b := x15) f34 ?_ ?_
    · intro hb35
      replace h := M.ite_t h hb35
      refine WE.seq ?_
      refine WE.reg ?_
      refine LE.p (v := (Value.bool false)) (Wn.no rfl) rfl (R.assign rfl) ?_
      refine LE.nil ?_
      refine WE.ret ?_
      exact ⟨_, (Res.tmp rfl Res.nil), _, rfl, h⟩
    · intro hb35
      replace h := M.ite_f h hb35
      refine WE.skip ?_
      refine WE.seq ?_
      refine WE.reg ?_
      refine LE.p (v := (SV.v p2)) (Wn.no rfl) rfl (R.move f33) ?_
      refine LE.c (Wn.no rfl) rfl (R.call bd22 (Ls.cons rfl (Ls.cons rfl Ls.nil)) rfl) (Calls.mono h ?_)
      rintro _ w37 ⟨r36, rfl, h⟩
      refine ⟨_, rfl, ?_⟩
      refine LE.p (v := (SV.v r36)) (Wn.no rfl) rfl (R.assign rfl) ?_
      refine LE.nil ?_
      refine WE.seq ?_
      refine WE.reg ?_
      refine LE.p (v := (SV.v r36)) (Wn.no rfl) rfl (R.move rfl) ?_
      refine LE.c (Wn.no rfl) rfl (R.call bd20 (Ls.cons rfl Ls.nil) rfl) (Calls.mono h ?_)
      rintro _ w40 ⟨r38, r39, rfl, h⟩
      refine ⟨_, rfl, ?_⟩
      refine LE.p (v := (Value.tuple #[(SV.v r38), (Value.bool r39)])) (Wn.no rfl) rfl (R.move rfl) ?_
      refine LE.p (v := (SV.v r38)) (Wn.no rfl) rfl (R.ext rfl rfl) ?_
      refine LE.p (v := (Value.bool r39)) (Wn.no rfl) rfl (R.ext rfl rfl) ?_
      refine LE.p (v := (SV.v r38)) (Wn.no rfl) rfl (R.assign rfl) ?_
      refine LE.p (v := (Value.bool r39)) (Wn.no rfl) rfl (R.assign rfl) ?_
      refine LE.nil ?_
      refine WE.seq ?_
      refine WE.seq ?_
      refine WE.reg ?_
      refine LE.p (v := (Value.bool r39)) (Wn.no rfl) rfl (R.move rfl) ?_
      refine LE.nil ?_
      refine WE.condT rfl (b := r39) rfl ?_ ?_
      · intro hb41
        replace h := M.ite_t h hb41
        refine WE.seq ?_
        refine WE.reg ?_
        refine LE.p (v := (SV.v r38)) (Wn.no rfl) rfl (R.move rfl) ?_
        refine LE.c (Wn.no rfl) rfl (R.call bd19 (Ls.cons rfl Ls.nil) rfl) (Calls.mono h ?_)
        rintro _ w44 ⟨r42, r43, rfl, h⟩
        refine ⟨_, rfl, ?_⟩
        refine LE.p (v := (Value.tuple #[(SV.v r42), (Value.int .i64 r43)])) (Wn.no rfl) rfl (R.move rfl) ?_
        refine LE.p (v := (SV.v r42)) (Wn.no rfl) rfl (R.ext rfl rfl) ?_
        refine LE.p (v := (Value.int .i64 r43)) (Wn.no rfl) rfl (R.ext rfl rfl) ?_
        refine LE.p (v := (SV.v r42)) (Wn.no rfl) rfl (R.assign rfl) ?_
        refine LE.p (v := (Value.int .i64 r43)) (Wn.no rfl) rfl (R.assign rfl) ?_
        refine LE.nil ?_
        refine WE.seq ?_
        obtain ⟨J45, hJ45, h⟩ := M.join_use h
        refine WE.regJ (fun e w => ∃ (x46 : Bool), J45 x46 w ∧ e 6 = (Value.bool x46)) ?_ ?_
        · clear hJ45
          refine LE.p (v := (Value.int .i64 r43)) (Wn.no rfl) rfl (R.move rfl) ?_
          refine LE.p (v := (Value.bool (r43 == (0 : Int)))) (Wn.no rfl) rfl (R.eql rfl rfl) ?_
          refine LE.p (v := (Value.bool (r43 == (0 : Int)))) (Wn.no rfl) rfl (R.move rfl) ?_
          rcases M.ite_use h with ⟨hb47, h⟩ | ⟨hb47, h⟩
          · refine LE.p (v := (SV.v r42)) (Wn.yes 2 78 true rfl rfl rfl (congrArg Value.bool hb47)) rfl (R.move rfl) ?_
            obtain ⟨t48, h49, h⟩ := h
            refine LE.r (v := (Value.string t48)) (Wn.yes 2 78 true rfl rfl rfl (congrArg Value.bool hb47)) rfl (R.b2s (s := r42) h49 rfl) ?_
            refine LE.p (v := (SV.v r36)) (Wn.yes 2 78 true rfl rfl rfl (congrArg Value.bool hb47)) rfl (R.move rfl) ?_
            obtain ⟨t50, h51, h⟩ := h
            refine LE.r (v := (Value.string t50)) (Wn.yes 2 78 true rfl rfl rfl (congrArg Value.bool hb47)) rfl (R.b2s (s := r36) h51 rfl) ?_
            refine LE.p (v := (Value.bool (t48.toList == t50.toList))) (Wn.yes 2 78 true rfl rfl rfl (congrArg Value.bool hb47)) rfl (R.seql rfl rfl) ?_
            refine LE.p (v := (Value.bool (t48.toList == t50.toList))) (Wn.no rfl) rfl (R.pickT (congrArg Value.bool hb47) rfl) ?_
            refine LE.p (v := (Value.bool (t48.toList == t50.toList))) (Wn.no rfl) rfl (R.move rfl) ?_
            rcases M.ite_use h with ⟨hb52, h⟩ | ⟨hb52, h⟩
            · refine LE.p (v := (SV.v r38)) (Wn.yes 9 85 true rfl rfl rfl (congrArg Value.bool hb52)) rfl (R.move rfl) ?_
              refine LE.c (Wn.yes 9 85 true rfl rfl rfl (congrArg Value.bool hb52)) rfl (R.call bd12 (Ls.cons rfl Ls.nil) rfl) (Calls.mono h ?_)
              rintro _ w54 ⟨r53, rfl, h⟩
              refine ⟨_, rfl, ?_⟩
              refine LE.p (v := (Value.bool r53)) (Wn.no rfl) rfl (R.pickT (congrArg Value.bool hb52) rfl) ?_
              refine LE.p (v := (Value.bool r53)) (Wn.no rfl) rfl (R.move rfl) ?_
              rcases M.ite_use h with ⟨hb55, h⟩ | ⟨hb55, h⟩
              · refine LE.c (Wn.yes 13 89 true rfl rfl rfl (congrArg Value.bool hb55)) rfl (R.call bd14 Ls.nil rfl) (Calls.mono h ?_)
                rintro _ w57 ⟨r56, rfl, h⟩
                refine ⟨_, rfl, ?_⟩
                refine LE.p (v := (Value.bool r56)) (Wn.no rfl) rfl (R.pickT (congrArg Value.bool hb55) rfl) ?_
                refine LE.p (v := (Value.bool r56)) (Wn.no rfl) rfl (R.assign rfl) ?_
                refine LE.nil ?_
                exact ⟨_, h, rfl⟩
              · refine LE.u (Un.no 13 89 true rfl rfl rfl (congrArg Value.bool hb55)) ?_
                refine LE.p (v := (Value.bool false)) (Wn.no rfl) rfl (R.pickF (congrArg Value.bool hb55) rfl) ?_
                refine LE.p (v := (Value.bool false)) (Wn.no rfl) rfl (R.assign rfl) ?_
                refine LE.nil ?_
                exact ⟨_, h, rfl⟩
            · refine LE.u (Un.no 9 85 true rfl rfl rfl (congrArg Value.bool hb52)) ?_
              refine LE.u (Un.no 9 85 true rfl rfl rfl (congrArg Value.bool hb52)) ?_
              refine LE.p (v := (Value.bool false)) (Wn.no rfl) rfl (R.pickF (congrArg Value.bool hb52) rfl) ?_
              refine LE.p (v := (Value.bool false)) (Wn.no rfl) rfl (R.move rfl) ?_
              refine LE.u (Un.no 13 89 true rfl rfl rfl rfl) ?_
              refine LE.p (v := (Value.bool false)) (Wn.no rfl) rfl (R.pickF rfl rfl) ?_
              refine LE.p (v := (Value.bool false)) (Wn.no rfl) rfl (R.assign rfl) ?_
              refine LE.nil ?_
              exact ⟨_, h, rfl⟩
          · refine LE.u (Un.no 2 78 true rfl rfl rfl (congrArg Value.bool hb47)) ?_
            refine LE.u (Un.no 2 78 true rfl rfl rfl (congrArg Value.bool hb47)) ?_
            refine LE.u (Un.no 2 78 true rfl rfl rfl (congrArg Value.bool hb47)) ?_
            refine LE.u (Un.no 2 78 true rfl rfl rfl (congrArg Value.bool hb47)) ?_
            refine LE.u (Un.no 2 78 true rfl rfl rfl (congrArg Value.bool hb47)) ?_
            refine LE.p (v := (Value.bool false)) (Wn.no rfl) rfl (R.pickF (congrArg Value.bool hb47) rfl) ?_
            refine LE.p (v := (Value.bool false)) (Wn.no rfl) rfl (R.move rfl) ?_
            refine LE.u (Un.no 9 85 true rfl rfl rfl rfl) ?_
            refine LE.u (Un.no 9 85 true rfl rfl rfl rfl) ?_
            refine LE.p (v := (Value.bool false)) (Wn.no rfl) rfl (R.pickF rfl rfl) ?_
            refine LE.p (v := (Value.bool false)) (Wn.no rfl) rfl (R.move rfl) ?_
            refine LE.u (Un.no 13 89 true rfl rfl rfl rfl) ?_
            refine LE.p (v := (Value.bool false)) (Wn.no rfl) rfl (R.pickF rfl rfl) ?_
            refine LE.p (v := (Value.bool false)) (Wn.no rfl) rfl (R.assign rfl) ?_
            refine LE.nil ?_
            exact ⟨_, h, rfl⟩
        · rintro e58 w59 ⟨x46, h, f60⟩
          subst hJ45
          refine WE.ret ?_
          exact ⟨_, (Res.tmp f60 Res.nil), _, rfl, h⟩
      · intro hb41
        replace h := M.ite_f h hb41
        refine WE.skip ?_
        refine WE.seq ?_
        obtain ⟨J61, hJ61, h⟩ := M.join_use h
        refine WE.regJ (fun e w => ∃ (x62 : Bool), J61 x62 w ∧ e 6 = (Value.bool x62)) ?_ ?_
        · clear hJ61
          refine LE.p (v := (SV.v r38)) (Wn.no rfl) rfl (R.move rfl) ?_
          refine LE.p (v := (Value.int .i64 (r38.len : Int))) (Wn.no rfl) rfl (R.len sl24 rfl) ?_
          refine LE.p (v := (Value.bool ((r38.len : Int) == (0 : Int)))) (Wn.no rfl) rfl (R.eql rfl rfl) ?_
          refine LE.p (v := (Value.bool ((r38.len : Int) == (0 : Int)))) (Wn.no rfl) rfl (R.move rfl) ?_
          rcases M.ite_use h with ⟨hb63, h⟩ | ⟨hb63, h⟩
          · refine LE.c (Wn.yes 3 95 true rfl rfl rfl (congrArg Value.bool hb63)) rfl (R.call bd14 Ls.nil rfl) (Calls.mono h ?_)
            rintro _ w65 ⟨r64, rfl, h⟩
            refine ⟨_, rfl, ?_⟩
            refine LE.p (v := (Value.bool r64)) (Wn.no rfl) rfl (R.pickT (congrArg Value.bool hb63) rfl) ?_
            refine LE.p (v := (Value.bool r64)) (Wn.no rfl) rfl (R.assign rfl) ?_
            refine LE.nil ?_
            exact ⟨_, h, rfl⟩
          · refine LE.u (Un.no 3 95 true rfl rfl rfl (congrArg Value.bool hb63)) ?_
            refine LE.p (v := (Value.bool false)) (Wn.no rfl) rfl (R.pickF (congrArg Value.bool hb63) rfl) ?_
            refine LE.p (v := (Value.bool false)) (Wn.no rfl) rfl (R.assign rfl) ?_
            refine LE.nil ?_
            exact ⟨_, h, rfl⟩
        · rintro e66 w67 ⟨x62, h, f68⟩
          subst hJ61
          refine WE.ret ?_
          exact ⟨_, (Res.tmp f68 Res.nil), _, rfl, h⟩
end Go.Proofs.Ytflffabmfoldeaa
